/-
  A PART OF THE PROOF. Conditions: none.
-/
import Derived.Test.YtbmnikpknlkbkaaGreatEc7
set_option linter.unusedSimpArgs false
set_option linter.unusedVariables false
namespace Go.Proofs.YtbmnikpknlkbkaaGreat
def mB(P:Program)(g:FuncId)(ds:List D)(Kf Kb KX:V->Prop):Prop:=
 (∃rs,cR P g ds (.ret rs)/\(Kf (gQ rs)\/(D.gq rs=true/\Kb (gQ rs))))\/(∃x,cR P g ds (.ba x)/\x.flat=true/\KX (.d x))\/(∃v,Fb P g ds v/\Kf v)
def e7(P:Program)(g:FuncId)(args:List V)(o:Nat->aa)(nx fr:Nat)(K:V->List (Nat×aa)->List Nat->Prop)(KX:V->List Nat->List Nat->Prop):Prop:=
 ∃rd Δ,rd.all (fun id=>decide (id<nx))=true/\((∃rs,xz P g args rd o (.ret rs) Δ/\K (gQ rs) Δ rd)\/(∃x,xz P g args rd o (.ba x) Δ/\KX (.d x) (Δ.map (·.1)) rd)\/(∃v,tO P g args rd o fr v Δ/\K v Δ rd))
def rj(P:Program)(s:S)(fr:Nat)(o:bz)(K:V->List (Nat×aa)->List Nat->Prop)(KX:V->List Nat->List Nat->Prop):Prop:=
 match o.op with
 | .call c=>match c.callee with
   | .value f=>match s.ev f with
     | .func (.func g) first cap=>match bt s.o (first++c.args.toList.map s.ev++cap)with
       |some ds=>mB P g ds (fun v=>K v (b8 s.o (V.aP (first++c.args.toList.map s.ev++cap))) (ft s o.op)) (fun v=>K v [] (ft s o.op)) (fun v=>KX v [] (ft s o.op))\/e7 P g (first++c.args.toList.map s.ev++cap) s.o s.nx fr K KX
       |none=>e7 P g (first++c.args.toList.map s.ev++cap) s.o s.nx fr K KX
     |_=>False
   |_=>match ei P s fr o.op with
    |some (v,Δ,_)=>K v Δ (ft s o.op)
    |none=>False
 |op=>match ei P s fr op with
  |some (v,Δ,_)=>K v Δ (ft s o.op)
  |none=>False
abbrev Fp:=List (List Nat×List Nat)
def eN(P:Program)(KB:List Nat->Fp->Prop)(pr:List (List Nat)):List bz->Nat->S->Fp->List Nat->List Nat->Prop
 |[],_,_,fp,_,ws=>KB ws fp
 |o::l,fr,s,fp,bad,ws=>if(pr.getD fp.length []).any (fun j=>bad.contains j)=true then eN P KB pr l (fr+1) ⟨aJ s.env o.dst .aE,s.o,s.nx⟩ (fp++[([],[])]) (bad++[fp.length]) ws
  else match o.gd with
  |none=>rj P s fr o (fun v Δ rd=>eN P KB pr l (fr+1) ⟨aJ s.env o.dst v,put s.o Δ,s.nx⟩ (fp++[(rd,Δ.map (·.1))]) bad (ws++Δ.map (·.1))) (fun _ _ _=>False)
  |some (d,want)=>match s.env d with
   | .d (.bool b)=>if b=want then rj P s fr o (fun v Δ rd=>eN P KB pr l (fr+1) ⟨aJ s.env o.dst v,put s.o Δ,s.nx⟩ (fp++[(rd,Δ.map (·.1))]) bad (ws++Δ.map (·.1))) (fun _ _ _=>False)
    else eN P KB pr l (fr+1) ⟨aJ s.env o.dst (.bJ []),s.o,s.nx⟩ (fp++[([],[])]) bad ws
   | .bJ []=>eN P KB pr l (fr+1) ⟨aJ s.env o.dst (.bJ []),s.o,s.nx⟩ (fp++[([],[])]) bad ws
   |_=>False
def gC(P:Program)(K:S->Fp->Prop)(KP:V->List Nat->Fp->Prop)(pr:List (List Nat)):List bz->Nat->S->Fp->Prop
 |[],_,s,fp=>K s fp
 |o::l,fr,s,fp=>match o.gd with
  |none=>rj P s fr o (fun v Δ rd=>gC P K KP pr l (fr+1) ⟨aJ s.env o.dst v,put s.o Δ,s.nx⟩ (fp++[(rd,Δ.map (·.1))]))
   (fun v ws rd=>eN P (KP v) pr l (fr+1) ⟨aJ s.env o.dst .aE,s.o,s.nx⟩ (fp++[(rd,[])]) [fp.length] (ws++fp.flatMap (·.2)))
  |some (d,want)=>match s.env d with
   | .d (.bool b)=>if b=want then rj P s fr o (fun v Δ rd=>gC P K KP pr l (fr+1) ⟨aJ s.env o.dst v,put s.o Δ,s.nx⟩ (fp++[(rd,Δ.map (·.1))]))
         (fun v ws rd=>eN P (KP v) pr l (fr+1) ⟨aJ s.env o.dst .aE,s.o,s.nx⟩ (fp++[(rd,[])]) [fp.length] (ws++fp.flatMap (·.2)))
    else gC P K KP pr l (fr+1) ⟨aJ s.env o.dst (.bJ []),s.o,s.nx⟩ (fp++[([],[])])
   | .bJ []=>gC P K KP pr l (fr+1) ⟨aJ s.env o.dst (.bJ []),s.o,s.nx⟩ (fp++[([],[])])
   |_=>False
def tW(pr:List (List Nat))(nx:Nat)(Q:eY->S->Prop)(s:S)(fp:Fp):Prop:=fC pr fp=true/\Q .normal ⟨s.env,s.o,nx⟩
def dstsOf(l:List bz):List Nat:=l.filterMap (·.dst)
def ss(pr:List (List Nat))(l:List bz)(s0:S)(Q:eY->S->Prop)(v:V)(wl:List Nat)(fp:Fp):Prop:=fC pr fp=true/\Q (.ba v) (nU (dstsOf l) wl l.length s0)
def jf:List bz->List dD->S->Nat->S
 |_,_,s,0=>s
 |o::l,x::xs,s,j+1=>jf l xs (oD o.dst x s) j
 |_,_,s,_=>s
def pE(bu:List dD):Fp:=bu.map fun x=>(oR x,gA x)
section
variable {P:Program}{n b:Nat}
theorem su{s:S}{fr:Nat}{o:bz}{K:V->List (Nat×aa)->List Nat->Prop}{KX:V->List Nat->List Nat->Prop}(h:rj P s fr o K KX):(∃v Δ rd,pA P s fr o.op v Δ rd/\K v Δ rd)\/(∃v ws rd,sf P s o.op v ws rd/\KX v ws rd):=by
 have hs:∀ {op:Op},o.op=op->(match ei P s fr op with|some (v,Δ,_)=>K v Δ (ft s o.op)|none=>False)->(∃v Δ rd,pA P s fr o.op v Δ rd/\K v Δ rd):=by
  intro op cw h
  split at h
  ·rename_i v Δ rd he;exact⟨v,Δ,_, .inl ⟨⟨rd,by rw[cw];exact he⟩,rfl⟩,h⟩
  ·exact h.elim
 unfold rj at h
 split at h
 ·rename_i c hc
  split at h
  ·rename_i f cQ
   split at h
   ·rename_i g first cap hf
    split at h
    ·rename_i ds dp
     rcases h with(⟨rs,hP,h|⟨ku,h⟩⟩|⟨x,hP,ku,h⟩|⟨v,hP,h⟩)|⟨rd,Δ,jw,⟨rs,hH,h⟩|⟨x,hH,h⟩|⟨v,hH,h⟩⟩
     ·exact .inl ⟨_,_,_, .inr ⟨c,f,g,first,cap,hc,cQ,hf, .inl ⟨ds,rs,dp,hP,rfl,rfl, .inl rfl⟩⟩,h⟩
     ·exact .inl ⟨_,_,_, .inr ⟨c,f,g,first,cap,hc,cQ,hf, .inl ⟨ds,rs,dp,hP,rfl,rfl, .inr ⟨ku,rfl⟩⟩⟩,h⟩
     ·exact .inr ⟨_,_,_,⟨c,f,g,first,cap,hc,cQ,hf, .inl ⟨ds,x,dp,hP,ku,rfl,rfl,rfl⟩⟩,h⟩
     ·exact .inl ⟨_,_,_, .inr ⟨c,f,g,first,cap,hc,cQ,hf, .inr (.inr (.inl ⟨ds,dp,hP,rfl,rfl⟩))⟩,h⟩
     ·exact .inl ⟨_,_,_, .inr ⟨c,f,g,first,cap,hc,cQ,hf, .inr (.inl ⟨rs,hH,rfl,fun id ag=>by simpa using List.all_eq_true.1 jw id ag⟩)⟩,h⟩
     ·exact .inr ⟨_,_,_,⟨c,f,g,first,cap,hc,cQ,hf, .inr ⟨x,Δ,hH,rfl,rfl,fun id ag=>by simpa using List.all_eq_true.1 jw id ag⟩⟩,h⟩
     ·exact .inl ⟨_,_,_, .inr ⟨c,f,g,first,cap,hc,cQ,hf, .inr (.inr (.inr ⟨hH,fun id ag=>by simpa using List.all_eq_true.1 jw id ag⟩))⟩,h⟩
    ·obtain⟨rd,Δ,jw,⟨rs,hH,h⟩|⟨x,hH,h⟩|⟨v,hH,h⟩⟩:=h
     ·exact .inl ⟨_,_,_, .inr ⟨c,f,g,first,cap,hc,cQ,hf, .inr (.inl ⟨rs,hH,rfl,fun id ag=>by simpa using List.all_eq_true.1 jw id ag⟩)⟩,h⟩
     ·exact .inr ⟨_,_,_,⟨c,f,g,first,cap,hc,cQ,hf, .inr ⟨x,Δ,hH,rfl,rfl,fun id ag=>by simpa using List.all_eq_true.1 jw id ag⟩⟩,h⟩
     ·exact .inl ⟨_,_,_, .inr ⟨c,f,g,first,cap,hc,cQ,hf, .inr (.inr (.inr ⟨hH,fun id ag=>by simpa using List.all_eq_true.1 jw id ag⟩))⟩,h⟩
   ·exact h.elim
  ·rw[hc]at h;exact .inl (hs hc (by rw[hc];exact h))
 ·exact .inl (hs rfl h)
def zG(P:Program)(KB:List Nat->Fp->Prop)(pr:List (List Nat))(l:List bz)(fr:Nat)(s:S)(fp:Fp)(bad ws:List Nat):Prop:=
    ∃bu:List dD,bu.length=l.length/\(∀j o x,l[j]? =some o->bu[j]? =some x->Ba P (jf l bu s j) (fr+j) o x)/\
     (∀ (j:Nat),bu[j]? =some dD.cW->∃i∈pr.getD (fp.length+j) [],i∈bad\/∃j',j'<j/\i=fp.length+j'/\bu[j']? =some .cW)/\(∀x∈bu,x= .cW\/x.ok=true)/\
     ∃wl,KB wl (fp++pE bu)/\(∀id∈ws,id∈wl)/\∀x∈bu,∀id∈gA x,id∈wl
theorem sv{KB:List Nat->Fp->Prop}{pr:List (List Nat)}:∀ (l:List bz) (fr:Nat) (s:S) (fp:Fp) (bad ws:List Nat),eN P KB pr l fr s fp bad ws->zG P KB pr l fr s fp bad ws
 |[],fr,s,fp,bad,ws,h=>⟨[],rfl,fun j o x hj=>by simp at hj,fun j hj=>by simp at hj,fun x hx=>by simp at hx,ws,by simpa[pE,eN]using h,fun _ h=>h,fun x hx=>by simp at hx⟩
 |o::l,fr,s,fp,bad,ws,h=>by
  have step:∀ (x:dD) (zH Be:List Nat),Ba P s fr o x->eN P KB pr l (fr+1) (oD o.dst x s) (fp++[(oR x,gA x)]) zH Be->(x= .cW\/x.ok=true)->(x= .cW->∃i∈pr.getD fp.length [],i∈bad)->
   (∀i∈zH,i∈bad\/(i=fp.length/\x= .cW))->(∀id∈ws,id∈Be)->(∀id∈gA x,id∈Be)->
   zG P KB pr (o::l) fr s fp bad ws:=by
   intro x zH Be a8 hr OG Ca Cd zE hW
   obtain⟨bu,h1,h2,h3,h4,wl,h5,h6,h7⟩:=sv l (fr+1) _ _ zH Be hr
   refine⟨x::bu,by simp[h1],fun j o' y hj hy=> ?_,fun j hj=> ?_,fun y hy=> ?_,wl,by simpa[pE]using h5,fun id ag=>h6 id (zE id ag),fun y hy id ag=> ?_⟩
   ·cases j with
    |zero=>simp at hj hy;subst hj;subst hy;exact a8
    |succ j=>
     have:=h2 j o' y (by simpa using hj) (by simpa using hy)
     rw[show fr+(j+1)=fr+1+j by omega]
     exact this
   ·cases j with
    |zero=>
     simp at hj
     obtain⟨i,i1,i2⟩:=Ca hj
     exact⟨i,by simpa using i1, .inl i2⟩
    |succ j=>
     obtain⟨i,i1,i2⟩:=h3 j (by simpa using hj)
     simp only[List.length_append,List.length_cons,List.length_nil]at i1 i2
     refine⟨i,by rw[show fp.length+(j+1)=fp.length+(0+1)+j by omega];exact i1, ?_⟩
     rcases i2 with i2|⟨j',j1,j2,j3⟩
     ·rcases Cd i i2 with hb|⟨e1,e2⟩
      ·exact .inl hb
      ·exact .inr ⟨0,by omega,by omega,by simp[e2]⟩
     ·exact .inr ⟨j'+1,by omega,by omega,by simpa using j3⟩
   ·rcases List.mem_cons.1 hy with rfl|hy
    ·exact OG
    ·exact h4 y hy
   ·rcases List.mem_cons.1 hy with rfl|hy
    ·exact h6 id (hW id ag)
    ·exact h7 y hy id ag
  simp only[eN]at h
  split at h
  ·rename_i hb
   obtain⟨j,OH,zu⟩:=List.any_eq_true.1 hb
   exact step .cW _ _ trivial h (.inl rfl) (fun _=>⟨j,OH,by simpa using zu⟩) (fun i hi=>by
    rcases List.mem_append.1 hi with hi|hi
    ·exact .inl hi
    ·exact .inr ⟨by simpa using hi,rfl⟩) (fun _ h=>h) (fun id ag=>by simp[gA]at ag)
  ·have nX:cl s o.gd true->rj P s fr o (fun v Δ rd=>eN P KB pr l (fr+1) ⟨aJ s.env o.dst v,put s.o Δ,s.nx⟩ (fp++[(rd,Δ.map (·.1))]) bad (ws++Δ.map (·.1))) (fun _ _ _=>False)->zG P KB pr (o::l) fr s fp bad ws:=fun hg h=>by
    rcases su h with⟨v,Δ,rd,jO,h⟩|⟨v,Be,rd,_,h⟩
    ·exact step (.val v Δ rd) bad (ws++Δ.map (·.1)) ⟨hg,jO⟩ h (.inr rfl) (fun h=>by cases h) (fun i hi=> .inl hi) (fun id ag=>List.mem_append.2 (.inl ag)) (fun id ag=>List.mem_append.2 (.inr ag))
    ·exact h.elim
   have skip:cl s o.gd false->eN P KB pr l (fr+1) ⟨aJ s.env o.dst (.bJ []),s.o,s.nx⟩ (fp++[([],[])]) bad ws->zG P KB pr (o::l) fr s fp bad ws:=fun hg h=>
    step .skip bad ws hg h (.inr rfl) (fun h=>by cases h) (fun i hi=> .inl hi) (fun id ag=>ag) (fun id ag=>by simp[gA]at ag)
   split at h
   ·rename_i hg;exact nX (by rw[hg];rfl) h
   ·rename_i d want hg
    split at h
    ·rename_i c hv
     split at h
     ·rename_i e;exact nX (by rw[hg];simp[cl,hv,e]) h
     ·rename_i e;exact skip (by rw[hg];simp[cl,hv,e]) h
    ·rename_i hv;exact skip (by rw[hg];simp[cl,hv]) h
    ·exact h.elim
def xF(P:Program)(K:S->Fp->Prop)(KP:V->List Nat->Fp->Prop)(pr:List (List Nat))(l:List bz)(fr:Nat)(s:S)(fp:Fp):Prop:=
 ∃bu:List dD,bu.length=l.length/\(∀j o x,l[j]? =some o->bu[j]? =some x->Ba P (jf l bu s j) (fr+j) o x)/\
  (((∀x∈bu,x.ok=true)/\K (jf l bu s l.length) (fp++pE bu))\/
   ∃v wl,(∀ (j:Nat) (v':V) (ws rd:List Nat),bu[j]? =some (dD.ba v' ws rd)->v'=v/\∀id∈ws,id∈wl)/\(∃x∈bu,x.ok=false)/\
    (∀ (j:Nat),bu[j]? =some dD.cW->∃i∈pr.getD (fp.length+j) [],∃j',i=fp.length+j'/\∃y,bu[j']? =some y/\y.ok=false)/\KP v wl (fp++pE bu)/\(∀x∈bu,∀id∈gA x,id∈wl)/\∀id∈fp.flatMap (·.2),id∈wl)
theorem nY{K:S->Fp->Prop}{KP:V->List Nat->Fp->Prop}{pr:List (List Nat)}:∀ (l:List bz) (fr:Nat) (s:S) (fp:Fp),gC P K KP pr l fr s fp->xF P K KP pr l fr s fp
 |[],fr,s,fp,h=>⟨[],rfl,fun j o x hj=>by simp at hj, .inl ⟨fun x hx=>by simp at hx,by simpa[jf,pE,gC]using h⟩⟩
 |o::l,fr,s,fp,h=>by
  have step:∀ (x:dD),x.ok=true->Ba P s fr o x->gC P K KP pr l (fr+1) (oD o.dst x s) (fp++[(oR x,gA x)])->xF P K KP pr (o::l) fr s fp:=by
   intro x Fi a8 hr
   obtain⟨bu,h1,h2,h3⟩:=nY l (fr+1) _ _ hr
   refine⟨x::bu,by simp[h1],fun j o' y hj hy=> ?_, ?_⟩
   ·cases j with
    |zero=>simp at hj hy;subst hj;subst hy;exact a8
    |succ j=>
     have:=h2 j o' y (by simpa using hj) (by simpa using hy)
     rw[show fr+(j+1)=fr+1+j by omega]
     exact this
   ·rcases h3 with⟨h3,h4⟩|⟨v,wl,g1,g2,g3,g4,g5,g6⟩
    ·left
     refine⟨fun y hy=> ?_,by simpa[jf,pE]using h4⟩
     rcases List.mem_cons.1 hy with rfl|hy
     ·exact Fi
     ·exact h3 y hy
    ·right
     refine⟨v,wl,fun j v' ws rd hj=> ?_, ?_,fun j hj=> ?_,by simpa[pE]using g4,fun y hy id ag=> ?_,fun id ag=>g6 id (by simp only[List.flatMap_append,List.mem_append];exact .inl ag)⟩
     ·cases j with
      |zero=>simp at hj;rw[hj]at Fi;cases Fi
      |succ j=>exact g1 j v' ws rd (by simpa using hj)
     ·obtain⟨y,y1,y2⟩:=g2;exact⟨y,by simp[y1],y2⟩
     ·cases j with
      |zero=>simp at hj;rw[hj]at Fi;cases Fi
      |succ j=>
       obtain⟨i,i1,j',i2,y,i3,i4⟩:=g3 j (by simpa using hj)
       simp only[List.length_append,List.length_cons,List.length_nil]at i1 i2
       exact⟨i,by rw[show fp.length+(j+1)=fp.length+(0+1)+j by omega];exact i1,j'+1,by omega,y,by simpa using i3,i4⟩
     ·rcases List.mem_cons.1 hy with rfl|hy
      ·exact g6 id (by simp only[List.flatMap_append,List.mem_append];exact .inr (by simpa using ag))
      ·exact g5 y hy id ag
  have ba:∀ (v:V) (ws rd:List Nat),Ba P s fr o (.ba v ws rd)->eN P (KP v) pr l (fr+1) ⟨aJ s.env o.dst .aE,s.o,s.nx⟩ (fp++[(rd,[])]) [fp.length] (ws++fp.flatMap (·.2))->xF P K KP pr (o::l) fr s fp:=by
   intro v ws rd a8 hr
   obtain⟨bu,h1,h2,h3,h4,wl,h5,h6,h7⟩:=sv l (fr+1) _ _ _ _ hr
   refine⟨dD.ba v ws rd::bu,by simp[h1],fun j o' y hj hy=> ?_, .inr ⟨v,wl,fun j v' Be pz hj=> ?_,⟨dD.ba v ws rd,by simp,rfl⟩,fun j hj=> ?_,by simpa[pE,oR,gA]using h5,fun y hy id ag=> ?_,fun id ag=>h6 id (List.mem_append.2 (.inr ag))⟩⟩
   ·cases j with
    |zero=>simp at hj hy;subst hj;subst hy;exact a8
    |succ j=>
     have:=h2 j o' y (by simpa using hj) (by simpa using hy)
     rw[show fr+(j+1)=fr+1+j by omega]
     exact this
   ·cases j with
    |zero=>simp at hj;obtain⟨rfl,rfl,rfl⟩:=hj;exact⟨rfl,fun id ag=>h6 id (List.mem_append.2 (.inl ag))⟩
    |succ j=>
     have hm:=List.mem_of_getElem? (show bu[j]? =some (.ba v' Be pz) by simpa using hj)
     rcases h4 _ hm with h|h<;>cases h
   ·cases j with
    |zero=>simp at hj
    |succ j=>
     obtain⟨i,i1,i2⟩:=h3 j (by simpa using hj)
     simp only[List.length_append,List.length_cons,List.length_nil]at i1 i2
     refine⟨i,by rw[show fp.length+(j+1)=fp.length+(0+1)+j by omega];exact i1, ?_⟩
     rcases i2 with i2|⟨j',j1,j2,j3⟩
     ·exact⟨0,by simpa using i2,_,rfl,rfl⟩
     ·exact⟨j'+1,by omega, .cW,by simpa using j3,rfl⟩
   ·rcases List.mem_cons.1 hy with rfl|hy
    ·simp[gA]at ag
    ·exact h7 y hy id ag
  have nX:cl s o.gd true->rj P s fr o (fun v Δ rd=>gC P K KP pr l (fr+1) ⟨aJ s.env o.dst v,put s.o Δ,s.nx⟩ (fp++[(rd,Δ.map (·.1))]))
   (fun v ws rd=>eN P (KP v) pr l (fr+1) ⟨aJ s.env o.dst .aE,s.o,s.nx⟩ (fp++[(rd,[])]) [fp.length] (ws++fp.flatMap (·.2)))->xF P K KP pr (o::l) fr s fp:=fun hg h=>by
   rcases su h with⟨v,Δ,rd,jO,h⟩|⟨v,ws,rd,jO,h⟩
   ·exact step (.val v Δ rd) rfl ⟨hg,jO⟩ h
   ·exact ba v ws rd ⟨hg,jO⟩ h
  have skip:cl s o.gd false->gC P K KP pr l (fr+1) ⟨aJ s.env o.dst (.bJ []),s.o,s.nx⟩ (fp++[([],[])])->xF P K KP pr (o::l) fr s fp:=fun hg h=>step .skip rfl hg h
  simp only[gC]at h
  split at h
  ·rename_i hg;exact nX (by rw[hg];rfl) h
  ·rename_i d want hg
   split at h
   ·rename_i c hv
    split at h
    ·rename_i e;exact nX (by rw[hg];simp[cl,hv,e]) h
    ·rename_i e;exact skip (by rw[hg];simp[cl,hv,e]) h
   ·rename_i hv;exact skip (by rw[hg];simp[cl,hv]) h
   ·exact h.elim
end
end Go.Proofs.YtbmnikpknlkbkaaGreat
namespace Go.Proofs.YtbmnikpknlkbkaaGreat
def tX(env:Nat->V):List Nat->List V->Nat->V
 |t::ps,v::vs=>tX (aV env t v) ps vs
 |_,_=>env
def xG(pr:List (List Nat))(m:Nat):Bool:=(List.range pr.length).all fun k=>Nat.blt k m||Nat.beq ((dc pr []).getD k 0) (2^k - 1)
def xH(P:Program)(l:List bz)(pr:List (List Nat))(Q:eY->S->Prop)(s:S):Prop:=
 ∃m,m<=l.length/\xG pr m=true/\gC P (fun s' fp=>fC pr fp=true/\kf P (fun v s=>Q (.ba v) s) (Q .normal) (l.drop m) ⟨s'.env,s'.o,s.nx+m⟩) (fun _ _ _=>False) pr (l.take m) s.nx s []
def m9(P:Program)(n b:Nat)(rd:Bool):IC->(eY->S->Prop)->S->Prop
 | .skip,Q,s=>Q .normal s
 | .ab l,Q,s=>kf P (fun v s=>Q (.ba v) s) (Q .normal) l s
 | .dn l pr,Q,s=>gC P (tW pr (s.nx+l.length) Q) (ss pr l s Q) pr l s.nx s []\/xH P l pr Q s
 | .seq x y,Q,s=>m9 P n b rd x (kX (m9 P n b rd y Q) Q) s
 | .cond c x y,Q,s=>match s.ev c with
   | .d (.bool t)=>ly t (m9 P n b rd x Q s) (m9 P n b rd y Q s)
   | .dy=>m9 P n b rd x Q s/\m9 P n b rd y Q s
   |_=>False
 | .block id x,Q,s=>m9 P n b rd x (dG id Q) s
 | .loop x,Q,s=>xy b (m9 P n b rd x) Q s
 | .exit id,Q,s=>Q (.exit id) s
 | .ret,Q,s=>Q .ret s
 | .vl g ps x y,Q,s=>rd=false/\tF P n (s.ev g) ps x y Q s
 | .bad,_,_=>False
section
variable {P:Program}{n b:Nat}{rd:Bool}
theorem nZ:∀ (l:List bz) (bu:List dD) (s:S) (k:Nat) (o:bz) (x:dD),l[k]? =some o->bu[k]? =some x->jf l bu s (k+1)=oD o.dst x (jf l bu s k)
 |[],_,_,_,_,_,h,_=>by simp at h
 |o::l,[],_,_,_,_,_,h=>by simp at h
 |o::l,x::xs,s,0,o',x',h,h'=>by simp at h h';subst h;subst h';cases l<;>cases xs<;>rfl
 |o::l,x::xs,s,k+1,o',x',h,h'=>by
  simp only[jf]
  exact nZ l xs _ k o' x' (by simpa using h) (by simpa using h')
theorem pF(l:List bz)(bu:List dD)(s:S)(hl:bu.length=l.length):∀k,k<=l.length->df (bn l) (fun i=>bu.getD i default) (fun _=>true) s k=jf l bu s k:=by
 intro k
 induction k with
 |zero=>intro _;cases l<;>cases bu<;>rfl
 |succ k ih=>
  intro hk
  have h1:l[k]? =some (bn l k):=by simp[bn,List.getD_eq_getElem?_getD,List.getElem?_eq_getElem (by omega:k<l.length)]
  have h2:bu[k]? =some (bu.getD k default):=by simp[List.getD_eq_getElem?_getD,List.getElem?_eq_getElem (by omega:k<bu.length)]
  simp only[df,if_true,ih (by omega)]
  rw[nZ l bu s k _ _ h1 h2]
theorem jg{ops:Array Oper}:∀ (l:List Oper) (l':List bz),gJ n ops l=some l'->l'.length=l.length
 |[],_,h=>by simp[gJ]at h;subst h;rfl
 |o::l,l',h=>by
  simp only[gJ]at h
  split at h
  ·rename_i hx;injection h with h;subst h;simp[jg l _ hx]
  ·cases h
theorem wa(aO:P.follows .mixedOrders=true){id:Nat}{ops:Array Oper}{l:List bz}{Q Q':eY->S->Prop}{s:S}(hQ:∀e s,Q e s->Q' e s)(jH:gJ n ops ops.toList=some l)(ht:pY l (ej ops)=true)
 (hp:BT (ej ops)=true) (h:gC P (tW (ej ops) (s.nx+l.length) Q) (ss (ej ops) l s Q) (ej ops) l s.nx s []):fb P n b rd (.region id ops true) Q' s:=by
 intro M bN H0 w0 cx φ a w ro k hs
 obtain⟨bu,hl,a8,mY⟩:=nY l _ _ _ h
 have hlen:l.length=ops.size:=by rw[jg _ _ jH];simp
 have m7:∀k,k<ops.size->(ej ops).getD k []=aT ops k:=by
  intro k hk;simp[ej,List.getD_eq_getElem?_getD,List.getElem?_map,List.getElem?_range hk]
 have s8:(ej ops).length=ops.size:=by simp[ej]
 have jO:=pF l bu s hl
 have sw:∀k,k<ops.size->l[k]? =some (bn l k):=fun k hk=>by simp[bn,List.getD_eq_getElem?_getD,List.getElem?_eq_getElem (by omega:k<l.length)]
 have mX:∀k,k<ops.size->bu[k]? =some (bu.getD k default):=fun k hk=>by simp[List.getD_eq_getElem?_getD,List.getElem?_eq_getElem (by omega:k<bu.length)]
 have nF:∀k,k<ops.size->bu.getD k default∈bu:=fun k hk=>List.mem_of_getElem? (mX k hk)
 have zm:∀k,k<ops.size->(pE bu)[k]? =some (oR (bu.getD k default),gA (bu.getD k default)):=fun k hk=>by
  simp only[pE,List.getElem?_map,mX k hk,Option.map_some]
 have Ce:(pE bu).length=ops.size:=by simp[pE,hl,hlen]
 simp only[List.nil_append,List.length_nil,Nat.zero_add]at mY
 have ny:fC (ej ops) (pE bu)=true:=by
  rcases mY with⟨_,h⟩|⟨v,wl,_,_,_,h,_⟩
  ·exact h.1
  ·exact h.1
 have wb:∀k,k<ops.size->∀j∈aT ops k,j<k:=fun k hk j hj=>by
  have:=List.all_eq_true.1 hp k (by simpa[s8]using hk)
  rw[m7 k hk]at this
  simpa using List.all_eq_true.1 this j hj
 have xI:∀k,k<(ej ops).length->∀j∈(ej ops).getD k [],j<k:=fun k hk j hj=>by
  rw[s8]at hk;rw[m7 k hk]at hj;exact wb k hk j hj
 let po:Nat->Nat->Prop:=fun k j=>((dc (ej ops) []).getD k 0).testBit j=true
 have uL:∀E:Nat->Bool,(∀k,k<ops.size->E k=true->∀j∈aT ops k,E j=true)->∀k,k<ops.size->(∀j∈aT ops k,E j=true)->∀j,po k j->E j=true:=fun E hE k hk hj j hb=>
  kx xI (fun k hk eC j hj=>by rw[s8]at hk;rw[m7 k hk]at hj;exact hE k hk eC j hj) k (by rw[s8];exact hk) (by rw[m7 k hk];exact hj) j hb
 have sr:∀k,k<ops.size->∀j,po k j->j<k:=fun k hk j hb=>rl xI k (by rw[s8];exact hk) j hb
 have qB:∀i j,i<j->j<ops.size-> ¬po j i->Compat (bn l) (fun i=>bu.getD i default) (fun i=>oR (bu.getD i default)) i j:=by
  intro i j Fj hj hn
  have w6:=List.all_eq_true.1 (List.all_eq_true.1 ht j (by simpa[hlen]using hj)) i (by simpa using Fj)
  have px:=List.all_eq_true.1 (List.all_eq_true.1 ny j (by simpa[Ce]using hj)) i (by simpa using Fj)
  have Jb:((dc (ej ops) []).getD j 0).testBit i=false:=by simpa[po]using hn
  rw[Jb,Bool.false_or]at w6 px
  simp only[Bool.and_eq_true]at w6 px
  have gi:=zm i (by omega)
  have gj:=zm j hj
  simp only[List.getD_eq_getElem?_getD (l:=pE bu),gi,gj,Option.getD_some]at px
  have dj:∀ {xs ys:List Nat},iO xs ys=true->∀x∈xs,x∉ys:=fun h x hx=>by simpa using List.all_eq_true.1 h x hx
  have fo:∀ {x y:bz},lP x y=true->∀d,x.dst=some d->d∉dx y:=fun h d hd=>by simpa[lP,hd]using h
  exact⟨fo w6.1,fo w6.2,fun id ag=>⟨dj px.1.1 id ag,dj px.1.2 id ag⟩,fun id ag=>dj px.2 id ag⟩
 have Bf:∀i,i<ops.size->Ba P (df (bn l) (fun i=>bu.getD i default) (fun _=>true) s i) (s.nx+i) (bn l i) (bu.getD i default):=fun i hi=>by
  rw[jO i (by omega)];exact a8 i _ _ (sw i hi) (mX i hi)
 have bV:∀i,i<ops.size->∀t,(bn l i).dst=some t->(dstsOf l).contains t=true:=fun i hi t ht=>by
  simp only[List.contains_iff_mem,dstsOf,List.mem_filterMap]
  exact⟨bn l i,List.mem_of_getElem? (sw i hi),ht⟩
 rcases mY with⟨aC,mY⟩|⟨v,wl,q1,q2,q3,q4,q5,q6⟩
 ·refine sq (ac:=fun i=>bu.getD i default) (dl:=dstsOf l) (wl:=(bu.flatMap gA)) aO jH wb hs Bf (fun i hi hb=> ?_) uL sr qB bV (fun i hi id ag=> ?_) (fun i v ws pz hi hb=> ?_) (fun _ φ a w gy=> ?_) (fun i v ws pz hi hb=> ?_)
  ·have:=aC _ (nF i hi);rw[hb]at this;cases this
  ·simp only[List.contains_iff_mem,List.mem_flatMap];exact⟨_,nF i hi,ag⟩
  ·have:=aC _ (nF i hi);rw[hb]at this;cases this
  ·rw[jO ops.size (by omega), <- hlen]at gy
   exact⟨.normal,_,φ,hQ _ _ mY.2,gy,trivial⟩
  ·have:=aC _ (nF i hi);rw[hb]at this;cases this
 ·refine sq (ac:=fun i=>bu.getD i default) (dl:=dstsOf l) (wl:=wl) aO jH wb hs Bf (fun i hi hb=> ?_) uL sr qB bV (fun i hi id ag=> ?_) (fun i v' ws pz hi hb=> ?_) (fun aC φ a w gy=> ?_) (fun i v' ws pz hi hb φ a w val gy hd=> ?_)
  ·obtain⟨j,j1,j',e,y,j3,j4⟩:=q3 i (by rw[mX i hi];exact congrArg some hb)
   rw[m7 i hi,e]at j1
   refine⟨j',j1, ?_⟩
   simp only[List.getD_eq_getElem?_getD,j3,Option.getD_some,j4]
  ·simp only[List.contains_iff_mem];exact q5 _ (nF i hi) id ag
  ·intro id ag
   simp only[List.contains_iff_mem]
   exact(q1 i v' ws pz (by rw[mX i hi];exact congrArg some hb)).2 id ag
  ·obtain⟨x,x1,x2⟩:=q2
   obtain⟨i,ze,wN⟩:=List.getElem_of_mem x1
   have hi:i<ops.size:=by omega
   have:=aC i hi
   have e:bu.getD i default=x:=by simp[List.getD_eq_getElem?_getD,List.getElem?_eq_getElem ze,wN]
   rw[e,x2]at this;cases this
  ·have e:=(q1 i v' ws pz (by rw[mX i hi];exact congrArg some hb)).1
   subst e
   rw[<- hlen]at gy hd
   exact⟨.ba v',_,φ,hQ _ _ q4.2,gy,val,rfl,hd⟩
theorem pG{ops:Array Oper}:∀ (l:List Oper) (l':List bz) (m:Nat),gJ n ops l=some l'->gJ n ops (l.drop m)=some (l'.drop m)
 |l,l',0,h=>h
 |[],l',m+1,h=>by simp[gJ]at h;subst h;simp[gJ]
 |o::l,l',m+1,h=>by
  simp only[gJ]at h
  split at h
  ·rename_i x xs hx AO
   injection h with h;subst h
   exact pG l xs m AO
  ·cases h
theorem xJ{l:List bz}{ac:Nat->dD}{E:Nat->Bool}{s:S}{m:Nat}:∀k,k<=m->df (bn l) ac E s k=df (bn (l.take m)) ac E s k:=by
 intro k
 induction k with
 |zero=>intro _;rfl
 |succ k ih=>
  intro hk
  have:bn l k=bn (l.take m) k:=by simp[bn,List.getD_eq_getElem?_getD,List.getElem?_take,(by omega:k<m)]
  simp only[df,ih (by omega),this]
theorem tY(aO:P.follows .mixedOrders=true){id:Nat}{ops:Array Oper}{l:List bz}{Q Q':eY->S->Prop}{s:S}(hQ:∀e s,Q e s->Q' e s)(jH:gJ n ops ops.toList=some l)(ht:pY l (ej ops)=true)
 (hp:BT (ej ops)=true) (h:xH P l (ej ops) Q s):fb P n b rd (.region id ops true) Q' s:=by
 intro M bN H0 w0 cx φ a w ro k hs
 obtain⟨m,zo,OI,h⟩:=h
 obtain⟨bu,hl,a8,mY⟩:=nY (l.take m) _ _ _ h
 have OJ:(l.take m).length=m:=by rw[List.length_take];omega
 have hlen:l.length=ops.size:=by rw[jg _ _ jH];simp
 have mY:=mY.resolve_right (fun⟨_,_,_,_,_,q4,_,_⟩=>q4)
 obtain⟨aC,mY⟩:=mY
 have B0:bu.length=m:=by omega
 have m7:∀k,k<ops.size->(ej ops).getD k []=aT ops k:=by
  intro k hk;simp[ej,List.getD_eq_getElem?_getD,List.getElem?_map,List.getElem?_range hk]
 have s8:(ej ops).length=ops.size:=by simp[ej]
 have jO:∀k,k<=m->df (bn l) (fun i=>bu.getD i default) (fun _=>true) s k=jf (l.take m) bu s k:=fun k hk=>by
  rw[xJ k hk];exact pF (l.take m) bu s hl k (by omega)
 have sw:∀k,k<m->(l.take m)[k]? =some (bn l k):=fun k hk=>by
  rw[List.getElem?_take,if_pos hk]
  simp[bn,List.getD_eq_getElem?_getD,List.getElem?_eq_getElem (by omega:k<l.length)]
 have mX:∀k,k<m->bu[k]? =some (bu.getD k default):=fun k hk=>by simp[List.getD_eq_getElem?_getD,List.getElem?_eq_getElem (by omega:k<bu.length)]
 have nF:∀k,k<m->bu.getD k default∈bu:=fun k hk=>List.mem_of_getElem? (mX k hk)
 have zm:∀k,k<m->(pE bu)[k]? =some (oR (bu.getD k default),gA (bu.getD k default)):=fun k hk=>by
  simp only[pE,List.getElem?_map,mX k hk,Option.map_some]
 have Ce:(pE bu).length=m:=by simp[pE,B0]
 simp only[List.nil_append]at mY
 obtain⟨ny,zI⟩:=mY
 have wb:∀k,k<ops.size->∀j∈aT ops k,j<k:=fun k hk j hj=>by
  have:=List.all_eq_true.1 hp k (by simpa[s8]using hk)
  rw[m7 k hk]at this
  simpa using List.all_eq_true.1 this j hj
 have xI:∀k,k<(ej ops).length->∀j∈(ej ops).getD k [],j<k:=fun k hk j hj=>by
  rw[s8]at hk;rw[m7 k hk]at hj;exact wb k hk j hj
 let po:Nat->Nat->Prop:=fun k j=>((dc (ej ops) []).getD k 0).testBit j=true
 have uL:∀E:Nat->Bool,(∀k,k<ops.size->E k=true->∀j∈aT ops k,E j=true)->∀k,k<ops.size->(∀j∈aT ops k,E j=true)->∀j,po k j->E j=true:=fun E hE k hk hj j hb=>
  kx xI (fun k hk eC j hj=>by rw[s8]at hk;rw[m7 k hk]at hj;exact hE k hk eC j hj) k (by rw[s8];exact hk) (by rw[m7 k hk];exact hj) j hb
 have sr:∀k,k<ops.size->∀j,po k j->j<k:=fun k hk j hb=>rl xI k (by rw[s8];exact hk) j hb
 have qB:∀i j,i<j->j<m-> ¬po j i->Compat (bn l) (fun i=>bu.getD i default) (fun i=>oR (bu.getD i default)) i j:=by
  intro i j Fj hj hn
  have w6:=List.all_eq_true.1 (List.all_eq_true.1 ht j (by simp;omega)) i (by simpa using Fj)
  have px:=List.all_eq_true.1 (List.all_eq_true.1 ny j (by simpa[Ce]using hj)) i (by simpa using Fj)
  have Jb:((dc (ej ops) []).getD j 0).testBit i=false:=by simpa[po]using hn
  rw[Jb,Bool.false_or]at w6 px
  simp only[Bool.and_eq_true]at w6 px
  have gi:=zm i (by omega)
  have gj:=zm j hj
  simp only[List.getD_eq_getElem?_getD (l:=pE bu),gi,gj,Option.getD_some]at px
  have dj:∀ {xs ys:List Nat},iO xs ys=true->∀x∈xs,x∉ys:=fun h x hx=>by simpa using List.all_eq_true.1 h x hx
  have fo:∀ {x y:bz},lP x y=true->∀d,x.dst=some d->d∉dx y:=fun h d hd=>by simpa[lP,hd]using h
  exact⟨fo w6.1,fo w6.2,fun id ag=>⟨dj px.1.1 id ag,dj px.1.2 id ag⟩,fun id ag=>dj px.2 id ag⟩
 have OK:∀k,m<=k->k<ops.size->∀j,j<k->po k j:=fun k Pq hk j hj=>by
  have:=List.all_eq_true.1 OI k (by simpa[s8]using hk)
  simp only[Bool.or_eq_true]at this
  rcases this with this|this
  ·exact absurd (Nat.blt_eq.mp this) (by omega)
  ·show((dc (ej ops) []).getD k 0).testBit j=true
   rw[Nat.eq_of_beq_eq_true this,Nat.testBit_two_pow_sub_one]
   exact decide_eq_true hj
 refine tV (ac:=fun i=>bu.getD i default) (m:=m) (X:=fun v s=>Q' (.ba v) s) (K:=Q' .normal) aO jH wb (by omega) hs (fun i hi=> ?_) (fun i hi=>aC _ (nF i hi)) uL sr qB OK ?_ (fun s φ a w hk gy=>⟨.normal,s,φ,hk,gy,trivial⟩) (fun v s' ai a' w' val hx gy hd=>⟨.ba v,s',ai,hx,gy,val,rfl,hd⟩)
 ·rw[jO i (by omega)];exact a8 i _ _ (sw i hi) (mX i hi)
 ·rw[jO m (Nat.le_refl _)]
  rw[OJ]at zI
  exact fq (fun s hs=>hQ _ _ hs) (fun v s hs=>hQ _ _ hs) _ _ _ (pG _ _ m jH) zI
theorem pH{g:V}{ps:List Nat}{x y:IC}{Q Q':eY->S->Prop}{s:S}(hQ:∀e s,Q e s->Q' e s)(h:tF P n g ps x y Q s):tF P n g ps x y Q' s:=by
 obtain⟨env,h1,h2⟩:=h
 refine⟨env,h1, ?_⟩
 split at h2
 ·refine iY.mono (fun v o n h=> ?_) (fun v o n h=>hQ _ _ h) h2
  obtain⟨nf,m,e,p,c,d,st,pd,k1,k2,k3⟩:=h
  refine⟨nf,m,e,p,c,d,st,pd,k1,k2, ?_⟩
  cases pd with
  |none=>exact hQ _ _ k3
  |some j=>cases j<;>exact hQ _ _ k3
 ·exact h2
theorem eO(aO:P.follows .mixedOrders=true):∀ (c:Code) (Q Q':eY->S->Prop) (s:S),(∀e s,Q e s->Q' e s)->m9 P n b rd (low n c) Q s->fb P n b rd c Q' s:=by
 intro c
 induction c with
 |skip=>exact fun Q Q' s hQ h=>hQ _ _ h
 |scope x ih=>exact fun Q Q' s hQ h=>ih Q Q' s hQ h
 |label l=>exact fun Q Q' s hQ h=>hQ _ _ h
 |exit id=>exact fun Q Q' s hQ h=>hQ _ _ h
 |ret=>exact fun Q Q' s hQ h=>hQ _ _ h
 |goto l=>exact fun Q Q' s hQ h=>h.elim
 |refuse y=>exact fun Q Q' s hQ h=>h.elim
 |rangeFunc f p x y=>exact fun Q Q' s hQ h=>⟨h.1,pH hQ h.2⟩
 |region id ops draw=>
  intro Q Q' s hQ h
  cases draw with
  |true=>
   simp only[low]at h
   split at h
   ·rename_i l hl
    split at h
    ·rename_i hc
     simp only[Bool.and_eq_true]at hc
     rcases h with h|h
     ·exact wa aO hQ hl hc.1 hc.2 h
     ·exact tY aO hQ hl hc.1 hc.2 h
    ·exact h.elim
   ·exact h.elim
  |false=>
   simp only[low]at h
   split at h
   ·rename_i l hl;exact fq (fun s hs=>hQ _ _ hs) (fun v s hs=>hQ _ _ hs) _ l s hl h
   ·exact h.elim
 |seq x y zA zB=>
  intro Q Q' s hQ h
  refine zA _ _ s (fun e s he=> ?_) h
  cases e<;>first|exact zB Q Q' s hQ he|exact hQ _ _ he
 |cond c x y zA zB=>
  intro Q Q' s hQ h
  simp only[low,m9]at h
  simp only[fb]
  split at h
  ·rename_i t hc
   simp only[hc]
   exact⟨fun ht=>zA Q Q' s hQ (h.1 ht),fun ht=>zB Q Q' s hQ (h.2 ht)⟩
  ·rename_i hc
   simp only[hc]
   exact⟨zA Q Q' s hQ h.1,zB Q Q' s hQ h.2⟩
  ·exact h.elim
 |block id x ih=>
  intro Q Q' s hQ h
  refine ih _ _ s (fun e s he=> ?_) h
  cases e<;>simp only[dG]at he|- <;>first
   |exact hQ _ _ he
   |(split at he<;>rename_i e
     ·rw[if_pos e];exact hQ _ _ he
     ·rw[if_neg e];exact hQ _ _ he)
 |loop x ih=>
  intro Q Q' s hQ h
  obtain⟨J,h0,hr⟩:=h
  refine⟨J,h0,fun m s0 hJ=>ih _ _ s0 (fun e s he=> ?_) (hr m s0 hJ)⟩
  cases e<;>first|exact hQ _ _ he|exact he
structure aF (P:Program) (f:FuncId) (n:Nat) (ic:IC) (rs:List ResultVar):Prop where
 get:∃fn,P.funcs[f]? =some fn/\(fn.name== "runtime.NumGoroutine")=false/\fn.ntmps=n/\fn.results.toList=rs/\∃c,fn.body=some c/\low n c=ic
theorem jx.n3 (aO:P.follows .mixedOrders=true){f:FuncId}{ic:IC}{rs:List ResultVar}(hf:aF P f n ic rs){args:List V}{o:Nat->aa}{nx:Nat}{K X:V->(Nat->aa)->Nat->Prop}(hl:args.length<=n)(h:m9 P n nx false ic (iB P rs K X) ⟨bT args,o,nx⟩):jx P f args o nx K X:=by
 obtain⟨fn,h1,h2,rfl,rfl,c,h3,rfl⟩:=hf.get
 exact jx.uG h1 h2 h3 hl (eO aO c _ _ _ (fun _ _ h=>h) h)
theorem cR.n3 (aO:P.follows .mixedOrders=true){f:FuncId}{ic:IC}{rs:List ResultVar}(hf:aF P f n ic rs){ds:List D}{out:R}(hl:ds.length<=n)(h:m9 P n 0 false ic (tC P rs out) ⟨bT (ds.map .d),fun _=> .no,0⟩):cR P f ds out:=by
 obtain⟨fn,h1,h2,rfl,rfl,c,h3,rfl⟩:=hf.get
 exact cR.kb (jx.uG h1 h2 h3 (by simpa using hl) (eO aO c _ _ _ (fun e s h=>vU e s h) h))
end
end Go.Proofs.YtbmnikpknlkbkaaGreat
namespace Go.Proofs.YtbmnikpknlkbkaaGreat
abbrev Fix(α:Type){β:Type}(_:β):Type:=α
def gw(K:V->List (Nat×aa)->Prop)(x:Fix (Option eu) K):Prop:=match x with|some (v,Δ,_)=>K v Δ|none=>False
@[go_sem] theorem Cf {v:V} {Δ:List (Nat×aa)} {rd:List Nat} {K}:gw K (some (v,Δ,rd))=K v Δ:=propext Iff.rfl
@[go_sem] theorem Cg {K}:gw K none=False:=propext Iff.rfl
def V.rk (c:Bool)(v:V):V:=if c=true then v else .bJ []
@[go_sem] theorem Fk (b:Bool):(!!b)=b:=by simp
attribute [go_sem] true_or or_true false_or ne_eq not_false_eq_true decide_true decide_false Bool.not_true Bool.not_false Bool.and_true Bool.true_and Bool.and_false Bool.false_and Bool.or_true Bool.true_or Bool.or_false Bool.false_or beq_self_eq_true Bool.true_eq_false Bool.false_eq_true not_true_eq_false and_true true_and and_false false_and eq_self
@[go_sem] theorem V.Fl (v:V):V.rk true v=v:=rfl
@[go_sem] theorem V.DT (v:V):V.rk false v= .bJ []:=rfl
def jh(c:Bool)(p:Prop):Prop:=c=true->p
@[congr] theorem Bg {c c':Bool} {p p':Prop} (h:c=c') (h2:c'=true->p=p'):jh c p=jh c' p':=by
  subst h;cases c
  ·simp[jh]
  ·simp[jh,h2 rfl]
@[go_sem] theorem Ch (p:Prop):jh true p=p:=by simp[jh]
@[go_sem] theorem Bh (p:Prop):jh false p=True:=by simp[jh]
@[go_sem] theorem Ci (a:Bool):jh a True=True:=by simp[jh]
def iI(v:V)(want:Bool):Option Bool:=
 match v with
 | .d (.bool b)=>some (b==want)
 | .bJ []=>some false
 |_=>none
@[go_sem] theorem Cj (b:Bool):iI (.d (.bool b)) true=some b:=by simp[iI]
@[go_sem] theorem Bi (b:Bool):iI (.d (.bool b)) false=some (!b):=by simp[iI]
@[go_sem] theorem Fm (want:Bool):iI (.bJ []) want=some false:=rfl
@[go_sem] theorem DU (c b want:Bool):iI (V.rk c (.d (.bool b))) want=some (c&&(b==want)):=by cases c<;>simp[iI,V.rk]
@[go_sem] theorem Ck (c b e want:Bool):iI (V.rk c (V.rk e (.d (.bool b)))) want=some (c&&e&&(b==want)):=by cases c<;>cases e<;>simp[iI,V.rk]
def gD(c:Bool)(x:Option eu):Option eu:=
 if c=true then(match x with|some (v,[],_)=>some (v,[],[])|_=>none)else some (.bJ [],[],[])
@[congr] theorem zJ {c c':Bool} {x x':Option eu} (h:c=c') (h2:c'=true->x=x'):gD c x=gD c' x':=by
  subst h;cases c
  ·rfl
  ·simp[gD,h2 rfl]
def DV(v:V)(rd:List Nat):Option eu:=some (v,[],rd)
@[go_sem] theorem Jc (v:V) (rd:List Nat):(some (v,[],rd):Option eu)=DV v rd:=by unfold DV;exact Eq.trans rfl rfl
@[go_sem] theorem Cl (c:Bool) (v:V) (rd:List Nat):gD c (DV v rd)=DV (V.rk c v) []:=by cases c<;>rfl
@[go_sem] theorem DW {v:V} {rd:List Nat} {K}:gw K (DV v rd)=K v []:=propext Iff.rfl
@[go_sem] theorem Bj (c:Bool) (v:V) (rd:List Nat):gD c (some (v,[],rd))=some (V.rk c v,[],[]):=by cases c<;>rfl
@[go_sem] theorem zK (x:Option eu):gD false x=some (.bJ [],[],[]):=rfl
@[go_sem] theorem Fo (b x:Bool):ll (.d (.bool b)) (V.rk b (.d (.bool x))) (.d (.bool false))=some (.d (.bool (b&&x))):=by cases b<;>rfl
@[go_sem] theorem HI (b x:Bool):ll (.d (.bool b)) (.d (.bool true)) (V.rk (!b) (.d (.bool x)))=some (.d (.bool (b||x))):=by cases b<;>rfl
@[go_sem] theorem Fq (b x:Bool):ll (.d (.bool (!b))) (.d (.bool true)) (V.rk b (.d (.bool x)))=some (.d (.bool (!b||x))):=by cases b<;>rfl
@[go_sem] theorem DX (x y:V):ll (.d (.bool true)) x y=some x:=rfl
@[go_sem] theorem Cm (x y:V):ll (.d (.bool false)) x y=some y:=rfl
@[reducible] def gE:Op->Bool
  | .move _| .assign _| .pick .. | .load .. | .binOp .. | .unOp .. | .nilCheck _| .convert .. | .makeInterface .. | .makeFunc .. | .fieldAddr .. | .indexAddr .. | .extract .. | .build .. | .index .. | .field .. | .lookup .. =>true
  | .call c=>match c.callee with
    | .builtin .len=>true
    | .builtin .min=>true
    | .builtin .max=>true
    |_=>false
  |_=>false
def uN(P:Program)(f:V)(args:List V)(o:Nat->aa)(rs:List D):Prop:=
 match f with
 | .func (.func g) first cap=>match bt o (first++args++cap)with
   |some ds=>cR P g ds (.ret rs)/\D.gq rs=true
   |none=>False
 |_=>False
def Bk(P:Program)(f:V)(args:List V)(o:Nat->aa)(K:V->Prop)(c:Fix Bool (f,args,o,K)):Prop:=
 ∃rs,jh c (uN P f args o rs)/\K (V.rk c (gQ rs))
def xK(P:Program)(g:FuncId)(nx:Nat)(K X:V->(Nat->aa)->Nat->Prop)(args:Fix (List V) (K,X))(o:Fix (Nat->aa) (K,X)):Prop:=mq P g args o nx K X
def sx(P:Program)(g:FuncId)(o:Nat->aa)(nx:Nat)(K X:V->(Nat->aa)->Nat->Prop)(ds:Fix (List D) (o,nx,K,X))(all:Fix (List V) (o,nx,K,X)):Prop:=
 nR P g ds o (put o (b8 o (V.aP all))) (put o (lT o (V.aP all))) (fun v o'=>K v o' (nx+1)) (fun v o'=>X v o' (nx+1))\/mq P g all o nx K X
def ki(P:Program)(g:FuncId)(K X:V->(Nat->aa)->Nat->Prop)(s:S)(all:List V)(ds:Fix (Option (List D)) (K,X,s,all)):Prop:=
 match ds with
 |some ds=>sx P g s.o s.nx K X ds all
 |none=>xK P g s.nx K X all s.o
@[go_sem] theorem Bl {P:Program} {s:S} {ds:List D} {g:FuncId} {all:List V} {K X}:
 ki P g K X s all (some ds)=sx P g s.o s.nx K X ds all:=propext Iff.rfl
def uO(P:Program)(id:Nat)(K X:V->(Nat->aa)->Nat->Prop)(s:S)(args:Fix (List V) (K,X,s)):Prop:=dF P id args s.o s.nx K X
@[go_sem] theorem Bm {P:Program} {s:S} {g:FuncId} {all:List V} {K X}:ki P g K X s all none=xK P g s.nx K X all s.o:=propext Iff.rfl
def mC(P:Program)(K X:V->(Nat->aa)->Nat->Prop)(s:S)(f:Fix V (K,X,s))(args:Fix (List V) (K,X,s)):Prop:=
 match f with
 | .func (.func g) first cap=>ki P g K X s (first++args++cap) (bt s.o (first++args++cap))
 | .js id=>uO P id K X s args
 |_=>False
@[go_sem] theorem DY {P:Program} {s:S} {id:Nat} {args:List V} {K X}:mC P K X s (.js id) args=uO P id K X s args:=propext Iff.rfl
@[go_sem] theorem Cn {P:Program} {s:S} {g:FuncId} {first cap args:List V} {K X}:mC P K X s (.func (.func g) first cap) args=ki P g K X s (first++args++cap) (bt s.o (first++args++cap)):=propext Iff.rfl
def xL(P:Program)(g:FuncId)(o:Nat->aa)(nx:Nat)(K X:V->(Nat->aa)->Nat->Prop)(ds:Fix (List D) (o,nx,K,X))(all:Fix (List V) (o,nx,K,X)):Prop:=
 nR P g ds o (put o (b8 o (V.aP all))) (put o (lT o (V.aP all))) (fun v o'=>K v o' (nx+1)) (fun v o'=>X v o' (nx+1))
def sy(P:Program)(g:FuncId)(K X:V->(Nat->aa)->Nat->Prop)(s:S)(all:List V)(ds:Fix (Option (List D)) (K,X,s,all)):Prop:=
 match ds with
 |some ds=>xL P g s.o s.nx K X ds all
 |none=>False
@[go_sem] theorem Co {P:Program} {s:S} {ds:List D} {g:FuncId} {all:List V} {K X}:sy P g K X s all (some ds)=xL P g s.o s.nx K X ds all:=propext Iff.rfl
def xM(P:Program)(K X:V->(Nat->aa)->Nat->Prop)(s:S)(args:Fix (List V) (K,X,s))(r:Fix (Option (FuncId×V)) (K,X,s)):Prop:=
 match r with
 |some (g,y)=>sy P g K X s (y::args) (bt s.o (y::args))
 |none=>False
@[go_sem] theorem DZ {P:Program} {s:S} {g:FuncId} {y:V} {args:List V} {K X}:xM P K X s args (some (g,y))=sy P g K X s (y::args) (bt s.o (y::args)):=propext Iff.rfl
def wc(K:V->Prop)(v:Fix V K):Prop:=
 match v with
 | .d (.iface t y)=>K (.d (.iface t y))
 | .iface t y=>K (.iface t y)
 |_=>False
@[go_sem] theorem Jd {t:TypeId} {y:D} {K}:wc K (.d (.iface t y))=K (.d (.iface t y)):=propext Iff.rfl
@[go_sem] theorem Je {t:TypeId} {y:V} {K}:wc K (.iface t y)=K (.iface t y):=propext Iff.rfl
def Bn(K:V->List (Nat×aa)->Prop)(id:Nat)(l:Fix (List (D×D)) (K,id)):Prop:=ur id l fun v Δ _=>K v Δ
def xN(K:V->List (Nat×aa)->Prop)(str:Bool)(D0:Fix (Option eu) (K,str))(left:Fix (Option (Nat×List (D×D))) (K,str)):Prop:=
 match left with
 |some (id,l)=>str=false/\Bn K id l
 |none=>gw K D0
@[go_sem] theorem D1 {K} {D0:Option eu} {id:Nat} {l:List (D×D)}:xN K false D0 (some (id,l))=Bn K id l:=propext ⟨fun h=>h.2,fun h=>⟨rfl,h⟩⟩
@[go_sem] theorem D2 {K} {str:Bool} {D0:Option eu}:xN K str D0 none=gw K D0:=propext Iff.rfl
def te(P:Program)(X:V->S->Prop)(K:S->Prop)(o:bz)(s:Fix S (X,K,o)):Prop:=
 match o.op with
 | .next x str=>xN (fun v Δ=>K ⟨aJ s.env o.dst v,put s.o Δ,s.nx+1⟩) str (kG s.o (s.ev x) str) (kH s.o (s.ev x))
 | .call c=>match c.callee with
   | .value f=>mC P (fun v o' nx'=>K ⟨aJ s.env o.dst v,o',nx'⟩) (fun v o' nx'=>X v ⟨s.env,o',nx'⟩) s (s.ev f) (c.args.toList.map s.ev)
   | .invoke r m=>xM P (fun v o' nx'=>K ⟨aJ s.env o.dst v,o',nx'⟩) (fun v o' nx'=>X v ⟨s.env,o',nx'⟩) s (c.args.toList.map s.ev) (nH P m (s.ev r))
   |_=>gw (fun v Δ=>K ⟨aJ s.env o.dst v,put s.o Δ,s.nx+1⟩) (ei P s s.nx o.op)
 | .panic x=>wc (fun v=>X v s) (s.ev x)
 |op=>gw (fun v Δ=>K ⟨aJ s.env o.dst v,put s.o Δ,s.nx+1⟩) (ei P s s.nx op)
@[reducible] def dP:Op->Option (Operand×List Operand)
  | .call c=>match c.callee with
    | .value f=>some (f,c.args.toList)
    |_=>none
  |_=>none
def fe(A B:Prop)(t:Fix Bool (A,B)):Prop:=ly t A B
@[go_sem] theorem Cp (A B:Prop):fe A B true=A:=nS A B
@[go_sem] theorem Bo (A B:Prop):fe A B false=B:=mu A B
def xO(P:Program)(X:V->S->Prop)(K:S->Prop)(o:bz)(s:S)(f:Operand)(args:List Operand)(c:Fix Bool (X,K,o,s,f,args)):Prop:=
 Bk P (s.ev f) (args.map s.ev) s.o (fun v=>K ⟨aJ s.env o.dst v,s.o,s.nx+1⟩) c\/fe (te P X K o s) (K ⟨aJ s.env o.dst (.bJ []),s.o,s.nx+1⟩) c
def qC(P:Program)(X:V->S->Prop)(K:S->Prop)(o:bz)(s:S)(c:Fix (Option Bool) (X,K,o,s)):Prop:=
 match c with
 |none=>False
 |some c=>match dP o.op with
  |some (f,args)=>xO P X K o s f args c
  |none=>if gE o.op=true then gw (fun v _=>K ⟨aJ s.env o.dst v,s.o,s.nx+1⟩) (gD c (ei P s s.nx o.op))
   else fe (te P X K o s) (K ⟨aJ s.env o.dst (.bJ []),s.o,s.nx+1⟩) c
def mZ(P:Program)(X:V->S->Prop)(K:S->Prop)(l:List bz)(s:Fix S (X,K,l)):Prop:=
 match l with
 |[]=>K s
 |o::l=>match o.gd with
  |none=>te P X (mZ P X K l) o s
  |some (d,want)=>qC P X (mZ P X K l) o s (iI (s.env d) want)
def fN(want:Bool)(A B:Prop)(v:Fix V (A,B)):Prop:=
 match v with
 | .d (.bool b)=>ly (b==want) A B
 | .bJ []=>B
 |_=>False
@[go_sem] theorem Bp (b:Bool) (A B:Prop):fN true A B (.d (.bool b))=fe A B b:=by simp[fN,fe]
@[go_sem] theorem zL (b:Bool) (A B:Prop):fN false A B (.d (.bool b))=fe A B (!b):=by simp[fN,fe]
@[go_sem] theorem D3 (want:Bool) (A B:Prop):fN want A B (.bJ [])=B:=propext Iff.rfl
@[go_sem] theorem Cq (c b want:Bool) (A B:Prop):fN want A B (V.rk c (.d (.bool b)))=fe A B (c&&(b==want)):=by cases c<;>simp[fN,V.rk,fe]
abbrev KD:=V->List (Nat×aa)->List Nat->Prop
abbrev XD:=V->List Nat->List Nat->Prop
def xP(P:Program)(g:FuncId)(K:KD)(X:XD)(o:Nat->aa)(rd:List Nat)(ds:Fix (List D) (K,X,o,rd))(all:Fix (List V) (K,X,o,rd)):Prop:=
 mB P g ds (fun v=>K v (b8 o (V.aP all)) rd) (fun v=>K v [] rd) (fun v=>X v [] rd)
def qD(P:Program)(g:FuncId)(K:KD)(X:XD)(o:Nat->aa)(nx fr:Nat)(all:Fix (List V) (K,X,o,nx)):Prop:=e7 P g all o nx fr K X
def tZ(P:Program)(g:FuncId)(K:KD)(X:XD)(o:Nat->aa)(nx fr:Nat)(rd:List Nat)(ds:Fix (List D) (K,X,o,nx,rd))(all:Fix (List V) (K,X,o,nx,rd)):Prop:=xP P g K X o rd ds all\/qD P g K X o nx fr all
def l9(P:Program)(K:KD)(X:XD)(o:Nat->aa)(nx fr:Nat)(rd:List Nat)(g:FuncId)(all:List V)(ds:Fix (Option (List D)) (K,X,o,nx,rd,all)):Prop:=
 match ds with
 |some ds=>tZ P g K X o nx fr rd ds all
 |none=>qD P g K X o nx fr all
@[go_sem] theorem Bq {P:Program} {o:Nat->aa} {nx fr:Nat} {rd:List Nat} {ds:List D} {g:FuncId} {all:List V} {K X}:l9 P K X o nx fr rd g all (some ds)=tZ P g K X o nx fr rd ds all:=propext Iff.rfl
@[go_sem] theorem Br {P:Program} {o:Nat->aa} {nx fr:Nat} {rd:List Nat} {g:FuncId} {all:List V} {K X}:l9 P K X o nx fr rd g all none=qD P g K X o nx fr all:=propext Iff.rfl
def sA(P:Program)(K:KD)(X:XD)(o:Nat->aa)(nx fr:Nat)(rd:Fix (List Nat) (K,X,o,nx))(f:Fix V (K,X,o,nx))(args:Fix (List V) (K,X,o,nx)):Prop:=
 match f with
 | .func (.func g) first cap=>l9 P K X o nx fr rd g (first++args++cap) (bt o (first++args++cap))
 |_=>False
@[go_sem] theorem Cr {P:Program} {o:Nat->aa} {nx fr:Nat} {rd:List Nat} {g:FuncId} {first cap args:List V} {K X}:sA P K X o nx fr rd (.func (.func g) first cap) args=l9 P K X o nx fr rd g (first++args++cap) (bt o (first++args++cap)):=propext Iff.rfl
def n4(K:KD)(rd:List Nat)(x:Fix (Option eu) (K,rd)):Prop:=match x with|some (v,Δ,_)=>K v Δ rd|none=>False
@[go_sem] theorem Cs {v:V} {Δ:List (Nat×aa)} {r rd:List Nat} {K}:n4 K rd (some (v,Δ,r))=K v Δ rd:=propext Iff.rfl
@[go_sem] theorem D4 {v:V} {r rd:List Nat} {K}:n4 K rd (DV v r)=K v [] rd:=propext Iff.rfl
def y5(P:Program)(K:KD)(X:XD)(fr:Nat)(o:bz)(s:Fix S (K,X,o)):Prop:=
 match dP o.op with
 |some (f,args)=>sA P K X s.o s.nx fr (ft s o.op) (s.ev f) (args.map s.ev)
 |none=>n4 K (ft s o.op) (ei P s fr o.op)
def we(P:Program)(KB:List Nat->Fp->Prop)(pr:List (List Nat))(l:List bz)(fr:Nat)(fp:Fix Fp (KB,l))(bad ws:Fix (List Nat) (KB,l))(s:Fix S (KB,l)):Prop:=eN P KB pr l fr s fp bad ws
def lz(P:Program)(K:S->Fp->Prop)(KP:V->List Nat->Fp->Prop)(pr:List (List Nat))(l:List bz)(fr:Nat)(s:Fix S (K,KP,l))(fp:Fix Fp (K,KP,l)):Prop:=
 match l with
 |[]=>K s fp
 |o::l=>match o.gd with
  |none=>y5 P (fun v Δ rd=>lz P K KP pr l (fr+1) ⟨aJ s.env o.dst v,put s.o Δ,s.nx⟩ (fp++[(rd,Δ.map (·.1))]))
   (fun v ws rd=>we P (KP v) pr l (fr+1) (fp++[(rd,[])]) [fp.length] (ws++fp.flatMap (·.2)) ⟨aJ s.env o.dst .aE,s.o,s.nx⟩) fr o s
  |some (d,want)=>fN want (y5 P (fun v Δ rd=>lz P K KP pr l (fr+1) ⟨aJ s.env o.dst v,put s.o Δ,s.nx⟩ (fp++[(rd,Δ.map (·.1))]))
   (fun v ws rd=>we P (KP v) pr l (fr+1) (fp++[(rd,[])]) [fp.length] (ws++fp.flatMap (·.2)) ⟨aJ s.env o.dst .aE,s.o,s.nx⟩) fr o s)
   (lz P K KP pr l (fr+1) ⟨aJ s.env o.dst (.bJ []),s.o,s.nx⟩ (fp++[([],[])])) (s.env d)
def zM(pr:List (List Nat))(nx:Nat)(Q:eY->S->Prop)(s:Fix S Q)(fp:Fix Fp Q):Prop:=tW pr nx Q s fp
def pI(A B:Prop)(v:Fix V (A,B)):Prop:=
 match v with
 | .d (.bool t)=>fe A B t
 | .dy=>A/\B
 |_=>False
@[go_sem] theorem D5 (A B:Prop):pI A B .dy=(A/\B):=propext Iff.rfl
@[go_sem] theorem Ct (t:Bool) (A B:Prop):pI A B (.d (.bool t))=fe A B t:=propext Iff.rfl
def uP{ι:Type}(b:Nat)(st:ι->S)(fU:ι->Prop)(kj:ι->Nat)(i:ι)(s:S):Prop:=∃j,fU j/\kj j<kj i/\dv b s (st j)
def n5(next:S->Prop)(Q:eY->S->Prop)(e:eY)(s:S):Prop:=match e with| .normal=>next s|e=>Q e s
section
variable {N:S->Prop}{Q:eY->S->Prop}{s:S}
@[go_sem ↓] theorem zN:n5 N Q .normal s=N s:=propext Iff.rfl
@[go_sem ↓] theorem Cu {id:Nat}:n5 N Q (.exit id) s=Q (.exit id) s:=propext Iff.rfl
@[go_sem ↓] theorem D6:n5 N Q .ret s=Q .ret s:=propext Iff.rfl
@[go_sem ↓] theorem D7 {v:V}:n5 N Q (.ba v) s=Q (.ba v) s:=propext Iff.rfl
end
def uQ(b:Nat)(body:(eY->S->Prop)->S->Prop)(Q:eY->S->Prop)(s:Fix S (body,Q)):Prop:=
 ∃ (ι:Type) (st:ι->S) (fU:ι->Prop) (kj:ι->Nat) (i0:ι),fU i0/\dv b s (st i0)/\∀i,fU i->body (n5 (uP b st fU kj i) Q) (st i)
theorem cU{ι:Type}{b:Nat}{body:(eY->S->Prop)->S->Prop}{Q:eY->S->Prop}{s:S}(st:ι->S)(fU:ι->Prop)(kj:ι->Nat)(i0:ι)(h0:fU i0)(hle:dv b s (st i0))
 (h:∀i,fU i->body (n5 (uP b st fU kj i) Q) (st i)):uQ b body Q s:=⟨ι,st,fU,kj,i0,h0,hle,h⟩
def Cv(P:Program)(n:Nat)(rd:Bool)(ps:List Nat)(x y:IC)(Q:eY->S->Prop)(s:Fix S (x,y,Q))(g:Fix V (x,y,Q)):Prop:=rd=false/\tF P n g ps x y Q s
def lA(P:Program)(n b:Nat)(rd:Bool)(c:IC)(Q:eY->S->Prop)(s:Fix S (c,Q)):Prop:=
 match c with
 | .skip=>Q .normal s
 | .ab l=>mZ P (fun v s=>Q (.ba v) s) (Q .normal) l s
 | .dn l pr=>lz P (zM pr (s.nx+l.length) Q) (ss pr l s Q) pr l s.nx s []
 | .seq x y=>lA P n b rd x (kX (fun s=>lA P n b rd y Q s) Q) s
 | .cond c x y=>pI (lA P n b rd x Q s) (lA P n b rd y Q s) (s.ev c)
 | .block id x=>lA P n b rd x (dG id Q) s
 | .loop x=>uQ b (fun Q s=>lA P n b rd x Q s) Q s
 | .exit id=>Q (.exit id) s
 | .ret=>Q .ret s
 | .vl g ps x y=>Cv P n rd ps x y Q s (s.ev g)
 | .bad=>False
section
variable {P:Program}{n b:Nat}{rd:Bool}
theorem sB{s:S}{f:V}{args:List V}{K K':V->(Nat->aa)->Nat->Prop}{X X':V->(Nat->aa)->Nat->Prop}(hK:∀v o n,K v o n->K' v o n)(hX:∀v o n,X v o n->X' v o n)(h:mC P K X s f args):
 match(generalizing:=false) f with
  | .func (.func g) first cap=>match bt s.o (first++args++cap)with
    |some ds=>nR P g ds s.o (put s.o (b8 s.o (V.aP (first++args++cap)))) (put s.o (lT s.o (V.aP (first++args++cap)))) (fun v o'=>K' v o' (s.nx+1)) (fun v o'=>X' v o' (s.nx+1))\/mq P g (first++args++cap) s.o s.nx K' X'
    |none=>mq P g (first++args++cap) s.o s.nx K' X'
  | .js id=>dF P id args s.o s.nx K' X'
  |_=>False:=by
 unfold mC ki uO at h
 split at h
 ·rename_i g first cap
  cases dp:bt s.o (first++args++cap)with
  |some ds=>
   simp only[dp]at h|-
   rcases h with⟨out,h1,h2|⟨h3,h2⟩|⟨h3,h2⟩⟩|h
   ·exact .inl ⟨out,h1, .inl (by cases out<;>first|exact hK _ _ _ h2|exact hX _ _ _ h2)⟩
   ·exact .inl ⟨out,h1, .inr (.inl ⟨h3,by cases out<;>first|exact hK _ _ _ h2|exact hX _ _ _ h2⟩)⟩
   ·exact .inl ⟨out,h1, .inr (.inr ⟨h3,by cases out<;>first|exact hK _ _ _ h2|exact hX _ _ _ h2⟩)⟩
   ·exact .inr (iY.mono hK hX h)
  |none=>
   simp only[dp]at h|-
   exact iY.mono hK hX h
 ·exact dF.mono hK hX h
 ·exact h.elim
theorem pJ{x:Option eu}{K:V->List (Nat×aa)->Prop}(h:gw K x):∃v Δ rd,x=some (v,Δ,rd)/\K v Δ:=by
 unfold gw at h;split at h
 ·exact⟨_,_,_,rfl,h⟩
 ·exact h.elim
theorem qE{s:S}{o:bz}{X X':V->S->Prop}{K K':S->Prop}(hK:∀s,K s->K' s)(hX:∀v s,X v s->X' v s)(h:te P X K o s):wE P s o X' K':=by
 unfold te at h
 unfold wE
 have hs:∀ {op:Op},(gw (fun v Δ=>K ⟨aJ s.env o.dst v,put s.o Δ,s.nx+1⟩) (ei P s s.nx op))->(match ei P s s.nx op with|some (v,Δ,_)=>K' ⟨aJ s.env o.dst v,put s.o Δ,s.nx+1⟩|none=>False):=by
  intro op h
  obtain⟨v,Δ,rd,he,h⟩:=pJ h
  simp only[he];exact hK _ h
 split at h
 ·rename_i x str hx
  rw[hx]
  unfold xN at h
  simp only
  split at h
  ·rename_i id l hl
   simp only[hl]
   exact⟨h.1,fun e=>hK _ (h.2.1 e),fun i k x e=>hK _ (h.2.2 i k x e)⟩
  ·rename_i hl
   simp only[hl]
   exact hs (op:= .next x str) h
 ·rename_i c hc
  simp only[hc]
  split at h
  ·rename_i f hf
   simp only[hf]
   exact sB (K:=fun v o' nx'=>K ⟨aJ s.env o.dst v,o',nx'⟩) (X:=fun v o' nx'=>X v ⟨s.env,o',nx'⟩) (fun v o n h=>hK _ h) (fun v o n h=>hX _ _ h) h
  ·rename_i r m hf
   simp only[hf]
   unfold xM at h
   split at h
   ·rename_i g y hr
    simp only[hr]
    unfold sy at h
    split at h
    ·rename_i ds dp
     obtain⟨out,h1,h2⟩:=h
     refine .inl ⟨ds,dp,out,h1, ?_⟩
     rcases h2 with h2|⟨h3,h2⟩|⟨h3,h2⟩
     ·exact .inl (by cases out<;>first|exact hK _ h2|exact hX _ _ h2)
     ·exact .inr (.inl ⟨h3,by cases out<;>first|exact hK _ h2|exact hX _ _ h2⟩)
     ·exact .inr (.inr ⟨h3,by cases out<;>first|exact hK _ h2|exact hX _ _ h2⟩)
    ·exact h.elim
   ·exact h.elim
  ·rename_i hf hi
   rw[hc]at h
   obtain⟨xf,args,ts⟩:=c
   cases xf with
   |value f=>exact absurd rfl (hf f)
   |invoke r m=>exact absurd rfl (hi r m)
   |_=>exact hs h
 ·rename_i x hx
  simp only[hx]
  unfold wc at h
  split at h
  ·rename_i hv;simp only[hv];exact hX _ _ h
  ·rename_i hv;simp only[hv];exact hX _ _ h
  ·exact h.elim
 ·rename_i oC hc hp
  have h2:=hs h
  cases hh:o.op<;>first
   |exact absurd hh (hc _)
   |exact absurd hh (hp _)
   |exact absurd hh (oC _ _)
   |(rw[hh]at h2;exact h2)
theorem xQ{s:S}{o:bz}{X:V->S->Prop}{K:S->Prop}(hp:gE o.op=true){v:V}{Δ:List (Nat×aa)}{rd:List Nat}(he:ei P s s.nx o.op=some (v,Δ,rd))(h:K ⟨aJ s.env o.dst v,put s.o Δ,s.nx+1⟩):wE P s o X K:=by
 unfold wE
 split
 ·rename_i c hc
  split
  ·rename_i f hf;rw[hc]at hp;simp[gE,hf]at hp
  ·rename_i r m hf;rw[hc]at hp;simp[gE,hf]at hp
  ·rw[he];exact h
 ·rename_i x hx;rw[hx]at hp;simp[gE]at hp
 ·rename_i x str hx;rw[hx]at hp;simp[gE]at hp
 ·rw[he];exact h
theorem pK{X X':V->S->Prop}{K K':S->Prop}(hK:∀s,K s->K' s)(hX:∀v s,X v s->X' v s):∀ (l:List bz) (s:S),mZ P X K l s->kf P X' K' l s
 |[],s,h=>hK _ h
 |o::l,s,h=>by
  have ih:=pK hK hX l
  unfold mZ at h
  unfold kf
  cases hg:o.gd with
  |none=>
   simp only[hg]at h|-
   exact qE ih hX h
  |some p=>
   obtain⟨d,want⟩:=p
   simp only[hg]at h|-
   unfold qC at h
   split at h
   ·exact h.elim
   ·rename_i c hc
    have HJ:∀ {A B:Prop},(c=true->A)->(c=false->B)->(match s.env d with
     | .d (.bool b)=>if b=want then A else B
     | .bJ []=>B
     |_=>False):=by
     intro A B hA hB
     generalize s.env d=v at hc
     unfold iI at hc
     split at hc
     ·rename_i b
      injection hc with hc
      split
      ·rename_i e;exact hA (by rw[<- hc];simp[e])
      ·rename_i e;exact hB (by rw[<- hc];simp[e])
     ·injection hc with hc
      exact hB hc.symm
     ·cases hc
    split at h
    ·rename_i f args wF
     rcases h with h|h
     case inr=>exact HJ (fun Bs=>qE ih hX (h.1 Bs)) (fun Cw=>ih _ (h.2 Cw))
     obtain⟨rs,h1,h2⟩:=h
     refine HJ (fun Bs=> ?_) (fun Cw=> ?_)
     ·unfold dP at wF
      split at wF
      ·rename_i c' rU
       split at wF
       ·rename_i f' DO
        injection wF with wF;injection wF with e1 e2;subst e1;subst e2
        have pf:=h1 Bs
        unfold wE
        simp only[rU,DO]
        unfold uN at pf
        split at pf
        ·rename_i g first cap nJ
         simp only[nJ]
         split at pf
         ·rename_i ds dp
          simp only[dp]
          refine .inl ⟨.ret rs,pf.1, .inr (.inl ⟨pf.2, ?_⟩)⟩
          refine ih _ ?_
          rw[Bs]at h2
          exact h2
         ·exact pf.elim
        ·exact pf.elim
       ·cases wF
      ·cases wF
     ·refine ih _ ?_
      rw[Cw]at h2
      exact h2
    ·split at h
     ·rename_i hp
      obtain⟨v,Δ,rd,he,h⟩:=pJ h
      refine HJ (fun Bs=> ?_) (fun Cw=> ?_)
      ·rw[Bs]at he
       simp only[gD,if_true]at he
       split at he
       ·rename_i v' pz dN
        injection he with he;injection he with e1 e2;subst e1
        exact xQ hp dN (ih _ h)
       ·cases he
      ·rw[Cw]at he
       simp only[gD]at he
       injection he with he;injection he with e1 e2;subst e1
       exact ih _ h
     ·exact HJ (fun Bs=>qE ih hX (h.1 Bs)) (fun Cw=>ih _ (h.2 Cw))
theorem qF{op:Op}{f:Operand}{args:List Operand}(h:dP op=some (f,args)):∃c,op= .call c/\c.callee= .value f/\c.args.toList=args:=by
 unfold dP at h
 split at h
 ·rename_i c
  split at h
  ·rename_i f' DO
   injection h with h;injection h with e1 e2;subst e1;subst e2
   exact⟨c,rfl,DO,rfl⟩
  ·cases h
 ·cases h
theorem wg{x:Option eu}{rd:List Nat}{K:KD}(h:n4 K rd x):∃v Δ r,x=some (v,Δ,r)/\K v Δ rd:=by
 unfold n4 at h;split at h
 ·exact⟨_,_,_,rfl,h⟩
 ·exact h.elim
theorem e7.mono {P:Program}{g:FuncId}{args:List V}{o:Nat->aa}{nx fr:Nat}{K K':KD}{X X':XD}(hK:∀v Δ r,K v Δ r->K' v Δ r)(hX:∀v w r,X v w r->X' v w r)(h:e7 P g args o nx fr K X):e7 P g args o nx fr K' X':=by
 obtain⟨rd,Δ,h1,⟨rs,h2,h3⟩|⟨x,h2,h3⟩|⟨v,h2,h3⟩⟩:=h
 ·exact⟨rd,Δ,h1, .inl ⟨rs,h2,hK _ _ _ h3⟩⟩
 ·exact⟨rd,Δ,h1, .inr (.inl ⟨x,h2,hX _ _ _ h3⟩)⟩
 ·exact⟨rd,Δ,h1, .inr (.inr ⟨v,h2,hK _ _ _ h3⟩)⟩
theorem mB.mono {P:Program}{g:FuncId}{ds:List D}{Kf Kb KX LR LS LU:V->Prop}(h1:∀v,Kf v->LR v)(h2:∀v,Kb v->LS v)(h3:∀v,KX v->LU v)(h:mB P g ds Kf Kb KX):mB P g ds LR LS LU:=by
 rcases h with⟨rs,a,b|⟨b,c⟩⟩|⟨x,a,b,c⟩|⟨v,a,b⟩
 ·exact .inl ⟨rs,a, .inl (h1 _ b)⟩
 ·exact .inl ⟨rs,a, .inr ⟨b,h2 _ c⟩⟩
 ·exact .inr (.inl ⟨x,a,b,h3 _ c⟩)
 ·exact .inr (.inr ⟨v,a,h1 _ b⟩)
theorem uR{s:S}{fr:Nat}{o:bz}{K K':KD}{X X':XD}(hK:∀v Δ r,K v Δ r->K' v Δ r)(hX:∀v w r,X v w r->X' v w r)(h:y5 P K X fr o s):rj P s fr o K' X':=by
 unfold y5 at h
 split at h
 ·rename_i f args wF
  obtain⟨c,h1,h2,h3⟩:=qF wF
  subst h3
  unfold rj
  simp only[h1,h2]
  unfold sA l9 at h
  split at h
  ·rename_i g first cap hf
   simp only[hf]
   split at h
   ·rename_i ds dp
    simp only[dp]
    refine h.elim (fun h=> .inl ?_) (fun h=> .inr (e7.mono hK hX h))
    refine mB.mono (fun v h=> ?_) (fun v h=> ?_) (fun v h=> ?_) h<;>(rw[h1]at h)
    ·exact hK _ _ _ h
    ·exact hK _ _ _ h
    ·exact hX _ _ _ h
   ·rename_i dp
    simp only[dp]
    exact e7.mono hK hX h
  ·exact h.elim
 ·rename_i wF
  obtain⟨v,Δ,rd,he,h⟩:=wg h
  unfold rj
  split
  ·rename_i c hc
   split
   ·rename_i f hf
    exact absurd wF (by simp[dP,hc,hf])
   ·simp only[he];exact hK _ _ _ h
  ·simp only[he];exact hK _ _ _ h
theorem sC{s:S}{fr:Nat}{o:bz}{K K':KD}{X X':XD}(hK:∀v Δ r,K v Δ r->K' v Δ r)(hX:∀v w r,X v w r->X' v w r)(h:rj P s fr o K X):rj P s fr o K' X':=by
 unfold rj at h|-
 split at h
 ·rename_i c hc
  rw[hc]at h|-
  split at h
  ·rename_i f hf
   (try simp only[hf])
   split at h
   ·rename_i nJ
    (try simp only[nJ])
    split at h
    ·exact h.elim (fun h=> .inl (mB.mono (fun v h=>hK _ _ _ h) (fun v h=>hK _ _ _ h) (fun v h=>hX _ _ _ h) h)) (fun h=> .inr (e7.mono hK hX h))
    ·exact e7.mono hK hX h
   ·exact h.elim
  ·rename_i hf
   split at h
   ·rename_i he
    (try simp only[he])
    exact hK _ _ _ h
   ·exact h.elim
 ·split at h
  ·rename_i he
   (try simp only[he]);exact hK _ _ _ h
  ·exact h.elim
theorem fu{KB LV:List Nat->Fp->Prop}{pr:List (List Nat)}(hK:∀l fp,KB l fp->LV l fp):∀ (l:List bz) (fr:Nat) (s:S) (fp:Fp) (bad ws:List Nat),eN P KB pr l fr s fp bad ws->eN P LV pr l fr s fp bad ws
 |[],_,_,_,_,_,h=>hK _ _ h
 |o::l,fr,s,fp,bad,ws,h=>by
  unfold eN at h|-
  split
  ·rename_i hb
   rw[if_pos hb]at h
   exact fu hK l _ _ _ _ _ h
  ·rename_i hb
   rw[if_neg hb]at h
   split at h
   ·exact sC (fun v Δ r h=>fu hK l _ _ _ _ _ h) (fun _ _ _ h=>h) h
   ·split at h
    ·split at h
     ·rename_i e;simp only[e,if_true]
      exact sC (fun v Δ r h=>fu hK l _ _ _ _ _ h) (fun _ _ _ h=>h) h
     ·rename_i e;simp only[e,if_false]
      exact fu hK l _ _ _ _ _ h
    ·exact fu hK l _ _ _ _ _ h
    ·exact h.elim
theorem gX{K K':S->Fp->Prop}{KP Jf:V->List Nat->Fp->Prop}{pr:List (List Nat)}(hK:∀s fp,K s fp->K' s fp)(hP:∀v l fp,KP v l fp->Jf v l fp):∀ (l:List bz) (fr:Nat) (s:S) (fp:Fp),lz P K KP pr l fr s fp->gC P K' Jf pr l fr s fp
 |[],_,_,_,h=>hK _ _ h
 |o::l,fr,s,fp,h=>by
  have hB:∀v ws (Jg:List Nat),we P (KP v) pr l (fr+1) (fp++[(Jg,[])]) [fp.length] (ws++fp.flatMap (·.2)) ⟨aJ s.env o.dst .aE,s.o,s.nx⟩->
   eN P (Jf v) pr l (fr+1) ⟨aJ s.env o.dst .aE,s.o,s.nx⟩ (fp++[(Jg,[])]) [fp.length] (ws++fp.flatMap (·.2)):=fun v ws Jg h=>fu (fun a b h=>hP v a b h) l _ _ _ _ _ h
  unfold lz at h
  unfold gC
  split at h
  ·rename_i hg
   (try simp only[hg])
   exact uR (fun v Δ r h=>gX hK hP l _ _ _ h) hB h
  ·rename_i d want hg
   (try simp only[hg])
   generalize s.env d=v at h
   unfold fN at h
   split at h
   ·rename_i bb
    by_cases e:bb=want
    ·subst e
     simp only[if_true]
     exact uR (fun v Δ r h=>gX hK hP l _ _ _ h) hB (h.1 (by simp))
    ·simp only[if_neg e]
     exact gX hK hP l _ _ _ (h.2 (by simpa using e))
   ·exact gX hK hP l _ _ _ h
   ·exact h.elim
theorem dQ:∀ (c:IC) (Q Q':eY->S->Prop) (s:S),(∀e s,Q e s->Q' e s)->lA P n b rd c Q s->m9 P n b rd c Q' s
 | .skip,_,_,_,hQ,h=>hQ _ _ h
 | .ab l,_,_,_,hQ,h=>pK (fun s h=>hQ _ _ h) (fun v s h=>hQ _ _ h) l _ h
 | .dn l pr,_,_,_,hQ,h=> .inl (gX (fun s fp h=>⟨h.1,hQ _ _ h.2⟩) (fun v l fp h=>⟨h.1,hQ _ _ h.2⟩) l _ _ _ h)
 | .seq x y,Q,Q',s,hQ,h=>dQ x _ _ s (fun e s h=>by
  unfold kX at h|-
  cases e with
  |normal=>exact dQ y _ _ s hQ h
  |_=>exact hQ _ _ h) h
 | .cond c x y,Q,Q',s,hQ,h=>by
   unfold lA pI fe at h
   unfold m9
   split at h
   ·rename_i t ht
    simp only[ht]
    exact⟨fun e=>dQ x _ _ s hQ (h.1 e),fun e=>dQ y _ _ s hQ (h.2 e)⟩
   ·rename_i ht
    simp only[ht]
    exact⟨dQ x _ _ s hQ h.1,dQ y _ _ s hQ h.2⟩
   ·exact h.elim
 | .block id x,Q,Q',s,hQ,h=>dQ x _ _ s (fun e s h=>by
  unfold dG at h|-
  cases e with
  |exit j=>
   simp only at h|-
   split
   ·rename_i e;rw[if_pos e]at h;exact hQ _ _ h
   ·rename_i e;rw[if_neg e]at h;exact hQ _ _ h
  |_=>exact hQ _ _ h) h
 | .loop x,Q,Q',s,hQ,h=>by
   obtain⟨ι,st,fU,kj,i0,h0,hle,h2⟩:=h
   refine⟨fun m s=>∃i,fU i/\kj i=m/\s=st i,⟨kj i0,st i0,hle,i0,h0,rfl,rfl⟩, ?_⟩
   rintro m s0 ⟨i,hg,rfl,rfl⟩
   refine dQ x _ _ _ (fun e s h=> ?_) (h2 i hg)
   cases e with
   |normal=>
    obtain⟨j,k1,k2,k3⟩:=h
    exact⟨kj j,st j,k2,k3,j,k1,rfl,rfl⟩
   |_=>exact hQ _ _ h
 | .exit id,_,_,_,hQ,h=>hQ _ _ h
 | .ret,_,_,_,hQ,h=>hQ _ _ h
 | .vl g ps x y,_,_,_,hQ,h=>⟨h.1,pH hQ h.2⟩
 | .bad,_,_,_,_,h=>h.elim
end
theorem cR.iJ {P:Program}(aO:P.follows .mixedOrders=true){f:FuncId}{n:Nat}{ic:IC}{rs:List ResultVar}{ds:List D}{out:R}(hf:aF P f n ic rs)(hl:ds.length<=n)
 (h:lA P n 0 false ic (tC P rs out) ⟨bT (ds.map .d),fun _=> .no,0⟩):cR P f ds out:=
 cR.n3 aO hf hl (dQ ic _ _ _ (fun _ _ h=>h) h)
def xR(P:Program)(rs:List ResultVar)(K X:V->(Nat->aa)->Nat->Prop)(e:eY)(s:S):Prop:=iB P rs K X e s
theorem jx.iJ {P:Program}(aO:P.follows .mixedOrders=true){f:FuncId}{n:Nat}{ic:IC}{rs:List ResultVar}{args:List V}{o:Nat->aa}{nx:Nat}{K X:V->(Nat->aa)->Nat->Prop}(hf:aF P f n ic rs)(hl:args.length<=n)
 (h:lA P n nx false ic (xR P rs K X) ⟨bT args,o,nx⟩):jx P f args o nx K X:=
 jx.n3 aO hf hl (dQ ic _ _ _ (fun _ _ h=>h) h)
section
variable {P:Program}{g:FuncId}{ds:List D}{o:Nat->aa}{nx:Nat}{K X:V->(Nat->aa)->Nat->Prop}{all:List V}
theorem cI{rs:List D}(h:cR P g ds (.ret rs))(hf:D.gq rs=true)(hk:K (gQ rs) o (nx+1)):sx P g o nx K X ds all:= .inl ⟨.ret rs,h, .inr (.inl ⟨hf,hk⟩)⟩
theorem fw{rs:List D}(h:cR P g ds (.ret rs))(hk:K (gQ rs) (put o (b8 o (V.aP all))) (nx+1)):sx P g o nx K X ds all:= .inl ⟨.ret rs,h, .inl hk⟩
variable {K:KD}{X:XD}{rd:List Nat}{fr:Nat}
end
theorem bH{t:Bool}{A B:Prop}(h:t=true->A)(h2:t=false->B):fe A B t:=⟨h,h2⟩
theorem b7{pr:List (List Nat)}{nx:Nat}{Q:eY->S->Prop}{s:S}{fp:List (List Nat×List Nat)}(h:fC pr fp=true)(h2:Q .normal ⟨s.env,s.o,nx⟩):zM pr nx Q s fp:=⟨h,h2⟩
@[go_sem] theorem Fs (o:Nat->aa):put o []=o:=rfl
@[go_sem] theorem wh (o:Nat->aa) (x:Nat×aa) (l:List (Nat×aa)):put o (x::l)=put (aV o x.1 x.2) l:=rfl
@[go_sem] theorem aX {α:Type} (f:Nat->α) (i:Nat) (x:α):aV f i x i=x:=by simp
@[go_sem] theorem aS {α:Type} (f:Nat->α) (i j:Nat) (x:α) (h:j≠i):aV f i x j=f j:=by simp[h]
@[go_sem] theorem zO (v:V) (l:List V):bT (v::l) 0=v:=rfl
@[go_sem] theorem zP (v:V) (l:List V) (i:Nat):bT (v::l) (i+1)=bT l i:=rfl
@[go_sem] theorem Bt (i:Nat):bT [] i= .bJ []:=by simp[bT]
@[go_sem] theorem D8 {P:Program} {o:Nat->aa} {t:TypeId} {id off:Nat}:jc P o t (.ptr id off)=match o id with
 | .row cs=>match dq P t cs off with
   |some v=>some (v,[],[id])
   |none=>none
 |_=>none:=by unfold jc;exact Eq.trans rfl rfl
@[go_sem] theorem Ft {P:Program} {o:Nat->aa} {t:TypeId} {cs:List D} {off:Nat}:jc P o t (.pp cs off)=match dq P t (cs.map .d) off with
 |some v=>some (v,[],[])
 |none=>none:=by unfold jc;exact Eq.trans rfl rfl
@[go_sem] theorem Fu {P:Program} {o:Nat->aa} {t:TypeId} {id ep i sz off:Nat}:jc P o t (.pe id ep i sz off)=match o id with
 | .arr eF _ jF es=>if ep=eF/\sz=jF then match es[i]? with
  |some e=>match dq P t (e.cells.map .d) off with
   |some v=>some (v,[],[id])
   |none=>none
  |none=>none
   else none
 |_=>none:=by unfold jc;exact Eq.trans rfl rfl
section
variable {P:Program}{o:Nat->aa}{t:TypeId}{op:BinOp}{kD:Bool}
@[go_sem] theorem D9 {k:IntKind} {a b:Int}:cy P o op t kD (.d (.int k a)) (.d (.int k b))=match r8 op k a b with
 |some v=>one v
 |none=>lX P o op t kD (.d (.int k a)) (.d (.int k b)):=by
  simp only[cy,qm,if_true]
  cases r8 op k a b<;>rfl
@[go_sem] theorem Ea {a b:Bool} (h:aA P t=true):cy P o .eql t kD (.d (.bool a)) (.d (.bool b))=one (.d (.bool (a==b))):=by simp only[cy,qm,xr,h,if_true]
@[go_sem] theorem Eb {a b:Bool} (h:aA P t=true):cy P o .neq t kD (.d (.bool a)) (.d (.bool b))=one (.d (.bool (a !=b))):=by simp only[cy,qm,xr,h,if_true]
@[go_sem] theorem Ec {a b:List UInt8}:cy P o .eql t kD (.d (.str a)) (.d (.str b))=one (.d (.bool (a==b))):=by unfold cy;exact Eq.trans rfl rfl
@[go_sem] theorem Ed {a b:List UInt8}:cy P o .neq t kD (.d (.str a)) (.d (.str b))=one (.d (.bool (a !=b))):=by unfold cy;exact Eq.trans rfl rfl
@[go_sem] theorem Ee {a b:List D}:cy P o op t kD (.d (.agg a)) (.d (.agg b))=lX P o op t kD (.d (.agg a)) (.d (.agg b)):=by unfold cy;exact Eq.trans rfl rfl
theorem lB{x:V}{y:V}(h:match y with| .d (.int _ _)| .d (.bool _)| .d (.str _)=>False|_=>True):qm P op t x y=none:=by
 unfold qm
 split<;>first|exact h.elim|rfl
@[go_sem] theorem Cy {x:V}:cy P o op t kD x .aI=lX P o op t kD x .aI:=by unfold cy;rw[lB trivial]
@[go_sem] theorem Cz {x:V}:cy P o op t kD x (.d .dS)=lX P o op t kD x (.d .dS):=by unfold cy;rw[lB trivial]
@[go_sem] theorem CA {x:V}:cy P o op t kD x (.d .fg)=lX P o op t kD x (.d .fg):=by unfold cy;rw[lB trivial]
@[go_sem] theorem CB {x:V}:cy P o op t kD x (.d .aM)=lX P o op t kD x (.d .aM):=by unfold cy;rw[lB trivial]
@[go_sem] theorem CC {x:V}:cy P o op t kD x (.d .c0)=lX P o op t kD x (.d .c0):=by unfold cy;rw[lB trivial]
@[go_sem] theorem Fv {b:Bool}:r9 .not (.d (.bool b))=some (.d (.bool !b)):=by unfold r9;exact Eq.trans rfl rfl
@[go_sem] theorem Fw:r9 .not .dy=some .dy:=by unfold r9;exact Eq.trans rfl rfl
@[go_sem] theorem Fx {k:IntKind} {n:Int}:r9 .neg (.d (.int k n))=some (.d (.int k (k.wrap (-n)))):=by unfold r9;exact Eq.trans rfl rfl
end
@[go_sem] theorem D.Eg (cs:List D):(D.agg cs).cells=cs:=rfl
@[go_sem] theorem D.Eh (k:IntKind) (n:Int):(D.int k n).cells=[.int k n]:=rfl
@[go_sem] theorem D.CD (b:Bool):(D.bool b).cells=[.bool b]:=rfl
@[go_sem] theorem D.Ei (b:List UInt8):(D.str b).cells=[.str b]:=rfl
@[go_sem] theorem D.Fy (b:List D):(D.sl b).cells=[.sl b]:=rfl
@[go_sem] theorem D.Fz (a b:List D):(D.mp a b).cells=[.mp a b]:=rfl
@[go_sem] theorem D.Bu (t:TypeId) (x:D):(D.iface t x).cells=[.iface t x]:=rfl
@[go_sem] theorem D.CE:D.dS.cells=[.dS]:=rfl
@[go_sem] theorem D.CF:D.fg.cells=[.fg]:=rfl
@[go_sem] theorem D.CG:D.aM.cells=[.aM]:=rfl
@[go_sem] theorem D.CH:D.c0.cells=[.c0]:=rfl
attribute [go_sem] V.ofConst V.cn r8 xr lp tI py jQ eK eL l6 ef iC lq lr lu qn fm xu iw dk bt dq p5 mf cS V.cells D.put b8 V.ids V.aP gQ D.gq D.flat R.flat
attribute [go_sem] p4 List.take_succ_cons List.take_zero List.take_nil List.drop_zero List.drop_succ_cons List.drop_nil
attribute [go_sem] List.map_cons List.map_nil List.length_cons List.length_nil List.cons_append List.nil_append List.append_nil List.getElem?_cons_zero List.getElem?_cons_succ Option.bind_some Option.bind_none Option.map_some Option.map_none aa.bc aa.aL
section
variable {P:Program}{n b:Nat}{rd:Bool}{Q:eY->S->Prop}{s:S}
@[go_sem] theorem FA:lA P n b rd .skip Q s=Q .normal s:=propext Iff.rfl
@[go_sem] theorem HK {l:List bz}:lA P n b rd (.ab l) Q s=mZ P (fun v s=>Q (.ba v) s) (Q .normal) l s:=propext Iff.rfl
@[go_sem] theorem HL {l:List bz} {pr:List (List Nat)}:lA P n b rd (.dn l pr) Q s=lz P (zM pr (s.nx+l.length) Q) (ss pr l s Q) pr l s.nx s []:=propext Iff.rfl
@[go_sem] theorem HM {x y:IC}:lA P n b rd (.seq x y) Q s=lA P n b rd x (kX (fun s=>lA P n b rd y Q s) Q) s:=propext Iff.rfl
@[go_sem] theorem FB {c:Operand} {x y:IC}:lA P n b rd (.cond c x y) Q s=pI (lA P n b rd x Q s) (lA P n b rd y Q s) (s.ev c):=propext Iff.rfl
@[go_sem] theorem Ej {id:Nat} {x:IC}:lA P n b rd (.block id x) Q s=lA P n b rd x (dG id Q) s:=propext Iff.rfl
@[go_sem] theorem FC {x:IC}:lA P n b rd (.loop x) Q s=uQ b (fun Q s=>lA P n b rd x Q s) Q s:=propext Iff.rfl
@[go_sem] theorem FE {id:Nat}:lA P n b rd (.exit id) Q s=Q (.exit id) s:=propext Iff.rfl
@[go_sem] theorem HN:lA P n b rd .ret Q s=Q .ret s:=propext Iff.rfl
@[go_sem] theorem HO {g:Operand} {ps:List Nat} {x y:IC}:lA P n b rd (.vl g ps x y) Q s=Cv P n rd ps x y Q s (s.ev g):=propext Iff.rfl
@[go_sem] theorem FF {X:V->S->Prop} {K:S->Prop}:mZ P X K [] s=K s:=propext Iff.rfl
@[go_sem] theorem Ek {X:V->S->Prop} {K:S->Prop} {d:Option Nat} {op:Op} {l:List bz}:mZ P X K (⟨d,op,none⟩::l) s=te P X (mZ P X K l) ⟨d,op,none⟩ s:=propext Iff.rfl
@[go_sem] theorem El {X:V->S->Prop} {K:S->Prop} {d:Option Nat} {op:Op} {g:Nat} {w:Bool} {l:List bz}:mZ P X K (⟨d,op,some (g,w)⟩::l) s=qC P X (mZ P X K l) ⟨d,op,some (g,w)⟩ s (iI (s.env g) w):=propext Iff.rfl
variable {X:V->S->Prop}{K:S->Prop}{d:Option Nat}{op:Op}{g:Option (Nat×Bool)}{f:Operand}{args:Array Operand}{ts:Array TypeId}{c:Bool}
@[reducible] def Em:Op->Bool
  | .call c=>match c.callee with
    | .value _=>true
    | .invoke .. =>true
    |_=>false
  | .panic _=>true
  | .next .. =>true
  |_=>false
@[go_sem] theorem Jh (h:Em op=false):te P X K ⟨d,op,g⟩ s=gw (fun v Δ=>K ⟨aJ s.env d v,put s.o Δ,s.nx+1⟩) (ei P s s.nx op):=by
  unfold te
  cases op with
  |call c=>
   obtain⟨xf,args,ts⟩:=c
   cases xf with
   |value f=>simp[Em]at h
   |invoke r m=>simp[Em]at h
   |_=>rfl
  |panic x=>simp[Em]at h
  |next x str=>simp[Em]at h
  |_=>rfl
@[go_sem] theorem FG {x:Operand} {str:Bool}:te P X K ⟨d, .next x str,g⟩ s=xN (fun v Δ=>K ⟨aJ s.env d v,put s.o Δ,s.nx+1⟩) str (kG s.o (s.ev x) str) (kH s.o (s.ev x)):=propext Iff.rfl
@[go_sem] theorem FH:te P X K ⟨d, .call ⟨.value f,args,ts⟩,g⟩ s=mC P (fun v o' nx'=>K ⟨aJ s.env d v,o',nx'⟩) (fun v o' nx'=>X v ⟨s.env,o',nx'⟩) s (s.ev f) (args.toList.map s.ev):=propext Iff.rfl
@[go_sem] theorem CI {m:String}:te P X K ⟨d, .call ⟨.invoke f m,args,ts⟩,g⟩ s=xM P (fun v o' nx'=>K ⟨aJ s.env d v,o',nx'⟩) (fun v o' nx'=>X v ⟨s.env,o',nx'⟩) s (args.toList.map s.ev) (nH P m (s.ev f)):=propext Iff.rfl
@[go_sem] theorem En:te P X K ⟨d, .panic f,g⟩ s=wc (fun v=>X v s) (s.ev f):=propext Iff.rfl
@[go_sem] theorem Eo:qC P X K ⟨d, .call ⟨.value f,args,ts⟩,g⟩ s (some c)=xO P X K ⟨d, .call ⟨.value f,args,ts⟩,g⟩ s f args.toList c:=propext Iff.rfl
@[go_sem] theorem Ep (h:gE op=true):qC P X K ⟨d,op,g⟩ s (some c)=gw (fun v _=>K ⟨aJ s.env d v,s.o,s.nx+1⟩) (gD c (ei P s s.nx op)):=by
  have h2:dP op=none:=by
   cases hc:dP op with
   |none=>rfl
   |some x=>
    exfalso
    unfold dP at hc
    split at hc
    ·split at hc
     ·rename_i hv;simp[gE,hv]at h
     ·cases hc
    ·cases hc
  simp only[qC,h2,h,if_true]
@[go_sem] theorem Er (h:gE op=false) (h2:dP op=none):qC P X K ⟨d,op,g⟩ s (some c)=fe (te P X K ⟨d,op,g⟩ s) (K ⟨aJ s.env d (.bJ []),s.o,s.nx+1⟩) c:=by
  simp[qC,h2,h]
@[go_sem] theorem CJ {l:List Operand}:xO P X K ⟨d,op,g⟩ s f l false=K ⟨aJ s.env d (.bJ []),s.o,s.nx+1⟩:=by
  refine propext ⟨fun h=> ?_,fun h=> .inr ⟨(fun e=>by cases e),fun _=>h⟩⟩
  rcases h with⟨rs,_,h⟩|h
  ·exact h
  ·exact h.2 rfl
@[go_sem] theorem Es {l:List Operand} (hl:args.toList=l):xO P X K ⟨d, .call ⟨.value f,args,ts⟩,g⟩ s f l true=te P X K ⟨d, .call ⟨.value f,args,ts⟩,g⟩ s:=by
  subst hl
  refine propext ⟨fun h=> ?_,fun h=> .inr ⟨fun _=>h,(fun e=>by cases e)⟩⟩
  rcases h with⟨rs,h1,h⟩|h
  ·have h1:=h1 rfl
   unfold uN at h1
   unfold te mC ki
   simp only
   split at h1
   ·rename_i fv gg first cap hf
    simp only[hf]
    split at h1
    ·rename_i ds dp
     simp only[dp]
     exact .inl ⟨.ret rs,h1.1, .inr (.inl ⟨h1.2,h⟩)⟩
    ·exact h1.elim
   ·exact h1.elim
  ·exact h.1 rfl
variable {KV:KD}{XV:XD}
@[go_sem] theorem FI {fr:Nat}:y5 P KV XV fr ⟨d, .call ⟨.value f,args,ts⟩,g⟩ s=sA P KV XV s.o s.nx fr (ft s (.call ⟨.value f,args,ts⟩)) (s.ev f) (args.toList.map s.ev):=propext Iff.rfl
@[go_sem] theorem Ji {fr:Nat} (h2:dP op=none):y5 P KV XV fr ⟨d,op,g⟩ s=n4 KV (ft s op) (ei P s fr op):=by simp[y5,h2]
variable {KS:S->Prop}
@[go_sem ↓] theorem zQ:kX KS Q .normal s=KS s:=propext Iff.rfl
@[go_sem ↓] theorem CK {id:Nat}:kX KS Q (.exit id) s=Q (.exit id) s:=propext Iff.rfl
@[go_sem ↓] theorem Et:kX KS Q .ret s=Q .ret s:=propext Iff.rfl
@[go_sem ↓] theorem Eu {v:V}:kX KS Q (.ba v) s=Q (.ba v) s:=propext Iff.rfl
@[go_sem ↓] theorem y6 {id:Nat}:dG id Q .normal s=Q .normal s:=propext Iff.rfl
@[go_sem ↓] theorem Bv {id:Nat}:dG id Q (.exit id) s=Q .normal s:=by simp[dG]
@[go_sem ↓] theorem zR {id j:Nat} (h:j≠id):dG id Q (.exit j) s=Q (.exit j) s:=by simp[dG,h]
@[go_sem ↓] theorem CL {id:Nat}:dG id Q .ret s=Q .ret s:=propext Iff.rfl
@[go_sem ↓] theorem CM {id:Nat} {v:V}:dG id Q (.ba v) s=Q (.ba v) s:=propext Iff.rfl
def zS(out:R)(x:Option (List D)):Prop:=match x with|some ds=>out= .ret ds|none=>False
@[go_sem] theorem Ev {out:R} {ds:List D}:zS out (some ds)=(out= .ret ds):=propext Iff.rfl
def CN(out:R)(x:Option D):Prop:=match x with|some d=>out= .ba d|none=>False
@[go_sem] theorem Ew {out:R} {d:D}:CN out (some d)=(out= .ba d):=propext Iff.rfl
def zT(out:R)(o:Nat->aa)(x:Option (List V)):Prop:=match x with|some vs=>zS out (bt o vs)|none=>False
@[go_sem] theorem Ex {out:R} {o:Nat->aa} {vs:List V}:zT out o (some vs)=zS out (bt o vs):=propext Iff.rfl
variable {rs:List ResultVar}{out:R}
@[go_sem ↓] theorem Ey:tC P rs out .ret s=zT out s.o (iw P s rs):=propext Iff.rfl
@[go_sem ↓] theorem zU:tC P rs out .normal s=zT out s.o (iw P s rs):=propext Iff.rfl
@[go_sem ↓] theorem Ez {v:V}:tC P rs out (.ba v) s=CN out (dk s.o v):=propext Iff.rfl
def sD(K:V->(Nat->aa)->Nat->Prop)(o:Nat->aa)(nx:Nat)(x:Fix (Option (List V)) (K,o,nx)):Prop:=match x with
 |some [v]=>K v o nx
 |some vs=>K (.bJ vs) o nx
 |none=>False
@[go_sem] theorem FJ {K:V->(Nat->aa)->Nat->Prop} {o:Nat->aa} {nx:Nat} {v:V}:sD K o nx (some [v])=K v o nx:=propext Iff.rfl
@[go_sem] theorem FK {K:V->(Nat->aa)->Nat->Prop} {o:Nat->aa} {nx:Nat}:sD K o nx (some [])=K (.bJ []) o nx:=propext Iff.rfl
@[go_sem] theorem FL {K:V->(Nat->aa)->Nat->Prop} {o:Nat->aa} {nx:Nat} {v u:V} {l:List V}:sD K o nx (some (v::u::l))=K (.bJ (v::u::l)) o nx:=propext Iff.rfl
theorem uS{K X:V->(Nat->aa)->Nat->Prop}:iB P rs K X .ret s=sD K s.o s.nx (iw P s rs):=by
 unfold iB sD
 cases iw P s rs with
 |none=>rfl
 |some l=>match l with
  |[]=>rfl
  |[_]=>rfl
  |_::_::_=>rfl
@[go_sem ↓] theorem FM {K X:V->(Nat->aa)->Nat->Prop}:xR P rs K X .ret s=sD K s.o s.nx (iw P s rs):=uS
@[go_sem ↓] theorem Bw {K X:V->(Nat->aa)->Nat->Prop}:xR P rs K X .normal s=sD K s.o s.nx (iw P s rs):=(uS (X:=X):iB P rs K X .ret s=_)
@[go_sem ↓] theorem FN {K X:V->(Nat->aa)->Nat->Prop} {v:V}:xR P rs K X (.ba v) s=X v s.o s.nx:=propext Iff.rfl
variable {KE:S->Fp->Prop}{KP:V->List Nat->Fp->Prop}{pr:List (List Nat)}{fr:Nat}{fp:Fp}
@[go_sem] theorem FO:lz P KE KP pr [] fr s fp=KE s fp:=propext Iff.rfl
@[go_sem] theorem EA {d:Option Nat} {op:Op} {l:List bz}:lz P KE KP pr (⟨d,op,none⟩::l) fr s fp=
 y5 P (fun v Δ rd=>lz P KE KP pr l (fr+1) ⟨aJ s.env d v,put s.o Δ,s.nx⟩ (fp++[(rd,Δ.map (·.1))]))
  (fun v ws rd=>we P (KP v) pr l (fr+1) (fp++[(rd,[])]) [fp.length] (ws++fp.flatMap (·.2)) ⟨aJ s.env d .aE,s.o,s.nx⟩) fr ⟨d,op,none⟩ s:=propext Iff.rfl
@[go_sem] theorem EB {d:Option Nat} {op:Op} {g:Nat} {w:Bool} {l:List bz}:lz P KE KP pr (⟨d,op,some (g,w)⟩::l) fr s fp=
 fN w (y5 P (fun v Δ rd=>lz P KE KP pr l (fr+1) ⟨aJ s.env d v,put s.o Δ,s.nx⟩ (fp++[(rd,Δ.map (·.1))]))
  (fun v ws rd=>we P (KP v) pr l (fr+1) (fp++[(rd,[])]) [fp.length] (ws++fp.flatMap (·.2)) ⟨aJ s.env d .aE,s.o,s.nx⟩) fr ⟨d,op,some (g,w)⟩ s)
   (lz P KE KP pr l (fr+1) ⟨aJ s.env d (.bJ []),s.o,s.nx⟩ (fp++[([],[])])) (s.env g):=propext Iff.rfl
end
attribute [go_sem] Em dP gE ei one iD aJ S.ev uN
theorem aH{ι:Type}{b:Nat}{st:ι->S}{fU:ι->Prop}{kj:ι->Nat}{i:ι}{s:S}(j:ι)(h1:fU j)(h2:kj j<kj i)(h3:dv b s (st j)):uP b st fU kj i s:=⟨j,h1,h2,h3⟩
attribute [irreducible] lA mZ te qC xO mC ki sy xL xM Bk sx xK gw wc fe fN xP tZ qD l9 sA n4 y5 lz we Cv uO xR sD zM pI uQ zS CN zT n5 uP
end Go.Proofs.YtbmnikpknlkbkaaGreat
