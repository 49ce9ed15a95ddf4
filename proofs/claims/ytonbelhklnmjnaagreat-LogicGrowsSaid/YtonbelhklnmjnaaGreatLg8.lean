/-
  A PART OF THE PROOF. Conditions: none.
-/
import Derived.Test.YtonbelhklnmjnaaGreatLg7
set_option linter.unusedSimpArgs false
set_option linter.unusedVariables false
namespace Go.Proofs.YtonbelhklnmjnaaGreat
def sK(P:Program)(g:FuncId)(ds:List D)(Kf Kb KX:V->Prop):Prop:=
 (∃rs,a7 P g ds (.ret rs)/\(Kf (jJ rs)\/(D.j9 rs=true/\Kb (jJ rs))))\/(∃x,a7 P g ds (.bR x)/\x.flat=true/\KX (.d x))\/(∃v,PH P g ds v/\Kf v)
def jz(P:Program)(g:FuncId)(args:List V)(o:Nat->ab)(nx fr:Nat)(K:V->List (Nat×ab)->List Nat->Prop)(KX:V->List Nat->List Nat->Prop):Prop:=
 ∃rd Δ,rd.all (fun id=>decide (id<nx))=true/\((∃rs,Fa P g args rd o (.ret rs) Δ/\K (jJ rs) Δ rd)\/(∃x,Fa P g args rd o (.bR x) Δ/\KX (.d x) (Δ.map (·.1)) rd)\/(∃v,xE P g args rd o fr v Δ/\K v Δ rd))
def AK(P:Program)(s:S)(fr:Nat)(o:cu)(K:V->List (Nat×ab)->List Nat->Prop)(KX:V->List Nat->List Nat->Prop):Prop:=
 match o.op with
 | .call c=>match c.callee with
   | .value f=>match s.ev f with
     | .func (.func g) first cap=>match cn s.o (first++c.args.toList.map s.ev++cap)with
       |some ds=>sK P g ds (fun v=>K v (dk s.o (V.bF (first++c.args.toList.map s.ev++cap))) (pC s o.op)) (fun v=>K v [] (pC s o.op)) (fun v=>KX v [] (pC s o.op))\/jz P g (first++c.args.toList.map s.ev++cap) s.o s.nx fr K KX
       |none=>jz P g (first++c.args.toList.map s.ev++cap) s.o s.nx fr K KX
     |_=>False
   |_=>match gD P s fr o.op with
    |some (v,Δ,_)=>K v Δ (pC s o.op)
    |none=>False
 |op=>match gD P s fr op with
  |some (v,Δ,_)=>K v Δ (pC s o.op)
  |none=>False
abbrev Fp:=List (List Nat×List Nat)
def iS(P:Program)(KB:List Nat->Fp->Prop)(pr:List (List Nat)):List cu->Nat->S->Fp->List Nat->List Nat->Prop
 |[],_,_,fp,_,ws=>KB ws fp
 |o::l,fr,s,fp,bad,ws=>if(pr.getD fp.length []).any (fun j=>bad.contains j)=true then iS P KB pr l (fr+1) ⟨bu s.env o.dst .aa,s.o,s.nx⟩ (fp++[([],[])]) (bad++[fp.length]) ws
  else match o.gd with
  |none=>AK P s fr o (fun v Δ rd=>iS P KB pr l (fr+1) ⟨bu s.env o.dst v,put s.o Δ,s.nx⟩ (fp++[(rd,Δ.map (·.1))]) bad (ws++Δ.map (·.1))) (fun _ _ _=>False)
  |some (d,want)=>match s.env d with
   | .d (.bool b)=>if b=want then AK P s fr o (fun v Δ rd=>iS P KB pr l (fr+1) ⟨bu s.env o.dst v,put s.o Δ,s.nx⟩ (fp++[(rd,Δ.map (·.1))]) bad (ws++Δ.map (·.1))) (fun _ _ _=>False)
    else iS P KB pr l (fr+1) ⟨bu s.env o.dst (.ck []),s.o,s.nx⟩ (fp++[([],[])]) bad ws
   | .ck []=>iS P KB pr l (fr+1) ⟨bu s.env o.dst (.ck []),s.o,s.nx⟩ (fp++[([],[])]) bad ws
   |_=>False
def lg(P:Program)(K:S->Fp->Prop)(KP:V->List Nat->Fp->Prop)(pr:List (List Nat)):List cu->Nat->S->Fp->Prop
 |[],_,s,fp=>K s fp
 |o::l,fr,s,fp=>match o.gd with
  |none=>AK P s fr o (fun v Δ rd=>lg P K KP pr l (fr+1) ⟨bu s.env o.dst v,put s.o Δ,s.nx⟩ (fp++[(rd,Δ.map (·.1))]))
   (fun v ws rd=>iS P (KP v) pr l (fr+1) ⟨bu s.env o.dst .aa,s.o,s.nx⟩ (fp++[(rd,[])]) [fp.length] (ws++fp.flatMap (·.2)))
  |some (d,want)=>match s.env d with
   | .d (.bool b)=>if b=want then AK P s fr o (fun v Δ rd=>lg P K KP pr l (fr+1) ⟨bu s.env o.dst v,put s.o Δ,s.nx⟩ (fp++[(rd,Δ.map (·.1))]))
         (fun v ws rd=>iS P (KP v) pr l (fr+1) ⟨bu s.env o.dst .aa,s.o,s.nx⟩ (fp++[(rd,[])]) [fp.length] (ws++fp.flatMap (·.2)))
    else lg P K KP pr l (fr+1) ⟨bu s.env o.dst (.ck []),s.o,s.nx⟩ (fp++[([],[])])
   | .ck []=>lg P K KP pr l (fr+1) ⟨bu s.env o.dst (.ck []),s.o,s.nx⟩ (fp++[([],[])])
   |_=>False
def D2(pr:List (List Nat))(nx:Nat)(Q:fN->S->Prop)(s:S)(fp:Fp):Prop:=iI pr fp=true/\Q .normal ⟨s.env,s.o,nx⟩
def dstsOf(l:List cu):List Nat:=l.filterMap (·.dst)
def BQ(pr:List (List Nat))(l:List cu)(s0:S)(Q:fN->S->Prop)(v:V)(wl:List Nat)(fp:Fp):Prop:=iI pr fp=true/\Q (.bR v) (pH (dstsOf l) wl l.length s0)
def nm:List cu->List fy->S->Nat->S
 |_,_,s,0=>s
 |o::l,x::xs,s,j+1=>nm l xs (wm o.dst x s) j
 |_,_,s,_=>s
def xJ(cp:List fy):Fp:=cp.map fun x=>(wI x,la x)
section
variable {P:Program}{n b:Nat}
theorem BR{s:S}{fr:Nat}{o:cu}{K:V->List (Nat×ab)->List Nat->Prop}{KX:V->List Nat->List Nat->Prop}(h:AK P s fr o K KX):(∃v Δ rd,xF P s fr o.op v Δ rd/\K v Δ rd)\/(∃v ws rd,BI P s o.op v ws rd/\KX v ws rd):=by
 have hs:∀ {op:Op},o.op=op->(match gD P s fr op with|some (v,Δ,_)=>K v Δ (pC s o.op)|none=>False)->(∃v Δ rd,xF P s fr o.op v Δ rd/\K v Δ rd):=by
  intro op fl h
  split at h
  ·rename_i v Δ rd he;exact⟨v,Δ,_, .inl ⟨⟨rd,by rw[fl];exact he⟩,rfl⟩,h⟩
  ·exact h.elim
 unfold AK at h
 split at h
 ·rename_i c hc
  split at h
  ·rename_i f eP
   split at h
   ·rename_i g first cap hf
    split at h
    ·rename_i ds eX
     rcases h with(⟨rs,hP,h|⟨pD,h⟩⟩|⟨x,hP,pD,h⟩|⟨v,hP,h⟩)|⟨rd,Δ,mL,⟨rs,hH,h⟩|⟨x,hH,h⟩|⟨v,hH,h⟩⟩
     ·exact .inl ⟨_,_,_, .inr ⟨c,f,g,first,cap,hc,eP,hf, .inl ⟨ds,rs,eX,hP,rfl,rfl, .inl rfl⟩⟩,h⟩
     ·exact .inl ⟨_,_,_, .inr ⟨c,f,g,first,cap,hc,eP,hf, .inl ⟨ds,rs,eX,hP,rfl,rfl, .inr ⟨pD,rfl⟩⟩⟩,h⟩
     ·exact .inr ⟨_,_,_,⟨c,f,g,first,cap,hc,eP,hf, .inl ⟨ds,x,eX,hP,pD,rfl,rfl,rfl⟩⟩,h⟩
     ·exact .inl ⟨_,_,_, .inr ⟨c,f,g,first,cap,hc,eP,hf, .inr (.inr (.inl ⟨ds,eX,hP,rfl,rfl⟩))⟩,h⟩
     ·exact .inl ⟨_,_,_, .inr ⟨c,f,g,first,cap,hc,eP,hf, .inr (.inl ⟨rs,hH,rfl,fun id aB=>by simpa using List.all_eq_true.1 mL id aB⟩)⟩,h⟩
     ·exact .inr ⟨_,_,_,⟨c,f,g,first,cap,hc,eP,hf, .inr ⟨x,Δ,hH,rfl,rfl,fun id aB=>by simpa using List.all_eq_true.1 mL id aB⟩⟩,h⟩
     ·exact .inl ⟨_,_,_, .inr ⟨c,f,g,first,cap,hc,eP,hf, .inr (.inr (.inr ⟨hH,fun id aB=>by simpa using List.all_eq_true.1 mL id aB⟩))⟩,h⟩
    ·obtain⟨rd,Δ,mL,⟨rs,hH,h⟩|⟨x,hH,h⟩|⟨v,hH,h⟩⟩:=h
     ·exact .inl ⟨_,_,_, .inr ⟨c,f,g,first,cap,hc,eP,hf, .inr (.inl ⟨rs,hH,rfl,fun id aB=>by simpa using List.all_eq_true.1 mL id aB⟩)⟩,h⟩
     ·exact .inr ⟨_,_,_,⟨c,f,g,first,cap,hc,eP,hf, .inr ⟨x,Δ,hH,rfl,rfl,fun id aB=>by simpa using List.all_eq_true.1 mL id aB⟩⟩,h⟩
     ·exact .inl ⟨_,_,_, .inr ⟨c,f,g,first,cap,hc,eP,hf, .inr (.inr (.inr ⟨hH,fun id aB=>by simpa using List.all_eq_true.1 mL id aB⟩))⟩,h⟩
   ·exact h.elim
  ·rw[hc]at h;exact .inl (hs hc (by rw[hc];exact h))
 ·exact .inl (hs rfl h)
def Ns(P:Program)(KB:List Nat->Fp->Prop)(pr:List (List Nat))(l:List cu)(fr:Nat)(s:S)(fp:Fp)(bad ws:List Nat):Prop:=
    ∃cp:List fy,cp.length=l.length/\(∀j o x,l[j]? =some o->cp[j]? =some x->PI P (nm l cp s j) (fr+j) o x)/\
     (∀ (j:Nat),cp[j]? =some fy.eK->∃i∈pr.getD (fp.length+j) [],i∈bad\/∃j',j'<j/\i=fp.length+j'/\cp[j']? =some .eK)/\(∀x∈cp,x= .eK\/x.ok=true)/\
     ∃wl,KB wl (fp++xJ cp)/\(∀id∈ws,id∈wl)/\∀x∈cp,∀id∈la x,id∈wl
theorem BS{KB:List Nat->Fp->Prop}{pr:List (List Nat)}:∀ (l:List cu) (fr:Nat) (s:S) (fp:Fp) (bad ws:List Nat),iS P KB pr l fr s fp bad ws->Ns P KB pr l fr s fp bad ws
 |[],fr,s,fp,bad,ws,h=>⟨[],rfl,fun j o x hj=>by simp at hj,fun j hj=>by simp at hj,fun x hx=>by simp at hx,ws,by simpa[xJ,iS]using h,fun _ h=>h,fun x hx=>by simp at hx⟩
 |o::l,fr,s,fp,bad,ws,h=>by
  have step:∀ (x:fy) (Nt PL:List Nat),PI P s fr o x->iS P KB pr l (fr+1) (wm o.dst x s) (fp++[(wI x,la x)]) Nt PL->(x= .eK\/x.ok=true)->(x= .eK->∃i∈pr.getD fp.length [],i∈bad)->
   (∀i∈Nt,i∈bad\/(i=fp.length/\x= .eK))->(∀id∈ws,id∈PL)->(∀id∈la x,id∈PL)->
   Ns P KB pr (o::l) fr s fp bad ws:=by
   intro x Nt PL bn hr hbo Ha Tc Nq hW
   obtain⟨cp,h1,h2,h3,h4,wl,h5,h6,h7⟩:=BS l (fr+1) _ _ Nt PL hr
   refine⟨x::cp,by simp[h1],fun j o' y hj hy=> ?_,fun j hj=> ?_,fun y hy=> ?_,wl,by simpa[xJ]using h5,fun id aB=>h6 id (Nq id aB),fun y hy id aB=> ?_⟩
   ·cases j with
    |zero=>exact Sx
    |succ j=>
     have:=h2 j o' y kW I0
     rw[show fr+(j+1)=fr+1+j by omega]
     exact this
   ·cases j with
    |zero=>
     simp at hj
     obtain⟨i,i1,i2⟩:=Ha hj
     exact⟨i,by simpa using i1, .inl i2⟩
    |succ j=>
     obtain⟨i,i1,i2⟩:=h3 j kW
     simp only[List.length_append,List.length_cons,List.length_nil]at i1 i2
     refine⟨i,by rw[show fp.length+(j+1)=fp.length+(0+1)+j by omega];exact i1, ?_⟩
     rcases i2 with i2|⟨j',j1,j2,j3⟩
     ·rcases Tc i i2 with hb|⟨e1,e2⟩
      ·exact .inl hb
      ·exact .inr ⟨0,ad,ad,by simp[e2]⟩
     ·exact .inr ⟨j'+1,ad,ad,by simpa using j3⟩
   ·rcases List.mem_cons.1 hy with rfl|hy
    ·exact hbo
    ·exact h4 y hy
   ·rcases List.mem_cons.1 hy with rfl|hy
    ·exact h6 id (hW id aB)
    ·exact h7 y hy id aB
  simp only[iS]at h
  split at h
  ·rename_i hb
   obtain⟨j,hj1,XQ⟩:=List.any_eq_true.1 hb
   exact step .eK _ _ trivial h (.inl rfl) (fun _=>⟨j,hj1,by simpa using XQ⟩) (fun i hi=>by
    rcases List.mem_append.1 hi with hi|hi
    ·exact .inl hi
    ·exact .inr ⟨by simpa using hi,rfl⟩) (fun _ h=>h) (fun id aB=>by simp[la]at aB)
  ·have uM:ei s o.gd true->AK P s fr o (fun v Δ rd=>iS P KB pr l (fr+1) ⟨bu s.env o.dst v,put s.o Δ,s.nx⟩ (fp++[(rd,Δ.map (·.1))]) bad (ws++Δ.map (·.1))) (fun _ _ _=>False)->Ns P KB pr (o::l) fr s fp bad ws:=fun hg h=>by
    rcases BR h with⟨v,Δ,rd,nT,h⟩|⟨v,PL,rd,_,h⟩
    ·exact step (.val v Δ rd) bad (ws++Δ.map (·.1)) ⟨hg,nT⟩ h (.inr rfl) (fun h=>by cases h) (fun i hi=> .inl hi) (fun id aB=>List.mem_append.2 (.inl aB)) (fun id aB=>List.mem_append.2 (.inr aB))
    ·exact h.elim
   have skip:ei s o.gd false->iS P KB pr l (fr+1) ⟨bu s.env o.dst (.ck []),s.o,s.nx⟩ (fp++[([],[])]) bad ws->Ns P KB pr (o::l) fr s fp bad ws:=fun hg h=>
    step .skip bad ws hg h (.inr rfl) (fun h=>by cases h) (fun i hi=> .inl hi) (fun id aB=>aB) (fun id aB=>by simp[la]at aB)
   split at h
   ·rename_i hg;exact uM (by rw[hg];rfl) h
   ·rename_i d want hg
    split at h
    ·rename_i c hv
     split at h
     ·rename_i e;exact uM ML h
     ·rename_i e;exact skip ML h
    ·rename_i hv;exact skip (by rw[hg];simp[ei,hv]) h
    ·exact h.elim
def JM(P:Program)(K:S->Fp->Prop)(KP:V->List Nat->Fp->Prop)(pr:List (List Nat))(l:List cu)(fr:Nat)(s:S)(fp:Fp):Prop:=
 ∃cp:List fy,cp.length=l.length/\(∀j o x,l[j]? =some o->cp[j]? =some x->PI P (nm l cp s j) (fr+j) o x)/\
  (((∀x∈cp,x.ok=true)/\K (nm l cp s l.length) (fp++xJ cp))\/
   ∃v wl,(∀ (j:Nat) (v':V) (ws rd:List Nat),cp[j]? =some (fy.bR v' ws rd)->v'=v/\∀id∈ws,id∈wl)/\(∃x∈cp,x.ok=false)/\
    (∀ (j:Nat),cp[j]? =some fy.eK->∃i∈pr.getD (fp.length+j) [],∃j',i=fp.length+j'/\∃y,cp[j']? =some y/\y.ok=false)/\KP v wl (fp++xJ cp)/\(∀x∈cp,∀id∈la x,id∈wl)/\∀id∈fp.flatMap (·.2),id∈wl)
theorem uN{K:S->Fp->Prop}{KP:V->List Nat->Fp->Prop}{pr:List (List Nat)}:∀ (l:List cu) (fr:Nat) (s:S) (fp:Fp),lg P K KP pr l fr s fp->JM P K KP pr l fr s fp
 |[],fr,s,fp,h=>⟨[],rfl,fun j o x hj=>by simp at hj, .inl ⟨fun x hx=>by simp at hx,by simpa[nm,xJ,lg]using h⟩⟩
 |o::l,fr,s,fp,h=>by
  have step:∀ (x:fy),x.ok=true->PI P s fr o x->lg P K KP pr l (fr+1) (wm o.dst x s) (fp++[(wI x,la x)])->JM P K KP pr (o::l) fr s fp:=by
   intro x PM bn hr
   obtain⟨cp,h1,h2,h3⟩:=uN l (fr+1) _ _ hr
   refine⟨x::cp,by simp[h1],fun j o' y hj hy=> ?_, ?_⟩
   ·cases j with
    |zero=>exact Sx
    |succ j=>
     have:=h2 j o' y kW I0
     rw[show fr+(j+1)=fr+1+j by omega]
     exact this
   ·rcases h3 with⟨h3,h4⟩|⟨v,wl,g1,g2,g3,g4,g5,g6⟩
    ·left
     refine⟨fun y hy=> ?_,by simpa[nm,xJ]using h4⟩
     rcases List.mem_cons.1 hy with rfl|hy
     ·exact PM
     ·exact h3 y hy
    ·right
     refine⟨v,wl,fun j v' ws rd hj=> ?_, ?_,fun j hj=> ?_,by simpa[xJ]using g4,fun y hy id aB=> ?_,fun id aB=>g6 id (by simp only[List.flatMap_append,List.mem_append];exact .inl aB)⟩
     ·cases j with
      |zero=>simp at hj;rw[hj]at PM;cases PM
      |succ j=>exact g1 j v' ws rd kW
     ·obtain⟨y,y1,y2⟩:=g2;exact⟨y,by simp[y1],y2⟩
     ·cases j with
      |zero=>simp at hj;rw[hj]at PM;cases PM
      |succ j=>
       obtain⟨i,i1,j',i2,y,i3,i4⟩:=g3 j kW
       simp only[List.length_append,List.length_cons,List.length_nil]at i1 i2
       exact⟨i,by rw[show fp.length+(j+1)=fp.length+(0+1)+j by omega];exact i1,j'+1,ad,y,by simpa using i3,i4⟩
     ·rcases List.mem_cons.1 hy with rfl|hy
      ·exact g6 id (by simp only[List.flatMap_append,List.mem_append];exact .inr (by simpa using aB))
      ·exact g5 y hy id aB
  have bR:∀ (v:V) (ws rd:List Nat),PI P s fr o (.bR v ws rd)->iS P (KP v) pr l (fr+1) ⟨bu s.env o.dst .aa,s.o,s.nx⟩ (fp++[(rd,[])]) [fp.length] (ws++fp.flatMap (·.2))->JM P K KP pr (o::l) fr s fp:=by
   intro v ws rd bn hr
   obtain⟨cp,h1,h2,h3,h4,wl,h5,h6,h7⟩:=BS l (fr+1) _ _ _ _ hr
   refine⟨fy.bR v ws rd::cp,by simp[h1],fun j o' y hj hy=> ?_, .inr ⟨v,wl,fun j v' PL tt hj=> ?_,⟨fy.bR v ws rd,aj,rfl⟩,fun j hj=> ?_,by simpa[xJ,wI,la]using h5,fun y hy id aB=> ?_,fun id aB=>h6 id (List.mem_append.2 (.inr aB))⟩⟩
   ·cases j with
    |zero=>exact Sx
    |succ j=>
     have:=h2 j o' y kW I0
     rw[show fr+(j+1)=fr+1+j by omega]
     exact this
   ·cases j with
    |zero=>simp at hj;obtain⟨rfl,rfl,rfl⟩:=hj;exact⟨rfl,fun id aB=>h6 id (List.mem_append.2 (.inl aB))⟩
    |succ j=>
     have hm:=List.mem_of_getElem? (show cp[j]? =some (.bR v' PL tt) by simpa using hj)
     rcases h4 _ hm with h|h<;>cases h
   ·cases j with
    |zero=>simp at hj
    |succ j=>
     obtain⟨i,i1,i2⟩:=h3 j kW
     simp only[List.length_append,List.length_cons,List.length_nil]at i1 i2
     refine⟨i,by rw[show fp.length+(j+1)=fp.length+(0+1)+j by omega];exact i1, ?_⟩
     rcases i2 with i2|⟨j',j1,j2,j3⟩
     ·exact⟨0,by simpa using i2,_,rfl,rfl⟩
     ·exact⟨j'+1,ad, .eK,by simpa using j3,rfl⟩
   ·rcases List.mem_cons.1 hy with rfl|hy
    ·simp[la]at aB
    ·exact h7 y hy id aB
  have uM:ei s o.gd true->AK P s fr o (fun v Δ rd=>lg P K KP pr l (fr+1) ⟨bu s.env o.dst v,put s.o Δ,s.nx⟩ (fp++[(rd,Δ.map (·.1))]))
   (fun v ws rd=>iS P (KP v) pr l (fr+1) ⟨bu s.env o.dst .aa,s.o,s.nx⟩ (fp++[(rd,[])]) [fp.length] (ws++fp.flatMap (·.2)))->JM P K KP pr (o::l) fr s fp:=fun hg h=>by
   rcases BR h with⟨v,Δ,rd,nT,h⟩|⟨v,ws,rd,nT,h⟩
   ·exact step (.val v Δ rd) rfl ⟨hg,nT⟩ h
   ·exact bR v ws rd ⟨hg,nT⟩ h
  have skip:ei s o.gd false->lg P K KP pr l (fr+1) ⟨bu s.env o.dst (.ck []),s.o,s.nx⟩ (fp++[([],[])])->JM P K KP pr (o::l) fr s fp:=fun hg h=>step .skip rfl hg h
  simp only[lg]at h
  split at h
  ·rename_i hg;exact uM (by rw[hg];rfl) h
  ·rename_i d want hg
   split at h
   ·rename_i c hv
    split at h
    ·rename_i e;exact uM ML h
    ·rename_i e;exact skip ML h
   ·rename_i hv;exact skip (by rw[hg];simp[ei,hv]) h
   ·exact h.elim
end
end Go.Proofs.YtonbelhklnmjnaaGreat
namespace Go.Proofs.YtonbelhklnmjnaaGreat
def nn(env:Nat->V):List Nat->List V->Nat->V
 |t::ps,v::vs=>nn (aL env t v) ps vs
 |_,_=>env
def JN(pr:List (List Nat))(m:Nat):Bool:=(List.range pr.length).all fun k=>Nat.blt k m||Nat.beq ((eD pr []).getD k 0) (2^k - 1)
def JO(P:Program)(l:List cu)(pr:List (List Nat))(Q:fN->S->Prop)(s:S):Prop:=
 ∃m,m<=l.length/\JN pr m=true/\lg P (fun s' fp=>iI pr fp=true/\oZ P (fun v s=>Q (.bR v) s) (Q .normal) (l.drop m) ⟨s'.env,s'.o,s.nx+m⟩) (fun _ _ _=>False) pr (l.take m) s.nx s []
def tO(P:Program)(n b:Nat)(rd:Bool):IC->(fN->S->Prop)->S->Prop
 | .skip,Q,s=>Q .normal s
 | .ag l,Q,s=>oZ P (fun v s=>Q (.bR v) s) (Q .normal) l s
 | .eS l pr,Q,s=>lg P (D2 pr (s.nx+l.length) Q) (BQ pr l s Q) pr l s.nx s []\/JO P l pr Q s
 | .seq x y,Q,s=>tO P n b rd x (qb (tO P n b rd y Q) Q) s
 | .cond c x y,Q,s=>match s.ev c with
   | .d (.bool t)=>qn t (tO P n b rd x Q s) (tO P n b rd y Q s)
   | .eZ=>tO P n b rd x Q s/\tO P n b rd y Q s
   |_=>False
 | .block id x,Q,s=>tO P n b rd x (fO id Q) s
 | .loop x,Q,s=>JG b (tO P n b rd x) Q s
 | .exit id,Q,s=>Q (.exit id) s
 | .ret,Q,s=>Q .ret s
 | .GA g ps x y,Q,s=>rd=false/\X4 P n b g ps x y Q s
 | .bad,_,_=>False
section
variable {P:Program}{n b:Nat}{rd:Bool}
theorem uO:∀ (l:List cu) (cp:List fy) (s:S) (k:Nat) (o:cu) (x:fy),l[k]? =some o->cp[k]? =some x->nm l cp s (k+1)=wm o.dst x (nm l cp s k)
 |[],_,_,_,_,_,h,_=>by simp at h
 |o::l,[],_,_,_,_,_,h=>by simp at h
 |o::l,x::xs,s,0,o',x',h,h'=>by simp at h h';subst h;subst h';cases l<;>cases xs<;>rfl
 |o::l,x::xs,s,k+1,o',x',h,h'=>by
  simp only[nm]
  exact uO l xs _ k o' x' Gy (by simpa using h')
theorem xK(l:List cu)(cp:List fy)(s:S)(hl:cp.length=l.length):∀k,k<=l.length->eT (cc l) (fun i=>cp.getD i default) (fun _=>true) s k=nm l cp s k:=by
 intro k
 induction k with
 |zero=>intro _;cases l<;>cases cp<;>rfl
 |succ k ih=>
  intro hk
  have h1:l[k]? =some (cc l k):=by simp[cc,List.getD_eq_getElem?_getD,List.getElem?_eq_getElem (by omega:k<l.length)]
  have h2:cp[k]? =some (cp.getD k default):=by simp[List.getD_eq_getElem?_getD,List.getElem?_eq_getElem (by omega:k<cp.length)]
  simp only[eT,if_true,ih (by omega)]
  rw[uO l cp s k _ _ h1 h2]
theorem np{ops:Array Oper}:∀ (l:List Oper) (l':List cu),lx n ops l=some l'->l'.length=l.length
 |[],_,h=>by simp[lx]at h;subst h;rfl
 |o::l,l',h=>by
  simp only[lx]at h
  split at h
  ·rename_i hx;injection h with h;subst h;simp[np l _ hx]
  ·cases h
theorem Hf(bD:P.follows .mixedOrders=true){id:Nat}{ops:Array Oper}{l:List cu}{Q Q':fN->S->Prop}{s:S}(hQ:∀e s,Q e s->Q' e s)(rH:lx n ops ops.toList=some l)(ht:yP l (hZ ops)=true)
 (hp:SR (hZ ops)=true) (h:lg P (D2 (hZ ops) (s.nx+l.length) Q) (BQ (hZ ops) l s Q) (hZ ops) l s.nx s []):jG P n b rd (.region id ops true) Q' s:=by
 intro M cQ H0 w0 cx φ a w ro k hs
 obtain⟨cp,hl,bn,kg⟩:=uN l _ _ _ h
 have hlen:l.length=ops.size:=by rw[np _ _ rH];simp
 have tK:∀k,k<ops.size->(hZ ops).getD k []=bM ops k:=by
  intro k hk;simp[hZ,List.getD_eq_getElem?_getD,List.getElem?_map,List.getElem?_range hk]
 have Dl:(hZ ops).length=ops.size:=by simp[hZ]
 have nT:=xK l cp s hl
 have Gp:∀k,k<ops.size->l[k]? =some (cc l k):=fun k hk=>by simp[cc,List.getD_eq_getElem?_getD,List.getElem?_eq_getElem (by omega:k<l.length)]
 have uf:∀k,k<ops.size->cp[k]? =some (cp.getD k default):=fun k hk=>by simp[List.getD_eq_getElem?_getD,List.getElem?_eq_getElem (by omega:k<cp.length)]
 have rA:∀k,k<ops.size->cp.getD k default∈cp:=fun k hk=>List.mem_of_getElem? (uf k hk)
 have Na:∀k,k<ops.size->(xJ cp)[k]? =some (wI (cp.getD k default),la (cp.getD k default)):=fun k hk=>by
  simp only[xJ,List.getElem?_map,uf k hk,Option.map_some]
 have Td:(xJ cp).length=ops.size:=by simp[xJ,hl,hlen]
 simp only[List.nil_append,List.length_nil,Nat.zero_add]at kg
 have uq:iI (hZ ops) (xJ cp)=true:=by
  rcases kg with⟨_,h⟩|⟨v,wl,_,_,_,h,_⟩
  ·exact h.1
  ·exact h.1
 have Hg:∀k,k<ops.size->∀j∈bM ops k,j<k:=fun k hk j hj=>by
  have:=List.all_eq_true.1 hp k (by simpa[Dl]using hk)
  rw[tK k hk]at this
  simpa using List.all_eq_true.1 this j hj
 have JP:∀k,k<(hZ ops).length->∀j∈(hZ ops).getD k [],j<k:=fun k hk j hj=>by
  rw[Dl]at hk;rw[tK k hk]at hj;exact Hg k hk j hj
 let po:Nat->Nat->Prop:=fun k j=>((eD (hZ ops) []).getD k 0).testBit j=true
 have Ff:∀E:Nat->Bool,(∀k,k<ops.size->E k=true->∀j∈bM ops k,E j=true)->∀k,k<ops.size->(∀j∈bM ops k,E j=true)->∀j,po k j->E j=true:=fun E hE k hk hj j hb=>
  pK JP (fun k hk fP j hj=>by rw[Dl]at hk;rw[tK k hk]at hj;exact hE k hk fP j hj) k MS (by rw[tK k hk];exact hj) j hb
 have BO:∀k,k<ops.size->∀j,po k j->j<k:=fun k hk j hb=>AW JP k MS j hb
 have zG:∀i j,i<j->j<ops.size-> ¬po j i->Compat (cc l) (fun i=>cp.getD i default) (fun i=>wI (cp.getD i default)) i j:=by
  intro i j hij hj hn
  have Bl:=List.all_eq_true.1 (List.all_eq_true.1 ht j (by simpa[hlen]using hj)) i MT
  have xB:=List.all_eq_true.1 (List.all_eq_true.1 uq j (by simpa[Td]using hj)) i MT
  have hnc:((eD (hZ ops) []).getD j 0).testBit i=false:=by simpa[po]using hn
  rw[hnc,Bool.false_or]at Bl xB
  simp only[Bool.and_eq_true]at Bl xB
  have gi:=Na i ad
  have gj:=Na j hj
  simp only[List.getD_eq_getElem?_getD (l:=xJ cp),gi,gj,Option.getD_some]at xB
  have dj:∀ {xs ys:List Nat},mO xs ys=true->∀x∈xs,x∉ys:=fun h x hx=>by simpa using List.all_eq_true.1 h x hx
  have fo:∀ {x y:cu},rb x y=true->∀d,x.dst=some d->d∉fm y:=fun h d hd=>by simpa[rb,hd]using h
  exact⟨fo Bl.1,fo Bl.2,fun id aB=>⟨dj xB.1.1 id aB,dj xB.1.2 id aB⟩,fun id aB=>dj xB.2 id aB⟩
 have PN:∀i,i<ops.size->PI P (eT (cc l) (fun i=>cp.getD i default) (fun _=>true) s i) (s.nx+i) (cc l i) (cp.getD i default):=fun i hi=>by
  rw[nT i (by omega)];exact bn i _ _ (Gp i hi) (uf i hi)
 have da:∀i,i<ops.size->∀t,(cc l i).dst=some t->(dstsOf l).contains t=true:=fun i hi t ht=>by
  simp only[List.contains_iff_mem,dstsOf,List.mem_filterMap]
  exact⟨cc l i,List.mem_of_getElem? (Gp i hi),ht⟩
 rcases kg with⟨bz,kg⟩|⟨v,wl,q1,q2,q3,q4,q5,q6⟩
 ·refine BN (ac:=fun i=>cp.getD i default) (dl:=dstsOf l) (wl:=(cp.flatMap la)) bD rH Hg hs PN (fun i hi hb=> ?_) Ff BO zG da (fun i hi id aB=> ?_) (fun i v ws tt hi hb=> ?_) (fun _ φ a w iE=> ?_) (fun i v ws tt hi hb=> ?_)
  ·have:=bz _ (rA i hi);rw[hb]at this;cases this
  ·simp only[List.contains_iff_mem,List.mem_flatMap];exact⟨_,rA i hi,aB⟩
  ·have:=bz _ (rA i hi);rw[hb]at this;cases this
  ·rw[nT ops.size (by omega), <- hlen]at iE
   exact⟨.normal,_,φ,hQ _ _ kg.2,iE,trivial⟩
  ·have:=bz _ (rA i hi);rw[hb]at this;cases this
 ·refine BN (ac:=fun i=>cp.getD i default) (dl:=dstsOf l) (wl:=wl) bD rH Hg hs PN (fun i hi hb=> ?_) Ff BO zG da (fun i hi id aB=> ?_) (fun i v' ws tt hi hb=> ?_) (fun bz φ a w iE=> ?_) (fun i v' ws tt hi hb φ a w val iE hd=> ?_)
  ·obtain⟨j,j1,j',e,y,j3,j4⟩:=q3 i SA
   rw[tK i hi,e]at j1
   refine⟨j',j1, ?_⟩
   simp only[List.getD_eq_getElem?_getD,j3,Option.getD_some,j4]
  ·simp only[List.contains_iff_mem];exact q5 _ (rA i hi) id aB
  ·intro id aB
   simp only[List.contains_iff_mem]
   exact(q1 i v' ws tt SA).2 id aB
  ·obtain⟨x,x1,x2⟩:=q2
   obtain⟨i,M3,SU⟩:=List.getElem_of_mem x1
   have hi:i<ops.size:=ad
   have:=bz i hi
   have e:cp.getD i default=x:=by simp[List.getD_eq_getElem?_getD,List.getElem?_eq_getElem M3,SU]
   rw[e,x2]at this;cases this
  ·have e:=(q1 i v' ws tt SA).1
   subst e
   rw[<- hlen]at iE hd
   exact⟨.bR v',_,φ,hQ _ _ q4.2,iE,val,rfl,hd⟩
theorem xL{ops:Array Oper}:∀ (l:List Oper) (l':List cu) (m:Nat),lx n ops l=some l'->lx n ops (l.drop m)=some (l'.drop m)
 |l,l',0,h=>h
 |[],l',m+1,h=>by simp[lx]at h;subst h;simp[lx]
 |o::l,l',m+1,h=>by
  simp only[lx]at h
  split at h
  ·rename_i x xs hx Iy
   injection h with h;subst h
   exact xL l xs m Iy
  ·cases h
theorem JQ{l:List cu}{ac:Nat->fy}{E:Nat->Bool}{s:S}{m:Nat}:∀k,k<=m->eT (cc l) ac E s k=eT (cc (l.take m)) ac E s k:=by
 intro k
 induction k with
 |zero=>intro _;rfl
 |succ k ih=>
  intro hk
  have:cc l k=cc (l.take m) k:=by simp[cc,List.getD_eq_getElem?_getD,List.getElem?_take,(by omega:k<m)]
  simp only[eT,ih (by omega),this]
theorem D3(bD:P.follows .mixedOrders=true){id:Nat}{ops:Array Oper}{l:List cu}{Q Q':fN->S->Prop}{s:S}(hQ:∀e s,Q e s->Q' e s)(rH:lx n ops ops.toList=some l)(ht:yP l (hZ ops)=true)
 (hp:SR (hZ ops)=true) (h:JO P l (hZ ops) Q s):jG P n b rd (.region id ops true) Q' s:=by
 intro M cQ H0 w0 cx φ a w ro k hs
 obtain⟨m,Nc,hto,h⟩:=h
 obtain⟨cp,hl,bn,kg⟩:=uN (l.take m) _ _ _ h
 have hlm:(l.take m).length=m:=by rw[List.length_take];omega
 have hlen:l.length=ops.size:=by rw[np _ _ rH];simp
 have kg:=kg.resolve_right (fun⟨_,_,_,_,_,q4,_,_⟩=>q4)
 obtain⟨bz,kg⟩:=kg
 have S2:cp.length=m:=ad
 have tK:∀k,k<ops.size->(hZ ops).getD k []=bM ops k:=by
  intro k hk;simp[hZ,List.getD_eq_getElem?_getD,List.getElem?_map,List.getElem?_range hk]
 have Dl:(hZ ops).length=ops.size:=by simp[hZ]
 have nT:∀k,k<=m->eT (cc l) (fun i=>cp.getD i default) (fun _=>true) s k=nm (l.take m) cp s k:=fun k hk=>by
  rw[JQ k hk];exact xK (l.take m) cp s hl k ad
 have Gp:∀k,k<m->(l.take m)[k]? =some (cc l k):=fun k hk=>by
  rw[List.getElem?_take,if_pos hk]
  simp[cc,List.getD_eq_getElem?_getD,List.getElem?_eq_getElem (by omega:k<l.length)]
 have uf:∀k,k<m->cp[k]? =some (cp.getD k default):=fun k hk=>by simp[List.getD_eq_getElem?_getD,List.getElem?_eq_getElem (by omega:k<cp.length)]
 have rA:∀k,k<m->cp.getD k default∈cp:=fun k hk=>List.mem_of_getElem? (uf k hk)
 have Na:∀k,k<m->(xJ cp)[k]? =some (wI (cp.getD k default),la (cp.getD k default)):=fun k hk=>by
  simp only[xJ,List.getElem?_map,uf k hk,Option.map_some]
 have Td:(xJ cp).length=m:=by simp[xJ,S2]
 simp only[List.nil_append]at kg
 obtain⟨uq,Nu⟩:=kg
 have Hg:∀k,k<ops.size->∀j∈bM ops k,j<k:=fun k hk j hj=>by
  have:=List.all_eq_true.1 hp k (by simpa[Dl]using hk)
  rw[tK k hk]at this
  simpa using List.all_eq_true.1 this j hj
 have JP:∀k,k<(hZ ops).length->∀j∈(hZ ops).getD k [],j<k:=fun k hk j hj=>by
  rw[Dl]at hk;rw[tK k hk]at hj;exact Hg k hk j hj
 let po:Nat->Nat->Prop:=fun k j=>((eD (hZ ops) []).getD k 0).testBit j=true
 have Ff:∀E:Nat->Bool,(∀k,k<ops.size->E k=true->∀j∈bM ops k,E j=true)->∀k,k<ops.size->(∀j∈bM ops k,E j=true)->∀j,po k j->E j=true:=fun E hE k hk hj j hb=>
  pK JP (fun k hk fP j hj=>by rw[Dl]at hk;rw[tK k hk]at hj;exact hE k hk fP j hj) k MS (by rw[tK k hk];exact hj) j hb
 have BO:∀k,k<ops.size->∀j,po k j->j<k:=fun k hk j hb=>AW JP k MS j hb
 have zG:∀i j,i<j->j<m-> ¬po j i->Compat (cc l) (fun i=>cp.getD i default) (fun i=>wI (cp.getD i default)) i j:=by
  intro i j hij hj hn
  have Bl:=List.all_eq_true.1 (List.all_eq_true.1 ht j AS) i MT
  have xB:=List.all_eq_true.1 (List.all_eq_true.1 uq j (by simpa[Td]using hj)) i MT
  have hnc:((eD (hZ ops) []).getD j 0).testBit i=false:=by simpa[po]using hn
  rw[hnc,Bool.false_or]at Bl xB
  simp only[Bool.and_eq_true]at Bl xB
  have gi:=Na i ad
  have gj:=Na j hj
  simp only[List.getD_eq_getElem?_getD (l:=xJ cp),gi,gj,Option.getD_some]at xB
  have dj:∀ {xs ys:List Nat},mO xs ys=true->∀x∈xs,x∉ys:=fun h x hx=>by simpa using List.all_eq_true.1 h x hx
  have fo:∀ {x y:cu},rb x y=true->∀d,x.dst=some d->d∉fm y:=fun h d hd=>by simpa[rb,hd]using h
  exact⟨fo Bl.1,fo Bl.2,fun id aB=>⟨dj xB.1.1 id aB,dj xB.1.2 id aB⟩,fun id aB=>dj xB.2 id aB⟩
 have htl:∀k,m<=k->k<ops.size->∀j,j<k->po k j:=fun k hmk hk j hj=>by
  have:=List.all_eq_true.1 hto k (by simpa[Dl]using hk)
  simp only[Bool.or_eq_true]at this
  rcases this with this|this
  ·exact absurd (Nat.blt_eq.mp this) ad
  ·show((eD (hZ ops) []).getD k 0).testBit j=true
   rw[Nat.eq_of_beq_eq_true this,Nat.testBit_two_pow_sub_one]
   exact decide_eq_true hj
 refine D1 (ac:=fun i=>cp.getD i default) (m:=m) (X:=fun v s=>Q' (.bR v) s) (K:=Q' .normal) bD rH Hg ad hs (fun i hi=> ?_) (fun i hi=>bz _ (rA i hi)) Ff BO zG htl ?_ (fun s φ a w hk iE=>⟨.normal,s,φ,hk,iE,trivial⟩) (fun v s' aO a' w' val hx iE hd=>⟨.bR v,s',aO,hx,iE,val,rfl,hd⟩)
 ·rw[nT i (by omega)];exact bn i _ _ (Gp i hi) (uf i hi)
 ·rw[nT m (Nat.le_refl _)]
  rw[hlm]at Nu
  exact jQ (fun s hs=>hQ _ _ hs) (fun v s hs=>hQ _ _ hs) _ _ _ (xL _ _ m rH) Nu
theorem rI{g:V}{ps:List Nat}{x y:IC}{Q Q':fN->S->Prop}{s:S}(hQ:∀e s,Q e s->Q' e s)(h:Bz P n g ps x y Q s):Bz P n g ps x y Q' s:=by
 obtain⟨env,h1,h2⟩:=h
 refine⟨env,h1, ?_⟩
 split at h2
 ·refine m9.mono (fun v o n h=> ?_) (fun v o n h=>hQ _ _ h) h2
  obtain⟨nf,m,e,p,c,d,st,pd,k1,k2,k3⟩:=h
  refine⟨nf,m,e,p,c,d,st,pd,k1,k2, ?_⟩
  cases pd with
  |none=>exact hQ _ _ k3
  |some j=>cases j<;>exact hQ _ _ k3
 ·exact h2
theorem iT(bD:P.follows .mixedOrders=true):∀ (c:Code) (Q Q':fN->S->Prop) (s:S),(∀e s,Q e s->Q' e s)->tO P n b rd (low n c) Q s->jG P n b rd c Q' s:=by
 intro c
 induction c with
 |skip=>exact fun Q Q' s hQ h=>hQ _ _ h
 |scope x ih=>exact fun Q Q' s hQ h=>ih Q Q' s hQ h
 |label l=>exact fun Q Q' s hQ h=>hQ _ _ h
 |exit id=>exact fun Q Q' s hQ h=>hQ _ _ h
 |ret=>exact fun Q Q' s hQ h=>hQ _ _ h
 |goto l=>exact fun Q Q' s hQ h=>h.elim
 |refuse y=>exact fun Q Q' s hQ h=>h.elim
 |rangeFunc f p x y=>
  intro Q Q' s hQ h
  obtain⟨h1,s',hle,h2⟩:=h
  exact⟨h1,s',hle,rI hQ h2⟩
 |region id ops draw=>
  intro Q Q' s hQ h
  cases draw with
  |true=>
   simp only[low]at h
   split at h
   ·rename_i l hl
    split at h
    ·rename_i hc
     simp only[Bool.and_eq_true]at hc
     rcases h with h|h
     ·exact Hf bD hQ hl hc.1 hc.2 h
     ·exact D3 bD hQ hl hc.1 hc.2 h
    ·exact h.elim
   ·exact h.elim
  |false=>
   simp only[low]at h
   split at h
   ·rename_i l hl;exact jQ (fun s hs=>hQ _ _ hs) (fun v s hs=>hQ _ _ hs) _ l s hl h
   ·exact h.elim
 |seq x y Nl Nn=>
  intro Q Q' s hQ h
  refine Nl _ _ s (fun e s he=> ?_) h
  cases e<;>first|exact Nn Q Q' s hQ he|exact hQ _ _ he
 |cond c x y Nl Nn=>
  intro Q Q' s hQ h
  simp only[low,tO]at h
  simp only[jG]
  split at h
  ·rename_i t hc
   simp only[hc]
   exact⟨fun ht=>Nl Q Q' s hQ (h.1 ht),fun ht=>Nn Q Q' s hQ (h.2 ht)⟩
  ·rename_i hc
   simp only[hc]
   exact⟨Nl Q Q' s hQ h.1,Nn Q Q' s hQ h.2⟩
  ·exact h.elim
 |block id x ih=>
  intro Q Q' s hQ h
  refine ih _ _ s (fun e s he=> ?_) h
  cases e<;>simp only[fO]at he|- <;>first
   |exact hQ _ _ he
   |(split at he<;>rename_i e
     ·rw[if_pos e];exact hQ _ _ he
     ·rw[if_neg e];exact hQ _ _ he)
 |loop x ih=>
  intro Q Q' s hQ h
  obtain⟨J,h0,hr⟩:=h
  refine⟨J,h0,fun m s0 hJ=>ih _ _ s0 (fun e s he=> ?_) (hr m s0 hJ)⟩
  cases e<;>first|exact hQ _ _ he|exact he
structure aF (P:Program) (f:FuncId) (n:Nat) (ic:IC) (rs:List ResultVar):Prop where
 get:∃fn,P.funcs[f]? =some fn/\(fn.name== "runtime.NumGoroutine")=false/\fn.ntmps=n/\fn.results.toList=rs/\∃c,fn.body=some c/\low n c=ic
theorem cK.uP (bD:P.follows .mixedOrders=true){f:FuncId}{ic:IC}{rs:List ResultVar}(hf:aF P f n ic rs){args:List V}{o:Nat->ab}{nx:Nat}{K X:V->(Nat->ab)->Nat->Prop}(hl:args.length<=n)(h:tO P n nx false ic (me P rs K X) ⟨cB args,o,nx⟩):cK P f args o nx K X:=by
 obtain⟨fn,h1,h2,rfl,rfl,c,h3,rfl⟩:=hf.get
 exact cK.E8 h1 h2 h3 hl (iT bD c _ _ _ (fun _ _ h=>h) h)
theorem a7.uP (bD:P.follows .mixedOrders=true){f:FuncId}{ic:IC}{rs:List ResultVar}(hf:aF P f n ic rs){ds:List D}{out:R}(hl:ds.length<=n)(h:tO P n 0 false ic (DG P rs out) ⟨cB (ds.map .d),fun _=> .no,0⟩):a7 P f ds out:=by
 obtain⟨fn,h1,h2,rfl,rfl,c,h3,rfl⟩:=hf.get
 exact a7.mf (cK.E8 h1 h2 h3 (by simpa using hl) (iT bD c _ _ _ (fun e s h=>G4 e s h) h))
end
end Go.Proofs.YtonbelhklnmjnaaGreat
namespace Go.Proofs.YtonbelhklnmjnaaGreat
abbrev Fix(α:Type){β:Type}(_:β):Type:=α
def kR(K:V->List (Nat×ab)->Prop)(x:Fix (Option gB) K):Prop:=match x with|some (v,Δ,_)=>K v Δ|none=>False
@[go_sem] theorem D4 {v:V} {Δ:List (Nat×ab)} {rd:List Nat} {K}:kR K (some (v,Δ,rd))=K v Δ:=propext Iff.rfl
@[go_sem] theorem Te {K}:kR K none=False:=propext Iff.rfl
def V.zH (c:Bool)(v:V):V:=if c=true then v else .ck []
@[go_sem] theorem Yf (b:Bool):(!!b)=b:=aj
attribute [go_sem] true_or or_true false_or ne_eq not_false_eq_true decide_true decide_false Bool.not_true Bool.not_false Bool.and_true Bool.true_and Bool.and_false Bool.false_and Bool.or_true Bool.true_or Bool.or_false Bool.false_or beq_self_eq_true Bool.true_eq_false Bool.false_eq_true not_true_eq_false and_true true_and and_false false_and eq_self
@[go_sem] theorem V.Yg (v:V):V.zH true v=v:=rfl
@[go_sem] theorem V.WG (v:V):V.zH false v= .ck []:=rfl
def mz(c:Bool)(p:Prop):Prop:=c=true->p
@[congr] theorem PO {c c':Bool} {p p':Prop} (h:c=c') (h2:c'=true->p=p'):mz c p=mz c' p':=by
  subst h;cases c
  ·simp[mz]
  ·simp[mz,h2 rfl]
@[go_sem] theorem Tf (p:Prop):mz true p=p:=by simp[mz]
@[go_sem] theorem PQ (p:Prop):mz false p=True:=by simp[mz]
@[go_sem] theorem Tg (a:Bool):mz a True=True:=by simp[mz]
def mA(v:V)(want:Bool):Option Bool:=
 match v with
 | .d (.bool b)=>some (b==want)
 | .ck []=>some false
 |_=>none
@[go_sem] theorem Th (b:Bool):mA (.d (.bool b)) true=some b:=by simp[mA]
@[go_sem] theorem PR (b:Bool):mA (.d (.bool b)) false=some (!b):=by simp[mA]
@[go_sem] theorem Yh (want:Bool):mA (.ck []) want=some false:=rfl
@[go_sem] theorem WH (c b want:Bool):mA (V.zH c (.d (.bool b))) want=some (c&&(b==want)):=by cases c<;>simp[mA,V.zH]
@[go_sem] theorem Ti (c b e want:Bool):mA (V.zH c (V.zH e (.d (.bool b)))) want=some (c&&e&&(b==want)):=by cases c<;>cases e<;>simp[mA,V.zH]
def lh(c:Bool)(x:Option gB):Option gB:=
 if c=true then(match x with|some (v,[],_)=>some (v,[],[])|_=>none)else some (.ck [],[],[])
@[congr] theorem Nv {c c':Bool} {x x':Option gB} (h:c=c') (h2:c'=true->x=x'):lh c x=lh c' x':=by
  subst h;cases c
  ·rfl
  ·simp[lh,h2 rfl]
def WI(v:V)(rd:List Nat):Option gB:=some (v,[],rd)
@[go_sem] theorem abG (v:V) (rd:List Nat):(some (v,[],rd):Option gB)=WI v rd:=by unfold WI;exact Eq.trans rfl rfl
@[go_sem] theorem Tj (c:Bool) (v:V) (rd:List Nat):lh c (WI v rd)=WI (V.zH c v) []:=MU
@[go_sem] theorem WJ {v:V} {rd:List Nat} {K}:kR K (WI v rd)=K v []:=propext Iff.rfl
@[go_sem] theorem PS (c:Bool) (v:V) (rd:List Nat):lh c (some (v,[],rd))=some (V.zH c v,[],[]):=MU
@[go_sem] theorem Nw (x:Option gB):lh false x=some (.ck [],[],[]):=rfl
@[go_sem] theorem Yi (b x:Bool):qh (.d (.bool b)) (V.zH b (.d (.bool x))) (.d (.bool false))=some (.d (.bool (b&&x))):=IY
@[go_sem] theorem aa5 (b x:Bool):qh (.d (.bool b)) (.d (.bool true)) (V.zH (!b) (.d (.bool x)))=some (.d (.bool (b||x))):=IY
@[go_sem] theorem Yj (b x:Bool):qh (.d (.bool (!b))) (.d (.bool true)) (V.zH b (.d (.bool x)))=some (.d (.bool (!b||x))):=IY
@[go_sem] theorem WK (x y:V):qh (.d (.bool true)) x y=some x:=rfl
@[go_sem] theorem Tk (x y:V):qh (.d (.bool false)) x y=some y:=rfl
@[reducible] def lj:Op->Bool
  | .move _| .assign _| .pick .. | .load .. | .binOp .. | .unOp .. | .nilCheck _| .convert .. | .makeInterface .. | .makeFunc .. | .fieldAddr .. | .indexAddr .. | .extract .. | .build .. | .index .. | .field .. | .lookup .. =>true
  | .call c=>match c.callee with
    | .builtin .len=>true
    | .builtin .min=>true
    | .builtin .max=>true
    |_=>false
  |_=>false
def BT(P:Program)(f:V)(args:List V)(o:Nat->ab)(rs:List D):Prop:=
 match f with
 | .func (.func g) first cap=>match cn o (first++args++cap)with
   |some ds=>a7 P g ds (.ret rs)/\D.j9 rs=true
   |none=>False
 |_=>False
def Fh(P:Program)(f:V)(args:List V)(o:Nat->ab)(K:V->Prop)(c:Fix Bool (f,args,o,K)):Prop:=
 ∃rs,mz c (BT P f args o rs)/\K (V.zH c (jJ rs))
def BU(P:Program)(g:FuncId)(nx:Nat)(K X:V->(Nat->ab)->Nat->Prop)(args:Fix (List V) (K,X))(o:Fix (Nat->ab) (K,X)):Prop:=sE P g args o nx K X
def sL(P:Program)(g:FuncId)(o:Nat->ab)(nx:Nat)(K X:V->(Nat->ab)->Nat->Prop)(ds:Fix (List D) (o,nx,K,X))(all:Fix (List V) (o,nx,K,X)):Prop:=
 uH P g ds o (put o (dk o (V.bF all))) (put o (ri o (V.bF all))) (fun v o'=>K v o' (nx+1)) (fun v o'=>X v o' (nx+1))\/sE P g all o nx K X
def nq(P:Program)(g:FuncId)(K X:V->(Nat->ab)->Nat->Prop)(s:S)(all:List V)(ds:Fix (Option (List D)) (K,X,s,all)):Prop:=
 match ds with
 |some ds=>sL P g s.o s.nx K X ds all
 |none=>BU P g s.nx K X all s.o
@[go_sem] theorem PT {P:Program} {s:S} {ds:List D} {g:FuncId} {all:List V} {K X}:
 nq P g K X s all (some ds)=sL P g s.o s.nx K X ds all:=propext Iff.rfl
def xM(P:Program)(id:Nat)(K X:V->(Nat->ab)->Nat->Prop)(s:S)(args:Fix (List V) (K,X,s)):Prop:=dU P id args s.o s.nx K X
@[go_sem] theorem PU {P:Program} {s:S} {g:FuncId} {all:List V} {K X}:nq P g K X s all none=BU P g s.nx K X all s.o:=propext Iff.rfl
def sM(P:Program)(K X:V->(Nat->ab)->Nat->Prop)(s:S)(f:Fix V (K,X,s))(args:Fix (List V) (K,X,s)):Prop:=
 match f with
 | .func (.func g) first cap=>nq P g K X s (first++args++cap) (cn s.o (first++args++cap))
 | .jO id=>xM P id K X s args
 |_=>False
@[go_sem] theorem WL {P:Program} {s:S} {id:Nat} {args:List V} {K X}:sM P K X s (.jO id) args=xM P id K X s args:=propext Iff.rfl
@[go_sem] theorem Tl {P:Program} {s:S} {g:FuncId} {first cap args:List V} {K X}:sM P K X s (.func (.func g) first cap) args=nq P g K X s (first++args++cap) (cn s.o (first++args++cap)):=propext Iff.rfl
def JR(P:Program)(g:FuncId)(o:Nat->ab)(nx:Nat)(K X:V->(Nat->ab)->Nat->Prop)(ds:Fix (List D) (o,nx,K,X))(all:Fix (List V) (o,nx,K,X)):Prop:=
 uH P g ds o (put o (dk o (V.bF all))) (put o (ri o (V.bF all))) (fun v o'=>K v o' (nx+1)) (fun v o'=>X v o' (nx+1))
def BV(P:Program)(g:FuncId)(K X:V->(Nat->ab)->Nat->Prop)(s:S)(all:List V)(ds:Fix (Option (List D)) (K,X,s,all)):Prop:=
 match ds with
 |some ds=>JR P g s.o s.nx K X ds all
 |none=>False
@[go_sem] theorem Tn {P:Program} {s:S} {ds:List D} {g:FuncId} {all:List V} {K X}:BV P g K X s all (some ds)=JR P g s.o s.nx K X ds all:=propext Iff.rfl
def JS(P:Program)(K X:V->(Nat->ab)->Nat->Prop)(s:S)(args:Fix (List V) (K,X,s))(r:Fix (Option (FuncId×V)) (K,X,s)):Prop:=
 match r with
 |some (g,y)=>BV P g K X s (y::args) (cn s.o (y::args))
 |none=>False
@[go_sem] theorem WM {P:Program} {s:S} {g:FuncId} {y:V} {args:List V} {K X}:JS P K X s args (some (g,y))=BV P g K X s (y::args) (cn s.o (y::args)):=propext Iff.rfl
def Hh(K:V->Prop)(v:Fix V K):Prop:=
 match v with
 | .d (.iface t y)=>K (.d (.iface t y))
 | .iface t y=>K (.iface t y)
 |_=>False
@[go_sem] theorem abH {t:TypeId} {y:D} {K}:Hh K (.d (.iface t y))=K (.d (.iface t y)):=propext Iff.rfl
@[go_sem] theorem abI {t:TypeId} {y:V} {K}:Hh K (.iface t y)=K (.iface t y):=propext Iff.rfl
def BW(K:V->List (Nat×ab)->Prop)(id:Nat)(l:Fix (List (D×D)) (K,id)):Prop:=EU id l fun v Δ _=>K v Δ
def JT(K:V->List (Nat×ab)->Prop)(str:Bool)(WN:Fix (Option gB) (K,str))(left:Fix (Option (Nat×List (D×D))) (K,str)):Prop:=
 match left with
 |some (id,l)=>str=false/\BW K id l
 |none=>kR K WN
@[go_sem] theorem WO {K} {WN:Option gB} {id:Nat} {l:List (D×D)}:JT K false WN (some (id,l))=BW K id l:=propext ⟨fun h=>h.2,fun h=>⟨rfl,h⟩⟩
@[go_sem] theorem WQ {K} {str:Bool} {WN:Option gB}:JT K str WN none=kR K WN:=propext Iff.rfl
def BX(P:Program)(X:V->S->Prop)(K:S->Prop)(o:cu)(s:Fix S (X,K,o)):Prop:=
 match o.op with
 | .next x str=>JT (fun v Δ=>K ⟨bu s.env o.dst v,put s.o Δ,s.nx+1⟩) str (oz s.o (s.ev x) str) (oA s.o (s.ev x))
 | .call c=>match c.callee with
   | .value f=>sM P (fun v o' nx'=>K ⟨bu s.env o.dst v,o',nx'⟩) (fun v o' nx'=>X v ⟨s.env,o',nx'⟩) s (s.ev f) (c.args.toList.map s.ev)
   | .invoke r m=>JS P (fun v o' nx'=>K ⟨bu s.env o.dst v,o',nx'⟩) (fun v o' nx'=>X v ⟨s.env,o',nx'⟩) s (c.args.toList.map s.ev) (uA P m (s.ev r))
   |_=>kR (fun v Δ=>K ⟨bu s.env o.dst v,put s.o Δ,s.nx+1⟩) (gD P s s.nx o.op)
 | .panic x=>Hh (fun v=>X v s) (s.ev x)
 |op=>kR (fun v Δ=>K ⟨bu s.env o.dst v,put s.o Δ,s.nx+1⟩) (gD P s s.nx op)
@[reducible] def gw:Op->Option (Operand×List Operand)
  | .call c=>match c.callee with
    | .value f=>some (f,c.args.toList)
    |_=>none
  |_=>none
def jo(A B:Prop)(t:Fix Bool (A,B)):Prop:=qn t A B
@[go_sem] theorem To (A B:Prop):jo A B true=A:=uI A B
@[go_sem] theorem PV (A B:Prop):jo A B false=B:=sF A B
def D5(P:Program)(X:V->S->Prop)(K:S->Prop)(o:cu)(s:S)(f:Operand)(args:List Operand)(c:Fix Bool (X,K,o,s,f,args)):Prop:=
 Fh P (s.ev f) (args.map s.ev) s.o (fun v=>K ⟨bu s.env o.dst v,s.o,s.nx+1⟩) c\/jo (BX P X K o s) (K ⟨bu s.env o.dst (.ck []),s.o,s.nx+1⟩) c
def zI(P:Program)(X:V->S->Prop)(K:S->Prop)(o:cu)(s:S)(c:Fix (Option Bool) (X,K,o,s)):Prop:=
 match c with
 |none=>False
 |some c=>match gw o.op with
  |some (f,args)=>D5 P X K o s f args c
  |none=>if lj o.op=true then kR (fun v _=>K ⟨bu s.env o.dst v,s.o,s.nx+1⟩) (lh c (gD P s s.nx o.op))
   else jo (BX P X K o s) (K ⟨bu s.env o.dst (.ck []),s.o,s.nx+1⟩) c
def tx(P:Program)(X:V->S->Prop)(K:S->Prop)(l:List cu)(s:Fix S (X,K,l)):Prop:=
 match l with
 |[]=>K s
 |o::l=>match o.gd with
  |none=>BX P X (tx P X K l) o s
  |some (d,want)=>zI P X (tx P X K l) o s (mA (s.env d) want)
def ki(want:Bool)(A B:Prop)(v:Fix V (A,B)):Prop:=
 match v with
 | .d (.bool b)=>qn (b==want) A B
 | .ck []=>B
 |_=>False
@[go_sem] theorem PW (b:Bool) (A B:Prop):ki true A B (.d (.bool b))=jo A B b:=by simp[ki,jo]
@[go_sem] theorem Nx (b:Bool) (A B:Prop):ki false A B (.d (.bool b))=jo A B (!b):=by simp[ki,jo]
@[go_sem] theorem WR (want:Bool) (A B:Prop):ki want A B (.ck [])=B:=propext Iff.rfl
@[go_sem] theorem Tp (c b want:Bool) (A B:Prop):ki want A B (V.zH c (.d (.bool b)))=jo A B (c&&(b==want)):=by cases c<;>simp[ki,V.zH,jo]
abbrev KD:=V->List (Nat×ab)->List Nat->Prop
abbrev XD:=V->List Nat->List Nat->Prop
def JU(P:Program)(g:FuncId)(K:KD)(X:XD)(o:Nat->ab)(rd:List Nat)(ds:Fix (List D) (K,X,o,rd))(all:Fix (List V) (K,X,o,rd)):Prop:=
 sK P g ds (fun v=>K v (dk o (V.bF all)) rd) (fun v=>K v [] rd) (fun v=>X v [] rd)
def rJ(P:Program)(g:FuncId)(K:KD)(X:XD)(o:Nat->ab)(nx fr:Nat)(all:Fix (List V) (K,X,o,nx)):Prop:=jz P g all o nx fr K X
def nr(P:Program)(g:FuncId)(K:KD)(X:XD)(o:Nat->ab)(nx fr:Nat)(rd:List Nat)(ds:Fix (List D) (K,X,o,nx,rd))(all:Fix (List V) (K,X,o,nx,rd)):Prop:=JU P g K X o rd ds all\/rJ P g K X o nx fr all
def rK(P:Program)(K:KD)(X:XD)(o:Nat->ab)(nx fr:Nat)(rd:List Nat)(g:FuncId)(all:List V)(ds:Fix (Option (List D)) (K,X,o,nx,rd,all)):Prop:=
 match ds with
 |some ds=>nr P g K X o nx fr rd ds all
 |none=>rJ P g K X o nx fr all
@[go_sem] theorem PX {P:Program} {o:Nat->ab} {nx fr:Nat} {rd:List Nat} {ds:List D} {g:FuncId} {all:List V} {K X}:rK P K X o nx fr rd g all (some ds)=nr P g K X o nx fr rd ds all:=propext Iff.rfl
@[go_sem] theorem PY {P:Program} {o:Nat->ab} {nx fr:Nat} {rd:List Nat} {g:FuncId} {all:List V} {K X}:rK P K X o nx fr rd g all none=rJ P g K X o nx fr all:=propext Iff.rfl
def BZ(P:Program)(K:KD)(X:XD)(o:Nat->ab)(nx fr:Nat)(rd:Fix (List Nat) (K,X,o,nx))(f:Fix V (K,X,o,nx))(args:Fix (List V) (K,X,o,nx)):Prop:=
 match f with
 | .func (.func g) first cap=>rK P K X o nx fr rd g (first++args++cap) (cn o (first++args++cap))
 |_=>False
@[go_sem] theorem Tq {P:Program} {o:Nat->ab} {nx fr:Nat} {rd:List Nat} {g:FuncId} {first cap args:List V} {K X}:BZ P K X o nx fr rd (.func (.func g) first cap) args=rK P K X o nx fr rd g (first++args++cap) (cn o (first++args++cap)):=propext Iff.rfl
def uQ(K:KD)(rd:List Nat)(x:Fix (Option gB) (K,rd)):Prop:=match x with|some (v,Δ,_)=>K v Δ rd|none=>False
@[go_sem] theorem Ts {v:V} {Δ:List (Nat×ab)} {r rd:List Nat} {K}:uQ K rd (some (v,Δ,r))=K v Δ rd:=propext Iff.rfl
@[go_sem] theorem WS {v:V} {r rd:List Nat} {K}:uQ K rd (WI v r)=K v [] rd:=propext Iff.rfl
def Mq(P:Program)(K:KD)(X:XD)(fr:Nat)(o:cu)(s:Fix S (K,X,o)):Prop:=
 match gw o.op with
 |some (f,args)=>BZ P K X s.o s.nx fr (pC s o.op) (s.ev f) (args.map s.ev)
 |none=>uQ K (pC s o.op) (gD P s fr o.op)
def B0(P:Program)(KB:List Nat->Fp->Prop)(pr:List (List Nat))(l:List cu)(fr:Nat)(fp:Fix Fp (KB,l))(bad ws:Fix (List Nat) (KB,l))(s:Fix S (KB,l)):Prop:=iS P KB pr l fr s fp bad ws
def qo(P:Program)(K:S->Fp->Prop)(KP:V->List Nat->Fp->Prop)(pr:List (List Nat))(l:List cu)(fr:Nat)(s:Fix S (K,KP,l))(fp:Fix Fp (K,KP,l)):Prop:=
 match l with
 |[]=>K s fp
 |o::l=>match o.gd with
  |none=>Mq P (fun v Δ rd=>qo P K KP pr l (fr+1) ⟨bu s.env o.dst v,put s.o Δ,s.nx⟩ (fp++[(rd,Δ.map (·.1))]))
   (fun v ws rd=>B0 P (KP v) pr l (fr+1) (fp++[(rd,[])]) [fp.length] (ws++fp.flatMap (·.2)) ⟨bu s.env o.dst .aa,s.o,s.nx⟩) fr o s
  |some (d,want)=>ki want (Mq P (fun v Δ rd=>qo P K KP pr l (fr+1) ⟨bu s.env o.dst v,put s.o Δ,s.nx⟩ (fp++[(rd,Δ.map (·.1))]))
   (fun v ws rd=>B0 P (KP v) pr l (fr+1) (fp++[(rd,[])]) [fp.length] (ws++fp.flatMap (·.2)) ⟨bu s.env o.dst .aa,s.o,s.nx⟩) fr o s)
   (qo P K KP pr l (fr+1) ⟨bu s.env o.dst (.ck []),s.o,s.nx⟩ (fp++[([],[])])) (s.env d)
def Ny(pr:List (List Nat))(nx:Nat)(Q:fN->S->Prop)(s:Fix S Q)(fp:Fix Fp Q):Prop:=D2 pr nx Q s fp
def xN(A B:Prop)(v:Fix V (A,B)):Prop:=
 match v with
 | .d (.bool t)=>jo A B t
 | .eZ=>A/\B
 |_=>False
@[go_sem] theorem WT (A B:Prop):xN A B .eZ=(A/\B):=propext Iff.rfl
@[go_sem] theorem Tt (t:Bool) (A B:Prop):xN A B (.d (.bool t))=jo A B t:=propext Iff.rfl
def Fi{ι:Type}(b:Nat)(st:ι->S)(bN:ι->Prop)(o7:ι->Nat)(i:ι)(s:S):Prop:=∃j,bN j/\o7 j<o7 i/\bL b s (st j)
def uR(next:S->Prop)(Q:fN->S->Prop)(e:fN)(s:S):Prop:=match e with| .normal=>next s|e=>Q e s
section
variable {N:S->Prop}{Q:fN->S->Prop}{s:S}
@[go_sem ↓] theorem Nz:uR N Q .normal s=N s:=propext Iff.rfl
@[go_sem ↓] theorem Tu {id:Nat}:uR N Q (.exit id) s=Q (.exit id) s:=propext Iff.rfl
@[go_sem ↓] theorem WU:uR N Q .ret s=Q .ret s:=propext Iff.rfl
@[go_sem ↓] theorem qX {v:V}:uR N Q (.bR v) s=Q (.bR v) s:=propext Iff.rfl
end
def uS(b:Nat)(body:(fN->S->Prop)->S->Prop)(Q:fN->S->Prop)(s:Fix S (body,Q)):Prop:=
 ∃ (ι:Type) (st:ι->S) (bN:ι->Prop) (o7:ι->Nat) (i0:ι),bN i0/\bL b s (st i0)/\∀i,bN i->body (uR (Fi b st bN o7 i) Q) (st i)
theorem aK{ι:Type}{b:Nat}{body:(fN->S->Prop)->S->Prop}{Q:fN->S->Prop}{s:S}(st:ι->S)(bN:ι->Prop)(o7:ι->Nat)(i0:ι)(h0:bN i0)(hle:bL b s (st i0))
 (h:∀i,bN i->body (uR (Fi b st bN o7 i) Q) (st i)):uS b body Q s:=⟨ι,st,bN,o7,i0,h0,hle,h⟩
def wJ(P:Program)(n b:Nat)(rd:Bool)(gop:Operand)(ps:List Nat)(x y:IC)(Q:fN->S->Prop)(s:Fix S (x,y,Q))(g:Fix V (x,y,Q)):Prop:=rd=false/\(Bz P n g ps x y Q s\/∃s',bL b s s'/\Bz P n (s'.ev gop) ps x y Q s')
def kS(P:Program)(n b:Nat)(rd:Bool)(c:IC)(Q:fN->S->Prop)(s:Fix S (c,Q)):Prop:=
 match c with
 | .skip=>Q .normal s
 | .ag l=>tx P (fun v s=>Q (.bR v) s) (Q .normal) l s
 | .eS l pr=>qo P (Ny pr (s.nx+l.length) Q) (BQ pr l s Q) pr l s.nx s []
 | .seq x y=>kS P n b rd x (qb (fun s=>kS P n b rd y Q s) Q) s
 | .cond c x y=>xN (kS P n b rd x Q s) (kS P n b rd y Q s) (s.ev c)
 | .block id x=>kS P n b rd x (fO id Q) s
 | .loop x=>uS b (fun Q s=>kS P n b rd x Q s) Q s
 | .exit id=>Q (.exit id) s
 | .ret=>Q .ret s
 | .GA g ps x y=>wJ P n b rd g ps x y Q s (s.ev g)
 | .bad=>False
section
variable {P:Program}{n b:Nat}{rd:Bool}
theorem B1{s:S}{f:V}{args:List V}{K K':V->(Nat->ab)->Nat->Prop}{X X':V->(Nat->ab)->Nat->Prop}(hK:∀v o n,K v o n->K' v o n)(hX:∀v o n,X v o n->X' v o n)(h:sM P K X s f args):
 match(generalizing:=false) f with
  | .func (.func g) first cap=>match cn s.o (first++args++cap)with
    |some ds=>uH P g ds s.o (put s.o (dk s.o (V.bF (first++args++cap)))) (put s.o (ri s.o (V.bF (first++args++cap)))) (fun v o'=>K' v o' (s.nx+1)) (fun v o'=>X' v o' (s.nx+1))\/sE P g (first++args++cap) s.o s.nx K' X'
    |none=>sE P g (first++args++cap) s.o s.nx K' X'
  | .jO id=>dU P id args s.o s.nx K' X'
  |_=>False:=by
 unfold sM nq xM at h
 split at h
 ·rename_i g first cap
  cases eX:cn s.o (first++args++cap)with
  |some ds=>
   simp only[eX]at h|-
   rcases h with⟨out,h1,h2|⟨h3,h2⟩|⟨h3,h2⟩⟩|h
   ·exact .inl ⟨out,h1, .inl (by cases out<;>first|exact hK _ _ _ h2|exact hX _ _ _ h2)⟩
   ·exact .inl ⟨out,h1, .inr (.inl ⟨h3,by cases out<;>first|exact hK _ _ _ h2|exact hX _ _ _ h2⟩)⟩
   ·exact .inl ⟨out,h1, .inr (.inr ⟨h3,by cases out<;>first|exact hK _ _ _ h2|exact hX _ _ _ h2⟩)⟩
   ·exact .inr (m9.mono hK hX h)
  |none=>
   simp only[eX]at h|-
   exact m9.mono hK hX h
 ·exact dU.mono hK hX h
 ·exact h.elim
theorem xO{x:Option gB}{K:V->List (Nat×ab)->Prop}(h:kR K x):∃v Δ rd,x=some (v,Δ,rd)/\K v Δ:=by
 unfold kR at h;split at h
 ·exact⟨_,_,_,rfl,h⟩
 ·exact h.elim
theorem zJ{s:S}{o:cu}{X X':V->S->Prop}{K K':S->Prop}(hK:∀s,K s->K' s)(hX:∀v s,X v s->X' v s)(h:BX P X K o s):IB P s o X' K':=by
 unfold BX at h
 unfold IB
 have hs:∀ {op:Op},(kR (fun v Δ=>K ⟨bu s.env o.dst v,put s.o Δ,s.nx+1⟩) (gD P s s.nx op))->(match gD P s s.nx op with|some (v,Δ,_)=>K' ⟨bu s.env o.dst v,put s.o Δ,s.nx+1⟩|none=>False):=by
  intro op h
  obtain⟨v,Δ,rd,he,h⟩:=xO h
  simp only[he];exact hK _ h
 split at h
 ·rename_i x str hx
  rw[hx]
  unfold JT at h
  simp only
  split at h
  ·rename_i id l hl
   simp only[hl]
   exact⟨h.1,fun e=>hK _ (h.2.1 e),fun i k x e=>hK _ (h.2.2 i k x e)⟩
  ·rename_i hl
   simp only[hl]
   exact hs (op:= .next x str) h
 ·rename_i c hc
  simp only[hc]
  split at h
  ·rename_i f hf
   simp only[hf]
   exact B1 (K:=fun v o' nx'=>K ⟨bu s.env o.dst v,o',nx'⟩) (X:=fun v o' nx'=>X v ⟨s.env,o',nx'⟩) (fun v o n h=>hK _ h) (fun v o n h=>hX _ _ h) h
  ·rename_i r m hf
   simp only[hf]
   unfold JS at h
   split at h
   ·rename_i g y hr
    simp only[hr]
    unfold BV at h
    split at h
    ·rename_i ds eX
     obtain⟨out,h1,h2⟩:=h
     refine .inl ⟨ds,eX,out,h1, ?_⟩
     rcases h2 with h2|⟨h3,h2⟩|⟨h3,h2⟩
     ·exact .inl (by cases out<;>first|exact hK _ h2|exact hX _ _ h2)
     ·exact .inr (.inl ⟨h3,by cases out<;>first|exact hK _ h2|exact hX _ _ h2⟩)
     ·exact .inr (.inr ⟨h3,by cases out<;>first|exact hK _ h2|exact hX _ _ h2⟩)
    ·exact h.elim
   ·exact h.elim
  ·rename_i hf hi
   rw[hc]at h
   obtain⟨Jr,args,ts⟩:=c
   cases Jr with
   |value f=>exact absurd rfl (hf f)
   |invoke r m=>exact absurd rfl (hi r m)
   |_=>exact hs h
 ·rename_i x hx
  simp only[hx]
  unfold Hh at h
  split at h
  ·rename_i hv;simp only[hv];exact hX _ _ h
  ·rename_i hv;simp only[hv];exact hX _ _ h
  ·exact h.elim
 ·rename_i tL hc hp
  have h2:=hs h
  cases hh:o.op<;>first
   |exact absurd hh (hc _)
   |exact absurd hh (hp _)
   |exact absurd hh (tL _ _)
   |(rw[hh]at h2;exact h2)
theorem JV{s:S}{o:cu}{X:V->S->Prop}{K:S->Prop}(hp:lj o.op=true){v:V}{Δ:List (Nat×ab)}{rd:List Nat}(he:gD P s s.nx o.op=some (v,Δ,rd))(h:K ⟨bu s.env o.dst v,put s.o Δ,s.nx+1⟩):IB P s o X K:=by
 unfold IB
 split
 ·rename_i c hc
  split
  ·rename_i f hf;rw[hc]at hp;simp[lj,hf]at hp
  ·rename_i r m hf;rw[hc]at hp;simp[lj,hf]at hp
  ·rw[he];exact h
 ·rename_i x hx;rw[hx]at hp;simp[lj]at hp
 ·rename_i x str hx;rw[hx]at hp;simp[lj]at hp
 ·rw[he];exact h
theorem xQ{X X':V->S->Prop}{K K':S->Prop}(hK:∀s,K s->K' s)(hX:∀v s,X v s->X' v s):∀ (l:List cu) (s:S),tx P X K l s->oZ P X' K' l s
 |[],s,h=>hK _ h
 |o::l,s,h=>by
  have ih:=xQ hK hX l
  unfold tx at h
  unfold oZ
  cases hg:o.gd with
  |none=>
   simp only[hg]at h|-
   exact zJ ih hX h
  |some p=>
   obtain⟨d,want⟩:=p
   simp only[hg]at h|-
   unfold zI at h
   split at h
   ·exact h.elim
   ·rename_i c hc
    have hgo:∀ {A B:Prop},(c=true->A)->(c=false->B)->(match s.env d with
     | .d (.bool b)=>if b=want then A else B
     | .ck []=>B
     |_=>False):=by
     intro A B hA hB
     generalize s.env d=v at hc
     unfold mA at hc
     split at hc
     ·rename_i b
      injection hc with hc
      split
      ·rename_i e;exact hA (by rw[<- hc];simp[e])
      ·rename_i e;exact hB (by rw[<- hc];simp[e])
     ·injection hc with hc
      exact hB hc.symm
     ·cases hc
    split at h
    ·rename_i f args ID
     rcases h with h|h
     case inr=>exact hgo (fun PZ=>zJ ih hX (h.1 PZ)) (fun Tv=>ih _ (h.2 Tv))
     obtain⟨rs,h1,h2⟩:=h
     refine hgo (fun PZ=> ?_) (fun Tv=> ?_)
     ·unfold gw at ID
      split at ID
      ·rename_i c' zi
       split at ID
       ·rename_i f' gX
        injection ID with ID;injection ID with e1 e2;subst e1;subst e2
        have cm:=h1 PZ
        unfold IB
        simp only[zi,gX]
        unfold BT at cm
        split at cm
        ·rename_i g first cap wx
         simp only[wx]
         split at cm
         ·rename_i ds eX
          simp only[eX]
          refine .inl ⟨.ret rs,cm.1, .inr (.inl ⟨cm.2, ?_⟩)⟩
          refine ih _ ?_
          rw[PZ]at h2
          exact h2
         ·exact cm.elim
        ·exact cm.elim
       ·cases ID
      ·cases ID
     ·refine ih _ ?_
      rw[Tv]at h2
      exact h2
    ·split at h
     ·rename_i hp
      obtain⟨v,Δ,rd,he,h⟩:=xO h
      refine hgo (fun PZ=> ?_) (fun Tv=> ?_)
      ·rw[PZ]at he
       simp only[lh,if_true]at he
       split at he
       ·rename_i v' tt ou
        injection he with he;injection he with e1 e2;subst e1
        exact JV hp ou (ih _ h)
       ·cases he
      ·rw[Tv]at he
       simp only[lh]at he
       injection he with he;injection he with e1 e2;subst e1
       exact ih _ h
     ·exact hgo (fun PZ=>zJ ih hX (h.1 PZ)) (fun Tv=>ih _ (h.2 Tv))
theorem zK{op:Op}{f:Operand}{args:List Operand}(h:gw op=some (f,args)):∃c,op= .call c/\c.callee= .value f/\c.args.toList=args:=by
 unfold gw at h
 split at h
 ·rename_i c
  split at h
  ·rename_i f' gX
   injection h with h;injection h with e1 e2;subst e1;subst e2
   exact⟨c,rfl,gX,rfl⟩
  ·cases h
 ·cases h
theorem Hi{x:Option gB}{rd:List Nat}{K:KD}(h:uQ K rd x):∃v Δ r,x=some (v,Δ,r)/\K v Δ rd:=by
 unfold uQ at h;split at h
 ·exact⟨_,_,_,rfl,h⟩
 ·exact h.elim
theorem jz.mono {P:Program}{g:FuncId}{args:List V}{o:Nat->ab}{nx fr:Nat}{K K':KD}{X X':XD}(hK:∀v Δ r,K v Δ r->K' v Δ r)(hX:∀v w r,X v w r->X' v w r)(h:jz P g args o nx fr K X):jz P g args o nx fr K' X':=by
 obtain⟨rd,Δ,h1,⟨rs,h2,h3⟩|⟨x,h2,h3⟩|⟨v,h2,h3⟩⟩:=h
 ·exact⟨rd,Δ,h1, .inl ⟨rs,h2,hK _ _ _ h3⟩⟩
 ·exact⟨rd,Δ,h1, .inr (.inl ⟨x,h2,hX _ _ _ h3⟩)⟩
 ·exact⟨rd,Δ,h1, .inr (.inr ⟨v,h2,hK _ _ _ h3⟩)⟩
theorem sK.mono {P:Program}{g:FuncId}{ds:List D}{Kf Kb KX Kf' Kb' KX':V->Prop}(h1:∀v,Kf v->Kf' v)(h2:∀v,Kb v->Kb' v)(h3:∀v,KX v->KX' v)(h:sK P g ds Kf Kb KX):sK P g ds Kf' Kb' KX':=by
 rcases h with⟨rs,a,b|⟨b,c⟩⟩|⟨x,a,b,c⟩|⟨v,a,b⟩
 ·exact .inl ⟨rs,a, .inl (h1 _ b)⟩
 ·exact .inl ⟨rs,a, .inr ⟨b,h2 _ c⟩⟩
 ·exact .inr (.inl ⟨x,a,b,h3 _ c⟩)
 ·exact .inr (.inr ⟨v,a,h1 _ b⟩)
theorem Fj{s:S}{fr:Nat}{o:cu}{K K':KD}{X X':XD}(hK:∀v Δ r,K v Δ r->K' v Δ r)(hX:∀v w r,X v w r->X' v w r)(h:Mq P K X fr o s):AK P s fr o K' X':=by
 unfold Mq at h
 split at h
 ·rename_i f args ID
  obtain⟨c,h1,h2,h3⟩:=zK ID
  subst h3
  unfold AK
  simp only[h1,h2]
  unfold BZ rK at h
  split at h
  ·rename_i g first cap hf
   simp only[hf]
   split at h
   ·rename_i ds eX
    simp only[eX]
    refine h.elim (fun h=> .inl ?_) (fun h=> .inr (jz.mono hK hX h))
    refine sK.mono (fun v h=> ?_) (fun v h=> ?_) (fun v h=> ?_) h<;>(rw[h1]at h)
    ·exact hK _ _ _ h
    ·exact hK _ _ _ h
    ·exact hX _ _ _ h
   ·rename_i eX
    simp only[eX]
    exact jz.mono hK hX h
  ·exact h.elim
 ·rename_i ID
  obtain⟨v,Δ,rd,he,h⟩:=Hi h
  unfold AK
  split
  ·rename_i c hc
   split
   ·rename_i f hf
    exact absurd ID (by simp[gw,hc,hf])
   ·simp only[he];exact hK _ _ _ h
  ·simp only[he];exact hK _ _ _ h
theorem B3{s:S}{fr:Nat}{o:cu}{K K':KD}{X X':XD}(hK:∀v Δ r,K v Δ r->K' v Δ r)(hX:∀v w r,X v w r->X' v w r)(h:AK P s fr o K X):AK P s fr o K' X':=by
 unfold AK at h|-
 split at h
 ·rename_i c hc
  rw[hc]at h|-
  split at h
  ·rename_i f hf
   (try simp only[hf])
   split at h
   ·rename_i wx
    (try simp only[wx])
    split at h
    ·exact h.elim (fun h=> .inl (sK.mono (fun v h=>hK _ _ _ h) (fun v h=>hK _ _ _ h) (fun v h=>hX _ _ _ h) h)) (fun h=> .inr (jz.mono hK hX h))
    ·exact jz.mono hK hX h
   ·exact h.elim
  ·rename_i hf
   split at h
   ·rename_i he
    (try simp only[he])
    exact hK _ _ _ h
   ·exact h.elim
 ·split at h
  ·rename_i he
   (try simp only[he]);exact hK _ _ _ h
  ·exact h.elim
theorem jR{KB KB':List Nat->Fp->Prop}{pr:List (List Nat)}(hK:∀l fp,KB l fp->KB' l fp):∀ (l:List cu) (fr:Nat) (s:S) (fp:Fp) (bad ws:List Nat),iS P KB pr l fr s fp bad ws->iS P KB' pr l fr s fp bad ws
 |[],_,_,_,_,_,h=>hK _ _ h
 |o::l,fr,s,fp,bad,ws,h=>by
  unfold iS at h|-
  split
  ·rename_i hb
   rw[if_pos hb]at h
   exact jR hK l _ _ _ _ _ h
  ·rename_i hb
   rw[if_neg hb]at h
   split at h
   ·exact B3 (fun v Δ r h=>jR hK l _ _ _ _ _ h) (fun _ _ _ h=>h) h
   ·split at h
    ·split at h
     ·rename_i e;simp only[e,if_true]
      exact B3 (fun v Δ r h=>jR hK l _ _ _ _ _ h) (fun _ _ _ h=>h) h
     ·rename_i e;simp only[e,if_false]
      exact jR hK l _ _ _ _ _ h
    ·exact jR hK l _ _ _ _ _ h
    ·exact h.elim
theorem lK{K K':S->Fp->Prop}{KP KP':V->List Nat->Fp->Prop}{pr:List (List Nat)}(hK:∀s fp,K s fp->K' s fp)(hP:∀v l fp,KP v l fp->KP' v l fp):∀ (l:List cu) (fr:Nat) (s:S) (fp:Fp),qo P K KP pr l fr s fp->lg P K' KP' pr l fr s fp
 |[],_,_,_,h=>hK _ _ h
 |o::l,fr,s,fp,h=>by
  have hB:∀v ws (rdl:List Nat),B0 P (KP v) pr l (fr+1) (fp++[(rdl,[])]) [fp.length] (ws++fp.flatMap (·.2)) ⟨bu s.env o.dst .aa,s.o,s.nx⟩->
   iS P (KP' v) pr l (fr+1) ⟨bu s.env o.dst .aa,s.o,s.nx⟩ (fp++[(rdl,[])]) [fp.length] (ws++fp.flatMap (·.2)):=fun v ws rdl h=>jR (fun a b h=>hP v a b h) l _ _ _ _ _ h
  unfold qo at h
  unfold lg
  split at h
  ·rename_i hg
   (try simp only[hg])
   exact Fj (fun v Δ r h=>lK hK hP l _ _ _ h) hB h
  ·rename_i d want hg
   (try simp only[hg])
   generalize s.env d=v at h
   unfold ki at h
   split at h
   ·rename_i bb
    by_cases e:bb=want
    ·subst e
     simp only[if_true]
     exact Fj (fun v Δ r h=>lK hK hP l _ _ _ h) hB (h.1 aj)
    ·simp only[if_neg e]
     exact lK hK hP l _ _ _ (h.2 (by simpa using e))
   ·exact lK hK hP l _ _ _ h
   ·exact h.elim
theorem ey:∀ (c:IC) (Q Q':fN->S->Prop) (s:S),(∀e s,Q e s->Q' e s)->kS P n b rd c Q s->tO P n b rd c Q' s
 | .skip,_,_,_,hQ,h=>hQ _ _ h
 | .ag l,_,_,_,hQ,h=>xQ (fun s h=>hQ _ _ h) (fun v s h=>hQ _ _ h) l _ h
 | .eS l pr,_,_,_,hQ,h=> .inl (lK (fun s fp h=>⟨h.1,hQ _ _ h.2⟩) (fun v l fp h=>⟨h.1,hQ _ _ h.2⟩) l _ _ _ h)
 | .seq x y,Q,Q',s,hQ,h=>ey x _ _ s (fun e s h=>by
  unfold qb at h|-
  cases e with
  |normal=>exact ey y _ _ s hQ h
  |_=>exact hQ _ _ h) h
 | .cond c x y,Q,Q',s,hQ,h=>by
   unfold kS xN jo at h
   unfold tO
   split at h
   ·rename_i t ht
    simp only[ht]
    exact⟨fun e=>ey x _ _ s hQ (h.1 e),fun e=>ey y _ _ s hQ (h.2 e)⟩
   ·rename_i ht
    simp only[ht]
    exact⟨ey x _ _ s hQ h.1,ey y _ _ s hQ h.2⟩
   ·exact h.elim
 | .block id x,Q,Q',s,hQ,h=>ey x _ _ s (fun e s h=>by
  unfold fO at h|-
  cases e with
  |exit j=>
   simp only at h|-
   split
   ·rename_i e;rw[if_pos e]at h;exact hQ _ _ h
   ·rename_i e;rw[if_neg e]at h;exact hQ _ _ h
  |_=>exact hQ _ _ h) h
 | .loop x,Q,Q',s,hQ,h=>by
   obtain⟨ι,st,bN,o7,i0,h0,hle,h2⟩:=h
   refine⟨fun m s=>∃i,bN i/\o7 i=m/\s=st i,⟨o7 i0,st i0,hle,i0,h0,rfl,rfl⟩, ?_⟩
   rintro m s0 ⟨i,hg,rfl,rfl⟩
   refine ey x _ _ _ (fun e s h=> ?_) (h2 i hg)
   cases e with
   |normal=>
    obtain⟨j,k1,k2,k3⟩:=h
    exact⟨o7 j,st j,k2,k3,j,k1,rfl,rfl⟩
   |_=>exact hQ _ _ h
 | .exit id,_,_,_,hQ,h=>hQ _ _ h
 | .ret,_,_,_,hQ,h=>hQ _ _ h
 | .GA g ps x y,_,_,_,hQ,h=>⟨h.1,match h.2 with
   | .inl h=>⟨_, .inl rfl,rI hQ h⟩
   | .inr ⟨s',hle,h⟩=>⟨s', .inr hle,rI hQ h⟩⟩
 | .bad,_,_,_,_,h=>h.elim
end
theorem a7.aA {P:Program}(bD:P.follows .mixedOrders=true){f:FuncId}{n:Nat}{ic:IC}{rs:List ResultVar}{ds:List D}{out:R}(hf:aF P f n ic rs)(hl:ds.length<=n)
 (h:kS P n 0 false ic (DG P rs out) ⟨cB (ds.map .d),fun _=> .no,0⟩):a7 P f ds out:=
 a7.uP bD hf hl (ey ic _ _ _ (fun _ _ h=>h) h)
def rL(P:Program)(rs:List ResultVar)(K X:V->(Nat->ab)->Nat->Prop)(e:fN)(s:S):Prop:=me P rs K X e s
theorem cK.aA {P:Program}(bD:P.follows .mixedOrders=true){f:FuncId}{n:Nat}{ic:IC}{rs:List ResultVar}{args:List V}{o:Nat->ab}{nx:Nat}{K X:V->(Nat->ab)->Nat->Prop}(hf:aF P f n ic rs)(hl:args.length<=n)
 (h:kS P n nx false ic (rL P rs K X) ⟨cB args,o,nx⟩):cK P f args o nx K X:=
 cK.uP bD hf hl (ey ic _ _ _ (fun _ _ h=>h) h)
section
variable {P:Program}{g:FuncId}{ds:List D}{o:Nat->ab}{nx:Nat}{K X:V->(Nat->ab)->Nat->Prop}{all:List V}
theorem ah{rs:List D}(h:a7 P g ds (.ret rs))(hf:D.j9 rs=true)(hk:K (jJ rs) o (nx+1)):sL P g o nx K X ds all:= .inl ⟨.ret rs,h, .inr (.inl ⟨hf,hk⟩)⟩
theorem bf{rs:List D}(h:a7 P g ds (.ret rs))(hk:K (jJ rs) (put o (dk o (V.bF all))) (nx+1)):sL P g o nx K X ds all:= .inl ⟨.ret rs,h, .inl hk⟩
theorem br{x:D}(h:a7 P g ds (.bR x))(hf:x.flat=true)(hk:X (.d x) o (nx+1)):sL P g o nx K X ds all:= .inl ⟨.bR x,h, .inr (.inl ⟨hf,hk⟩)⟩
theorem c6(h:cK P g all o nx K X):sL P g o nx K X ds all:= .inr (.inl h)
theorem cW{e:Nat->V}{ds:Option (List D)}(h:cK P g all o nx K X):nq P g K X ⟨e,o,nx⟩ all ds:=by
 cases ds with
 |some ds=>exact(.inr (.inl h):sL P g o nx K X ds all)
 |none=>exact(.inl h:BU P g nx K X all o)
theorem bc(h:cK P g all o nx K X):BU P g nx K X all o:= .inl h
variable {K:KD}{X:XD}{rd:List Nat}{fr:Nat}
theorem aq{rs:List D}(h:a7 P g ds (.ret rs))(hf:D.j9 rs=true)(hk:K (jJ rs) [] rd):nr P g K X o nx fr rd ds all:= .inl (.inl ⟨rs,h, .inr ⟨hf,hk⟩⟩)
theorem bB{rs:List D}(h:a7 P g ds (.ret rs))(hk:K (jJ rs) (dk o (V.bF all)) rd):nr P g K X o nx fr rd ds all:= .inl (.inl ⟨rs,h, .inl hk⟩)
theorem aJ{x:D}(h:a7 P g ds (.bR x))(hf:x.flat=true)(hk:X (.d x) [] rd):nr P g K X o nx fr rd ds all:= .inl (.inr (.inl ⟨x,h,hf,hk⟩))
theorem Hj{v:V}(h:PH P g ds v)(hk:K v (dk o (V.bF all)) rd):nr P g K X o nx fr rd ds all:= .inl (.inr (.inr ⟨v,h,hk⟩))
theorem xR{v:V}{tt:List Nat}{Δ:List (Nat×ab)}(mL:tt.all (fun id=>decide (id<nx))=true)(h:xE P g all tt o fr v Δ)(hk:K v Δ tt):nr P g K X o nx fr rd ds all:= .inr ⟨tt,Δ,mL, .inr (.inr ⟨v,h,hk⟩)⟩
end
theorem fi{P:Program}{f:V}{args:List V}{o:Nat->ab}{K:V->Prop}{c:Bool}(rs:List D)(h:mz c (BT P f args o rs))(hk:K (V.zH c (jJ rs))):Fh P f args o K c:=⟨rs,h,hk⟩
theorem ak{t:Bool}{A B:Prop}(h:t=true->A)(h2:t=false->B):jo A B t:=⟨h,h2⟩
theorem ao{pr:List (List Nat)}{nx:Nat}{Q:fN->S->Prop}{s:S}{fp:List (List Nat×List Nat)}(h:iI pr fp=true)(h2:Q .normal ⟨s.env,s.o,nx⟩):Ny pr nx Q s fp:=⟨h,h2⟩
@[go_sem] theorem JW (o:Nat->ab):put o []=o:=rfl
@[go_sem] theorem Hk (o:Nat->ab) (x:Nat×ab) (l:List (Nat×ab)):put o (x::l)=put (aL o x.1 x.2) l:=rfl
@[go_sem] theorem ae {α:Type} (f:Nat->α) (i:Nat) (x:α):aL f i x i=x:=aj
@[go_sem] theorem ai {α:Type} (f:Nat->α) (i j:Nat) (x:α) (h:j≠i):aL f i x j=f j:=by simp[h]
@[go_sem] theorem NA (v:V) (l:List V):cB (v::l) 0=v:=rfl
@[go_sem] theorem NB (v:V) (l:List V) (i:Nat):cB (v::l) (i+1)=cB l i:=rfl
@[go_sem] theorem P6 (i:Nat):cB [] i= .ck []:=by simp[cB]
@[go_sem] theorem WV {P:Program} {o:Nat->ab} {t:TypeId} {id off:Nat}:nh P o t (.ptr id off)=match o id with
 | .row cs=>match e7 P t cs off with
   |some v=>some (v,[],[id])
   |none=>none
 |_=>none:=by unfold nh;exact Eq.trans rfl rfl
@[go_sem] theorem Yk {P:Program} {o:Nat->ab} {t:TypeId} {cs:List D} {off:Nat}:nh P o t (.pp cs off)=match e7 P t (cs.map .d) off with
 |some v=>some (v,[],[])
 |none=>none:=by unfold nh;exact Eq.trans rfl rfl
@[go_sem] theorem Yl {P:Program} {o:Nat->ab} {t:TypeId} {id ep i sz off:Nat}:nh P o t (.pe id ep i sz off)=match o id with
 | .arr jj _ qU es=>if ep=jj/\sz=qU then match es[i]? with
  |some e=>match e7 P t (e.cells.map .d) off with
   |some v=>some (v,[],[id])
   |none=>none
  |none=>none
   else none
 |_=>none:=by unfold nh;exact Eq.trans rfl rfl
section
variable {P:Program}{o:Nat->ab}{t:TypeId}{op:BinOp}{oP:Bool}
@[go_sem] theorem WW {k:IntKind} {a b:Int}:eC P o op t oP (.d (.int k a)) (.d (.int k b))=match BC op k a b with
 |some v=>one v
 |none=>rn P o op t oP (.d (.int k a)) (.d (.int k b)):=by
  simp only[eC,zp,if_true]
  cases BC op k a b<;>rfl
@[go_sem] theorem WX {a b:Bool} (h:mg P t=true):eC P o .eql t oP (.d (.bool a)) (.d (.bool b))=one (.d (.bool (a==b))):=by simp only[eC,zp,JD,h,if_true]
@[go_sem] theorem WY {a b:Bool} (h:mg P t=true):eC P o .neq t oP (.d (.bool a)) (.d (.bool b))=one (.d (.bool (a !=b))):=by simp only[eC,zp,JD,h,if_true]
@[go_sem] theorem WZ {a b:List UInt8}:eC P o .eql t oP (.d (.str a)) (.d (.str b))=one (.d (.bool (a==b))):=SD
@[go_sem] theorem W0 {a b:List UInt8}:eC P o .neq t oP (.d (.str a)) (.d (.str b))=one (.d (.bool (a !=b))):=SD
@[go_sem] theorem W1 {a b:List D}:eC P o op t oP (.d (.agg a)) (.d (.agg b))=rn P o op t oP (.d (.agg a)) (.d (.agg b)):=SD
theorem MH{x:V}{y:V}(h:match y with| .d (.int _ _)| .d (.bool _)| .d (.str _)=>False|_=>True):zp P op t x y=none:=by
 unfold zp
 split<;>first|exact h.elim|rfl
@[go_sem] theorem Tw {x:V}:eC P o op t oP x .bW=rn P o op t oP x .bW:=IX
@[go_sem] theorem Tx {x:V}:eC P o op t oP x (.d .fq)=rn P o op t oP x (.d .fq):=IX
@[go_sem] theorem Ty {x:V}:eC P o op t oP x (.d .mH)=rn P o op t oP x (.d .mH):=IX
@[go_sem] theorem Tz {x:V}:eC P o op t oP x (.d .bT)=rn P o op t oP x (.d .bT):=IX
@[go_sem] theorem TA {x:V}:eC P o op t oP x (.d .ji)=rn P o op t oP x (.d .ji):=IX
@[go_sem] theorem Ym {b:Bool}:Gu .not (.d (.bool b))=some (.d (.bool !b)):=SE
@[go_sem] theorem Yn:Gu .not .eZ=some .eZ:=SE
@[go_sem] theorem Yo {k:IntKind} {n:Int}:Gu .neg (.d (.int k n))=some (.d (.int k (k.wrap (-n)))):=SE
end
@[go_sem] theorem D.W2 (cs:List D):(D.agg cs).cells=cs:=rfl
@[go_sem] theorem D.W3 (k:IntKind) (n:Int):(D.int k n).cells=[.int k n]:=rfl
@[go_sem] theorem D.TC (b:Bool):(D.bool b).cells=[.bool b]:=rfl
@[go_sem] theorem D.W4 (b:List UInt8):(D.str b).cells=[.str b]:=rfl
@[go_sem] theorem D.Yp (b:List D):(D.sl b).cells=[.sl b]:=rfl
@[go_sem] theorem D.Yq (a b:List D):(D.mp a b).cells=[.mp a b]:=rfl
@[go_sem] theorem D.P7 (t:TypeId) (x:D):(D.iface t x).cells=[.iface t x]:=rfl
@[go_sem] theorem D.TD:D.fq.cells=[.fq]:=rfl
@[go_sem] theorem D.TE:D.mH.cells=[.mH]:=rfl
@[go_sem] theorem D.TF:D.bT.cells=[.bT]:=rfl
@[go_sem] theorem D.TG:D.ji.cells=[.ji]:=rfl
attribute [go_sem] V.ofConst V.dD BC JD qi DM xD oE iO iP rD gQ mh qj qk ql rE jP JE l8 dZ cn e7 yU sv my V.cells D.put dk V.ids V.bF jJ D.j9 D.flat R.flat
attribute [go_sem] Dp List.take_succ_cons List.take_zero List.take_nil List.drop_zero List.drop_succ_cons List.drop_nil
attribute [go_sem] List.map_cons List.map_nil List.length_cons List.length_nil List.cons_append List.nil_append List.append_nil List.getElem?_cons_zero List.getElem?_cons_succ Option.bind_some Option.bind_none Option.map_some Option.map_none ab.cy ab.ct
section
variable {P:Program}{n b:Nat}{rd:Bool}{Q:fN->S->Prop}{s:S}
@[go_sem] theorem Yr:kS P n b rd .skip Q s=Q .normal s:=propext Iff.rfl
@[go_sem] theorem NC {l:List cu}:kS P n b rd (.ag l) Q s=tx P (fun v s=>Q (.bR v) s) (Q .normal) l s:=propext Iff.rfl
@[go_sem] theorem aa6 {l:List cu} {pr:List (List Nat)}:kS P n b rd (.eS l pr) Q s=qo P (Ny pr (s.nx+l.length) Q) (BQ pr l s Q) pr l s.nx s []:=propext Iff.rfl
@[go_sem] theorem ND {x y:IC}:kS P n b rd (.seq x y) Q s=kS P n b rd x (qb (fun s=>kS P n b rd y Q s) Q) s:=propext Iff.rfl
@[go_sem] theorem Ys {c:Operand} {x y:IC}:kS P n b rd (.cond c x y) Q s=xN (kS P n b rd x Q s) (kS P n b rd y Q s) (s.ev c):=propext Iff.rfl
@[go_sem] theorem W5 {id:Nat} {x:IC}:kS P n b rd (.block id x) Q s=kS P n b rd x (fO id Q) s:=propext Iff.rfl
@[go_sem] theorem Yt {x:IC}:kS P n b rd (.loop x) Q s=uS b (fun Q s=>kS P n b rd x Q s) Q s:=propext Iff.rfl
@[go_sem] theorem Yu {id:Nat}:kS P n b rd (.exit id) Q s=Q (.exit id) s:=propext Iff.rfl
@[go_sem] theorem aa7:kS P n b rd .ret Q s=Q .ret s:=propext Iff.rfl
@[go_sem] theorem aa8 {g:Operand} {ps:List Nat} {x y:IC}:kS P n b rd (.GA g ps x y) Q s=wJ P n b rd g ps x y Q s (s.ev g):=propext Iff.rfl
@[go_sem] theorem JX {X:V->S->Prop} {K:S->Prop}:tx P X K [] s=K s:=propext Iff.rfl
@[go_sem] theorem Hl {X:V->S->Prop} {K:S->Prop} {d:Option Nat} {op:Op} {l:List cu}:tx P X K (⟨d,op,none⟩::l) s=BX P X (tx P X K l) ⟨d,op,none⟩ s:=propext Iff.rfl
@[go_sem] theorem W6 {X:V->S->Prop} {K:S->Prop} {d:Option Nat} {op:Op} {g:Nat} {w:Bool} {l:List cu}:tx P X K (⟨d,op,some (g,w)⟩::l) s=zI P X (tx P X K l) ⟨d,op,some (g,w)⟩ s (mA (s.env g) w):=propext Iff.rfl
variable {X:V->S->Prop}{K:S->Prop}{d:Option Nat}{op:Op}{g:Option (Nat×Bool)}{f:Operand}{args:Array Operand}{ts:Array TypeId}{c:Bool}
@[reducible] def TH:Op->Bool
  | .call c=>match c.callee with
    | .value _=>true
    | .invoke .. =>true
    |_=>false
  | .panic _=>true
  | .next .. =>true
  |_=>false
@[go_sem] theorem TI (h:TH op=false):BX P X K ⟨d,op,g⟩ s=kR (fun v Δ=>K ⟨bu s.env d v,put s.o Δ,s.nx+1⟩) (gD P s s.nx op):=by
  unfold BX
  cases op with
  |call c=>
   obtain⟨Jr,args,ts⟩:=c
   cases Jr with
   |value f=>simp[TH]at h
   |invoke r m=>simp[TH]at h
   |_=>rfl
  |panic x=>simp[TH]at h
  |next x str=>simp[TH]at h
  |_=>rfl
@[go_sem] theorem Yv {x:Operand} {str:Bool}:BX P X K ⟨d, .next x str,g⟩ s=JT (fun v Δ=>K ⟨bu s.env d v,put s.o Δ,s.nx+1⟩) str (oz s.o (s.ev x) str) (oA s.o (s.ev x)):=propext Iff.rfl
@[go_sem] theorem Yw:BX P X K ⟨d, .call ⟨.value f,args,ts⟩,g⟩ s=sM P (fun v o' nx'=>K ⟨bu s.env d v,o',nx'⟩) (fun v o' nx'=>X v ⟨s.env,o',nx'⟩) s (s.ev f) (args.toList.map s.ev):=propext Iff.rfl
@[go_sem] theorem TJ {m:String}:BX P X K ⟨d, .call ⟨.invoke f m,args,ts⟩,g⟩ s=JS P (fun v o' nx'=>K ⟨bu s.env d v,o',nx'⟩) (fun v o' nx'=>X v ⟨s.env,o',nx'⟩) s (args.toList.map s.ev) (uA P m (s.ev f)):=propext Iff.rfl
@[go_sem] theorem W7:BX P X K ⟨d, .panic f,g⟩ s=Hh (fun v=>X v s) (s.ev f):=propext Iff.rfl
@[go_sem] theorem W8:zI P X K ⟨d, .call ⟨.value f,args,ts⟩,g⟩ s (some c)=D5 P X K ⟨d, .call ⟨.value f,args,ts⟩,g⟩ s f args.toList c:=propext Iff.rfl
theorem gE{e:Nat->V}{ob:Nat->ab}{nx:Nat}(h:Fh P ((⟨e,ob,nx⟩:S).ev f) (args.toList.map (⟨e,ob,nx⟩:S).ev) ob (fun v=>K ⟨bu e d v,ob,nx+1⟩) c):D5 P X K ⟨d,op,g⟩ ⟨e,ob,nx⟩ f args.toList c:= .inl h
theorem B4{s:S}{o:cu}{l:List Operand}(h:jo (BX P X K o s) (K ⟨bu s.env o.dst (.ck []),s.o,s.nx+1⟩) c):D5 P X K o s f l c:= .inr h
@[go_sem] theorem W9 (h:lj op=true):zI P X K ⟨d,op,g⟩ s (some c)=kR (fun v _=>K ⟨bu s.env d v,s.o,s.nx+1⟩) (lh c (gD P s s.nx op)):=by
  have h2:gw op=none:=by
   cases hc:gw op with
   |none=>rfl
   |some x=>
    exfalso
    unfold gw at hc
    split at hc
    ·split at hc
     ·rename_i hv;simp[lj,hv]at h
     ·cases hc
    ·cases hc
  simp only[zI,h2,h,if_true]
@[go_sem] theorem Xa (h:lj op=false) (h2:gw op=none):zI P X K ⟨d,op,g⟩ s (some c)=jo (BX P X K ⟨d,op,g⟩ s) (K ⟨bu s.env d (.ck []),s.o,s.nx+1⟩) c:=by
  simp[zI,h2,h]
@[go_sem] theorem TK {l:List Operand}:D5 P X K ⟨d,op,g⟩ s f l false=K ⟨bu s.env d (.ck []),s.o,s.nx+1⟩:=by
  refine propext ⟨fun h=> ?_,fun h=> .inr ⟨(fun e=>by cases e),fun _=>h⟩⟩
  rcases h with⟨rs,_,h⟩|h
  ·exact h
  ·exact h.2 rfl
@[go_sem] theorem Xb {l:List Operand} (hl:args.toList=l):D5 P X K ⟨d, .call ⟨.value f,args,ts⟩,g⟩ s f l true=BX P X K ⟨d, .call ⟨.value f,args,ts⟩,g⟩ s:=by
  subst hl
  refine propext ⟨fun h=> ?_,fun h=> .inr ⟨fun _=>h,(fun e=>by cases e)⟩⟩
  rcases h with⟨rs,h1,h⟩|h
  ·have h1:=h1 rfl
   unfold BT at h1
   unfold BX sM nq
   simp only
   split at h1
   ·rename_i fv gg first cap hf
    simp only[hf]
    split at h1
    ·rename_i ds eX
     simp only[eX]
     exact .inl ⟨.ret rs,h1.1, .inr (.inl ⟨h1.2,h⟩)⟩
    ·exact h1.elim
   ·exact h1.elim
  ·exact h.1 rfl
variable {KV:KD}{XV:XD}
@[go_sem] theorem Yx {fr:Nat}:Mq P KV XV fr ⟨d, .call ⟨.value f,args,ts⟩,g⟩ s=BZ P KV XV s.o s.nx fr (pC s (.call ⟨.value f,args,ts⟩)) (s.ev f) (args.toList.map s.ev):=propext Iff.rfl
@[go_sem] theorem abJ {fr:Nat} (h2:gw op=none):Mq P KV XV fr ⟨d,op,g⟩ s=uQ KV (pC s op) (gD P s fr op):=by simp[Mq,h2]
variable {KS:S->Prop}
@[go_sem ↓] theorem zL:qb KS Q .normal s=KS s:=propext Iff.rfl
@[go_sem ↓] theorem TL {id:Nat}:qb KS Q (.exit id) s=Q (.exit id) s:=propext Iff.rfl
@[go_sem ↓] theorem Xc:qb KS Q .ret s=Q .ret s:=propext Iff.rfl
@[go_sem ↓] theorem qW {v:V}:qb KS Q (.bR v) s=Q (.bR v) s:=propext Iff.rfl
@[go_sem ↓] theorem Mr {id:Nat}:fO id Q .normal s=Q .normal s:=propext Iff.rfl
@[go_sem ↓] theorem P8 {id:Nat}:fO id Q (.exit id) s=Q .normal s:=by simp[fO]
@[go_sem ↓] theorem NF {id j:Nat} (h:j≠id):fO id Q (.exit j) s=Q (.exit j) s:=by simp[fO,h]
@[go_sem ↓] theorem TM {id:Nat}:fO id Q .ret s=Q .ret s:=propext Iff.rfl
@[go_sem ↓] theorem oJ {id:Nat} {v:V}:fO id Q (.bR v) s=Q (.bR v) s:=propext Iff.rfl
def NG(out:R)(x:Option (List D)):Prop:=match x with|some ds=>out= .ret ds|none=>False
@[go_sem] theorem Xd {out:R} {ds:List D}:NG out (some ds)=(out= .ret ds):=propext Iff.rfl
def TN(out:R)(x:Option D):Prop:=match x with|some d=>out= .bR d|none=>False
@[go_sem] theorem qZ {out:R} {d:D}:TN out (some d)=(out= .bR d):=propext Iff.rfl
def NH(out:R)(o:Nat->ab)(x:Option (List V)):Prop:=match x with|some vs=>NG out (cn o vs)|none=>False
@[go_sem] theorem Xe {out:R} {o:Nat->ab} {vs:List V}:NH out o (some vs)=NG out (cn o vs):=propext Iff.rfl
variable {rs:List ResultVar}{out:R}
@[go_sem ↓] theorem Xf:DG P rs out .ret s=NH out s.o (l8 P s rs):=propext Iff.rfl
@[go_sem ↓] theorem NI:DG P rs out .normal s=NH out s.o (l8 P s rs):=propext Iff.rfl
@[go_sem ↓] theorem qY {v:V}:DG P rs out (.bR v) s=TN out (dZ s.o v):=propext Iff.rfl
def B5(K:V->(Nat->ab)->Nat->Prop)(o:Nat->ab)(nx:Nat)(x:Fix (Option (List V)) (K,o,nx)):Prop:=match x with
 |some [v]=>K v o nx
 |some vs=>K (.ck vs) o nx
 |none=>False
@[go_sem] theorem Yy {K:V->(Nat->ab)->Nat->Prop} {o:Nat->ab} {nx:Nat} {v:V}:B5 K o nx (some [v])=K v o nx:=propext Iff.rfl
@[go_sem] theorem Yz {K:V->(Nat->ab)->Nat->Prop} {o:Nat->ab} {nx:Nat}:B5 K o nx (some [])=K (.ck []) o nx:=propext Iff.rfl
@[go_sem] theorem YA {K:V->(Nat->ab)->Nat->Prop} {o:Nat->ab} {nx:Nat} {v u:V} {l:List V}:B5 K o nx (some (v::u::l))=K (.ck (v::u::l)) o nx:=propext Iff.rfl
theorem Fk{K X:V->(Nat->ab)->Nat->Prop}:me P rs K X .ret s=B5 K s.o s.nx (l8 P s rs):=by
 unfold me B5
 cases l8 P s rs with
 |none=>rfl
 |some l=>match l with
  |[]=>rfl
  |[_]=>rfl
  |_::_::_=>rfl
@[go_sem ↓] theorem YB {K X:V->(Nat->ab)->Nat->Prop}:rL P rs K X .ret s=B5 K s.o s.nx (l8 P s rs):=Fk
@[go_sem ↓] theorem P9 {K X:V->(Nat->ab)->Nat->Prop}:rL P rs K X .normal s=B5 K s.o s.nx (l8 P s rs):=(Fk (X:=X):me P rs K X .ret s=_)
@[go_sem ↓] theorem ue {K X:V->(Nat->ab)->Nat->Prop} {v:V}:rL P rs K X (.bR v) s=X v s.o s.nx:=propext Iff.rfl
variable {KE:S->Fp->Prop}{KP:V->List Nat->Fp->Prop}{pr:List (List Nat)}{fr:Nat}{fp:Fp}
@[go_sem] theorem YC:qo P KE KP pr [] fr s fp=KE s fp:=propext Iff.rfl
@[go_sem] theorem Xg {d:Option Nat} {op:Op} {l:List cu}:qo P KE KP pr (⟨d,op,none⟩::l) fr s fp=
 Mq P (fun v Δ rd=>qo P KE KP pr l (fr+1) ⟨bu s.env d v,put s.o Δ,s.nx⟩ (fp++[(rd,Δ.map (·.1))]))
  (fun v ws rd=>B0 P (KP v) pr l (fr+1) (fp++[(rd,[])]) [fp.length] (ws++fp.flatMap (·.2)) ⟨bu s.env d .aa,s.o,s.nx⟩) fr ⟨d,op,none⟩ s:=propext Iff.rfl
@[go_sem] theorem Xh {d:Option Nat} {op:Op} {g:Nat} {w:Bool} {l:List cu}:qo P KE KP pr (⟨d,op,some (g,w)⟩::l) fr s fp=
 ki w (Mq P (fun v Δ rd=>qo P KE KP pr l (fr+1) ⟨bu s.env d v,put s.o Δ,s.nx⟩ (fp++[(rd,Δ.map (·.1))]))
  (fun v ws rd=>B0 P (KP v) pr l (fr+1) (fp++[(rd,[])]) [fp.length] (ws++fp.flatMap (·.2)) ⟨bu s.env d .aa,s.o,s.nx⟩) fr ⟨d,op,some (g,w)⟩ s)
   (qo P KE KP pr l (fr+1) ⟨bu s.env d (.ck []),s.o,s.nx⟩ (fp++[([],[])])) (s.env g):=propext Iff.rfl
end
attribute [go_sem] TH gw lj gD one lJ bu S.ev BT
theorem au{ι:Type}{b:Nat}{st:ι->S}{bN:ι->Prop}{o7:ι->Nat}{i:ι}{s:S}(j:ι)(h1:bN j)(h2:o7 j<o7 i)(h3:bL b s (st j)):Fi b st bN o7 i s:=⟨j,h1,h2,h3⟩
attribute [irreducible] kS tx BX zI D5 sM nq BV JR JS Fh sL BU kR Hh jo ki JU nr rJ rK BZ uQ Mq qo B0 wJ xM rL B5 Ny xN uS NG TN NH uR Fi
end Go.Proofs.YtonbelhklnmjnaaGreat
namespace Go.Proofs.YtonbelhklnmjnaaGreat
section
variable (ρ:Nat->Option Nat)(o' o:Nat->ab)(nx:Nat)
end
section
variable {M M':Nat->Prop}{φ aO:Place}{H H':Hp}{w:World}{ρ:Nat->Option Nat}{nx:Nat}
end
end Go.Proofs.YtonbelhklnmjnaaGreat
