/-
  A PART OF THE PROOF. Conditions: none.
-/
import Derived.Test.YtonbelhklnmjnaaGreatLt7
set_option linter.unusedSimpArgs false
set_option linter.unusedVariables false
namespace Go.Proofs.YtonbelhklnmjnaaGreat
def sM(P:Program)(g:FuncId)(ds:List D)(Kf Kb KX:V->Prop):Prop:=
 (∃rs,a8 P g ds (.ret rs)/\(Kf (jO rs)\/(D.ko rs=true/\Kb (jO rs))))\/(∃x,a8 P g ds (.bU x)/\x.flat=true/\KX (.d x))\/(∃v,Qa P g ds v/\Kf v)
def jG(P:Program)(g:FuncId)(args:List V)(o:Nat->ab)(nx fr:Nat)(K:V->List (Nat×ab)->List Nat->Prop)(KX:V->List Nat->List Nat->Prop):Prop:=
 ∃rd Δ,rd.all (fun id=>decide (id<nx))=true/\((∃rs,Fs P g args rd o (.ret rs) Δ/\K (jO rs) Δ rd)\/(∃x,Fs P g args rd o (.bU x) Δ/\KX (.d x) (Δ.map (·.1)) rd)\/(∃v,xN P g args rd o fr v Δ/\K v Δ rd))
def AQ(P:Program)(s:S)(fr:Nat)(o:cz)(K:V->List (Nat×ab)->List Nat->Prop)(KX:V->List Nat->List Nat->Prop):Prop:=
 match o.op with
 | .call c=>match c.callee with
   | .value f=>match s.ev f with
     | .func (.func g) first cap=>match ct s.o (first++c.args.toList.map s.ev++cap)with
       |some ds=>sM P g ds (fun v=>K v (dn s.o (V.bF (first++c.args.toList.map s.ev++cap))) (pI s o.op)) (fun v=>K v [] (pI s o.op)) (fun v=>KX v [] (pI s o.op))\/jG P g (first++c.args.toList.map s.ev++cap) s.o s.nx fr K KX
       |none=>jG P g (first++c.args.toList.map s.ev++cap) s.o s.nx fr K KX
     |_=>False
   |_=>match gN P s fr o.op with
    |some (v,Δ,_)=>K v Δ (pI s o.op)
    |none=>False
 |op=>match gN P s fr op with
  |some (v,Δ,_)=>K v Δ (pI s o.op)
  |none=>False
abbrev Fp:=List (List Nat×List Nat)
def iY(P:Program)(KB:List Nat->Fp->Prop)(pr:List (List Nat)):List cz->Nat->S->Fp->List Nat->List Nat->Prop
 |[],_,_,fp,_,ws=>KB ws fp
 |o::l,fr,s,fp,bad,ws=>if(pr.getD fp.length []).any (fun j=>bad.contains j)=true then iY P KB pr l (fr+1) ⟨bu s.env o.dst .aa,s.o,s.nx⟩ (fp++[([],[])]) (bad++[fp.length]) ws
  else match o.gd with
  |none=>AQ P s fr o (fun v Δ rd=>iY P KB pr l (fr+1) ⟨bu s.env o.dst v,put s.o Δ,s.nx⟩ (fp++[(rd,Δ.map (·.1))]) bad (ws++Δ.map (·.1))) (fun _ _ _=>False)
  |some (d,want)=>match s.env d with
   | .d (.bool b)=>if b=want then AQ P s fr o (fun v Δ rd=>iY P KB pr l (fr+1) ⟨bu s.env o.dst v,put s.o Δ,s.nx⟩ (fp++[(rd,Δ.map (·.1))]) bad (ws++Δ.map (·.1))) (fun _ _ _=>False)
    else iY P KB pr l (fr+1) ⟨bu s.env o.dst (.cp []),s.o,s.nx⟩ (fp++[([],[])]) bad ws
   | .cp []=>iY P KB pr l (fr+1) ⟨bu s.env o.dst (.cp []),s.o,s.nx⟩ (fp++[([],[])]) bad ws
   |_=>False
def lq(P:Program)(K:S->Fp->Prop)(KP:V->List Nat->Fp->Prop)(pr:List (List Nat)):List cz->Nat->S->Fp->Prop
 |[],_,s,fp=>K s fp
 |o::l,fr,s,fp=>match o.gd with
  |none=>AQ P s fr o (fun v Δ rd=>lq P K KP pr l (fr+1) ⟨bu s.env o.dst v,put s.o Δ,s.nx⟩ (fp++[(rd,Δ.map (·.1))]))
   (fun v ws rd=>iY P (KP v) pr l (fr+1) ⟨bu s.env o.dst .aa,s.o,s.nx⟩ (fp++[(rd,[])]) [fp.length] (ws++fp.flatMap (·.2)))
  |some (d,want)=>match s.env d with
   | .d (.bool b)=>if b=want then AQ P s fr o (fun v Δ rd=>lq P K KP pr l (fr+1) ⟨bu s.env o.dst v,put s.o Δ,s.nx⟩ (fp++[(rd,Δ.map (·.1))]))
         (fun v ws rd=>iY P (KP v) pr l (fr+1) ⟨bu s.env o.dst .aa,s.o,s.nx⟩ (fp++[(rd,[])]) [fp.length] (ws++fp.flatMap (·.2)))
    else lq P K KP pr l (fr+1) ⟨bu s.env o.dst (.cp []),s.o,s.nx⟩ (fp++[([],[])])
   | .cp []=>lq P K KP pr l (fr+1) ⟨bu s.env o.dst (.cp []),s.o,s.nx⟩ (fp++[([],[])])
   |_=>False
def Eg(pr:List (List Nat))(nx:Nat)(Q:fS->S->Prop)(s:S)(fp:Fp):Prop:=iO pr fp=true/\Q .normal ⟨s.env,s.o,nx⟩
def dstsOf(l:List cz):List Nat:=l.filterMap (·.dst)
def BV(pr:List (List Nat))(l:List cz)(s0:S)(Q:fS->S->Prop)(v:V)(wl:List Nat)(fp:Fp):Prop:=iO pr fp=true/\Q (.bU v) (pO (dstsOf l) wl l.length s0)
def nv:List cz->List fH->S->Nat->S
 |_,_,s,0=>s
 |o::l,x::xs,s,j+1=>nv l xs (wA o.dst x s) j
 |_,_,s,_=>s
def xT(cu:List fH):Fp:=cu.map fun x=>(wP x,lj x)
section
variable {P:Program}{n b:Nat}
theorem BW{s:S}{fr:Nat}{o:cz}{K:V->List (Nat×ab)->List Nat->Prop}{KX:V->List Nat->List Nat->Prop}(h:AQ P s fr o K KX):(∃v Δ rd,xO P s fr o.op v Δ rd/\K v Δ rd)\/(∃v ws rd,BN P s o.op v ws rd/\KX v ws rd):=by
 have hs:∀ {op:Op},o.op=op->(match gN P s fr op with|some (v,Δ,_)=>K v Δ (pI s o.op)|none=>False)->(∃v Δ rd,xO P s fr o.op v Δ rd/\K v Δ rd):=by
  intro op fA h
  split at h
  ·rename_i v Δ rd he;exact⟨v,Δ,_, .inl ⟨⟨rd,by rw[fA];exact he⟩,rfl⟩,h⟩
  ·exact h.elim
 unfold AQ at h
 split at h
 ·rename_i c hc
  split at h
  ·rename_i f eV
   split at h
   ·rename_i g first cap hf
    split at h
    ·rename_i ds fe
     rcases h with(⟨rs,hP,h|⟨pK,h⟩⟩|⟨x,hP,pK,h⟩|⟨v,hP,h⟩)|⟨rd,Δ,mS,⟨rs,hH,h⟩|⟨x,hH,h⟩|⟨v,hH,h⟩⟩
     ·exact .inl ⟨_,_,_, .inr ⟨c,f,g,first,cap,hc,eV,hf, .inl ⟨ds,rs,fe,hP,rfl,rfl, .inl rfl⟩⟩,h⟩
     ·exact .inl ⟨_,_,_, .inr ⟨c,f,g,first,cap,hc,eV,hf, .inl ⟨ds,rs,fe,hP,rfl,rfl, .inr ⟨pK,rfl⟩⟩⟩,h⟩
     ·exact .inr ⟨_,_,_,⟨c,f,g,first,cap,hc,eV,hf, .inl ⟨ds,x,fe,hP,pK,rfl,rfl,rfl⟩⟩,h⟩
     ·exact .inl ⟨_,_,_, .inr ⟨c,f,g,first,cap,hc,eV,hf, .inr (.inr (.inl ⟨ds,fe,hP,rfl,rfl⟩))⟩,h⟩
     ·exact .inl ⟨_,_,_, .inr ⟨c,f,g,first,cap,hc,eV,hf, .inr (.inl ⟨rs,hH,rfl,fun id aC=>by simpa using List.all_eq_true.1 mS id aC⟩)⟩,h⟩
     ·exact .inr ⟨_,_,_,⟨c,f,g,first,cap,hc,eV,hf, .inr ⟨x,Δ,hH,rfl,rfl,fun id aC=>by simpa using List.all_eq_true.1 mS id aC⟩⟩,h⟩
     ·exact .inl ⟨_,_,_, .inr ⟨c,f,g,first,cap,hc,eV,hf, .inr (.inr (.inr ⟨hH,fun id aC=>by simpa using List.all_eq_true.1 mS id aC⟩))⟩,h⟩
    ·obtain⟨rd,Δ,mS,⟨rs,hH,h⟩|⟨x,hH,h⟩|⟨v,hH,h⟩⟩:=h
     ·exact .inl ⟨_,_,_, .inr ⟨c,f,g,first,cap,hc,eV,hf, .inr (.inl ⟨rs,hH,rfl,fun id aC=>by simpa using List.all_eq_true.1 mS id aC⟩)⟩,h⟩
     ·exact .inr ⟨_,_,_,⟨c,f,g,first,cap,hc,eV,hf, .inr ⟨x,Δ,hH,rfl,rfl,fun id aC=>by simpa using List.all_eq_true.1 mS id aC⟩⟩,h⟩
     ·exact .inl ⟨_,_,_, .inr ⟨c,f,g,first,cap,hc,eV,hf, .inr (.inr (.inr ⟨hH,fun id aC=>by simpa using List.all_eq_true.1 mS id aC⟩))⟩,h⟩
   ·exact h.elim
  ·rw[hc]at h;exact .inl (hs hc (by rw[hc];exact h))
 ·exact .inl (hs rfl h)
def NQ(P:Program)(KB:List Nat->Fp->Prop)(pr:List (List Nat))(l:List cz)(fr:Nat)(s:S)(fp:Fp)(bad ws:List Nat):Prop:=
    ∃cu:List fH,cu.length=l.length/\(∀j o x,l[j]? =some o->cu[j]? =some x->Qb P (nv l cu s j) (fr+j) o x)/\
     (∀ (j:Nat),cu[j]? =some fH.eQ->∃i∈pr.getD (fp.length+j) [],i∈bad\/∃j',j'<j/\i=fp.length+j'/\cu[j']? =some .eQ)/\(∀x∈cu,x= .eQ\/x.ok=true)/\
     ∃wl,KB wl (fp++xT cu)/\(∀id∈ws,id∈wl)/\∀x∈cu,∀id∈lj x,id∈wl
theorem BX{KB:List Nat->Fp->Prop}{pr:List (List Nat)}:∀ (l:List cz) (fr:Nat) (s:S) (fp:Fp) (bad ws:List Nat),iY P KB pr l fr s fp bad ws->NQ P KB pr l fr s fp bad ws
 |[],fr,s,fp,bad,ws,h=>⟨[],rfl,fun j o x hj=>by simp at hj,fun j hj=>by simp at hj,fun x hx=>by simp at hx,ws,by simpa[xT,iY]using h,fun _ h=>h,fun x hx=>by simp at hx⟩
 |o::l,fr,s,fp,bad,ws,h=>by
  have step:∀ (x:fH) (NR Qe:List Nat),Qb P s fr o x->iY P KB pr l (fr+1) (wA o.dst x s) (fp++[(wP x,lj x)]) NR Qe->(x= .eQ\/x.ok=true)->(x= .eQ->∃i∈pr.getD fp.length [],i∈bad)->
   (∀i∈NR,i∈bad\/(i=fp.length/\x= .eQ))->(∀id∈ws,id∈Qe)->(∀id∈lj x,id∈Qe)->
   NQ P KB pr (o::l) fr s fp bad ws:=by
   intro x NR Qe bp hr hbo Hw TA NO hW
   obtain⟨cu,h1,h2,h3,h4,wl,h5,h6,h7⟩:=BX l (fr+1) _ _ NR Qe hr
   refine⟨x::cu,by simp[h1],fun j o' y hj hy=> ?_,fun j hj=> ?_,fun y hy=> ?_,wl,by simpa[xT]using h5,fun id aC=>h6 id (NO id aC),fun y hy id aC=> ?_⟩
   ·cases j with
    |zero=>exact SS
    |succ j=>
     have:=h2 j o' y la Jo
     rw[show fr+(j+1)=fr+1+j by omega]
     exact this
   ·cases j with
    |zero=>
     simp at hj
     obtain⟨i,i1,i2⟩:=Hw hj
     exact⟨i,by simpa using i1, .inl i2⟩
    |succ j=>
     obtain⟨i,i1,i2⟩:=h3 j la
     simp only[List.length_append,List.length_cons,List.length_nil]at i1 i2
     refine⟨i,by rw[show fp.length+(j+1)=fp.length+(0+1)+j by omega];exact i1, ?_⟩
     rcases i2 with i2|⟨j',j1,j2,j3⟩
     ·rcases TA i i2 with hb|⟨e1,e2⟩
      ·exact .inl hb
      ·exact .inr ⟨0,ad,ad,by simp[e2]⟩
     ·exact .inr ⟨j'+1,ad,ad,by simpa using j3⟩
   ·rcases List.mem_cons.1 hy with rfl|hy
    ·exact hbo
    ·exact h4 y hy
   ·rcases List.mem_cons.1 hy with rfl|hy
    ·exact h6 id (hW id aC)
    ·exact h7 y hy id aC
  simp only[iY]at h
  split at h
  ·rename_i hb
   obtain⟨j,hj1,Yk⟩:=List.any_eq_true.1 hb
   exact step .eQ _ _ trivial h (.inl rfl) (fun _=>⟨j,hj1,by simpa using Yk⟩) (fun i hi=>by
    rcases List.mem_append.1 hi with hi|hi
    ·exact .inl hi
    ·exact .inr ⟨by simpa using hi,rfl⟩) (fun _ h=>h) (fun id aC=>by simp[lj]at aC)
  ·have uP:eu s o.gd true->AQ P s fr o (fun v Δ rd=>iY P KB pr l (fr+1) ⟨bu s.env o.dst v,put s.o Δ,s.nx⟩ (fp++[(rd,Δ.map (·.1))]) bad (ws++Δ.map (·.1))) (fun _ _ _=>False)->NQ P KB pr (o::l) fr s fp bad ws:=fun hg h=>by
    rcases BW h with⟨v,Δ,rd,l9,h⟩|⟨v,Qe,rd,_,h⟩
    ·exact step (.val v Δ rd) bad (ws++Δ.map (·.1)) ⟨hg,l9⟩ h (.inr rfl) (fun h=>by cases h) (fun i hi=> .inl hi) (fun id aC=>List.mem_append.2 (.inl aC)) (fun id aC=>List.mem_append.2 (.inr aC))
    ·exact h.elim
   have skip:eu s o.gd false->iY P KB pr l (fr+1) ⟨bu s.env o.dst (.cp []),s.o,s.nx⟩ (fp++[([],[])]) bad ws->NQ P KB pr (o::l) fr s fp bad ws:=fun hg h=>
    step .skip bad ws hg h (.inr rfl) (fun h=>by cases h) (fun i hi=> .inl hi) (fun id aC=>aC) (fun id aC=>by simp[lj]at aC)
   split at h
   ·rename_i hg;exact uP (by rw[hg];rfl) h
   ·rename_i d want hg
    split at h
    ·rename_i c hv
     split at h
     ·rename_i e;exact uP Na h
     ·rename_i e;exact skip Na h
    ·rename_i hv;exact skip (by rw[hg];simp[eu,hv]) h
    ·exact h.elim
def Kc(P:Program)(K:S->Fp->Prop)(KP:V->List Nat->Fp->Prop)(pr:List (List Nat))(l:List cz)(fr:Nat)(s:S)(fp:Fp):Prop:=
 ∃cu:List fH,cu.length=l.length/\(∀j o x,l[j]? =some o->cu[j]? =some x->Qb P (nv l cu s j) (fr+j) o x)/\
  (((∀x∈cu,x.ok=true)/\K (nv l cu s l.length) (fp++xT cu))\/
   ∃v wl,(∀ (j:Nat) (v':V) (ws rd:List Nat),cu[j]? =some (fH.bU v' ws rd)->v'=v/\∀id∈ws,id∈wl)/\(∃x∈cu,x.ok=false)/\
    (∀ (j:Nat),cu[j]? =some fH.eQ->∃i∈pr.getD (fp.length+j) [],∃j',i=fp.length+j'/\∃y,cu[j']? =some y/\y.ok=false)/\KP v wl (fp++xT cu)/\(∀x∈cu,∀id∈lj x,id∈wl)/\∀id∈fp.flatMap (·.2),id∈wl)
theorem uQ{K:S->Fp->Prop}{KP:V->List Nat->Fp->Prop}{pr:List (List Nat)}:∀ (l:List cz) (fr:Nat) (s:S) (fp:Fp),lq P K KP pr l fr s fp->Kc P K KP pr l fr s fp
 |[],fr,s,fp,h=>⟨[],rfl,fun j o x hj=>by simp at hj, .inl ⟨fun x hx=>by simp at hx,by simpa[nv,xT,lq]using h⟩⟩
 |o::l,fr,s,fp,h=>by
  have step:∀ (x:fH),x.ok=true->Qb P s fr o x->lq P K KP pr l (fr+1) (wA o.dst x s) (fp++[(wP x,lj x)])->Kc P K KP pr (o::l) fr s fp:=by
   intro x Qf bp hr
   obtain⟨cu,h1,h2,h3⟩:=uQ l (fr+1) _ _ hr
   refine⟨x::cu,by simp[h1],fun j o' y hj hy=> ?_, ?_⟩
   ·cases j with
    |zero=>exact SS
    |succ j=>
     have:=h2 j o' y la Jo
     rw[show fr+(j+1)=fr+1+j by omega]
     exact this
   ·rcases h3 with⟨h3,h4⟩|⟨v,wl,g1,g2,g3,g4,g5,g6⟩
    ·left
     refine⟨fun y hy=> ?_,by simpa[nv,xT]using h4⟩
     rcases List.mem_cons.1 hy with rfl|hy
     ·exact Qf
     ·exact h3 y hy
    ·right
     refine⟨v,wl,fun j v' ws rd hj=> ?_, ?_,fun j hj=> ?_,by simpa[xT]using g4,fun y hy id aC=> ?_,fun id aC=>g6 id (by simp only[List.flatMap_append,List.mem_append];exact .inl aC)⟩
     ·cases j with
      |zero=>simp at hj;rw[hj]at Qf;cases Qf
      |succ j=>exact g1 j v' ws rd la
     ·obtain⟨y,y1,y2⟩:=g2;exact⟨y,by simp[y1],y2⟩
     ·cases j with
      |zero=>simp at hj;rw[hj]at Qf;cases Qf
      |succ j=>
       obtain⟨i,i1,j',i2,y,i3,i4⟩:=g3 j la
       simp only[List.length_append,List.length_cons,List.length_nil]at i1 i2
       exact⟨i,by rw[show fp.length+(j+1)=fp.length+(0+1)+j by omega];exact i1,j'+1,ad,y,by simpa using i3,i4⟩
     ·rcases List.mem_cons.1 hy with rfl|hy
      ·exact g6 id (by simp only[List.flatMap_append,List.mem_append];exact .inr (by simpa using aC))
      ·exact g5 y hy id aC
  have bU:∀ (v:V) (ws rd:List Nat),Qb P s fr o (.bU v ws rd)->iY P (KP v) pr l (fr+1) ⟨bu s.env o.dst .aa,s.o,s.nx⟩ (fp++[(rd,[])]) [fp.length] (ws++fp.flatMap (·.2))->Kc P K KP pr (o::l) fr s fp:=by
   intro v ws rd bp hr
   obtain⟨cu,h1,h2,h3,h4,wl,h5,h6,h7⟩:=BX l (fr+1) _ _ _ _ hr
   refine⟨fH.bU v ws rd::cu,by simp[h1],fun j o' y hj hy=> ?_, .inr ⟨v,wl,fun j v' Qe tu hj=> ?_,⟨fH.bU v ws rd,aj,rfl⟩,fun j hj=> ?_,by simpa[xT,wP,lj]using h5,fun y hy id aC=> ?_,fun id aC=>h6 id (List.mem_append.2 (.inr aC))⟩⟩
   ·cases j with
    |zero=>exact SS
    |succ j=>
     have:=h2 j o' y la Jo
     rw[show fr+(j+1)=fr+1+j by omega]
     exact this
   ·cases j with
    |zero=>simp at hj;obtain⟨rfl,rfl,rfl⟩:=hj;exact⟨rfl,fun id aC=>h6 id (List.mem_append.2 (.inl aC))⟩
    |succ j=>
     have hm:=List.mem_of_getElem? (show cu[j]? =some (.bU v' Qe tu) by simpa using hj)
     rcases h4 _ hm with h|h<;>cases h
   ·cases j with
    |zero=>simp at hj
    |succ j=>
     obtain⟨i,i1,i2⟩:=h3 j la
     simp only[List.length_append,List.length_cons,List.length_nil]at i1 i2
     refine⟨i,by rw[show fp.length+(j+1)=fp.length+(0+1)+j by omega];exact i1, ?_⟩
     rcases i2 with i2|⟨j',j1,j2,j3⟩
     ·exact⟨0,by simpa using i2,_,rfl,rfl⟩
     ·exact⟨j'+1,ad, .eQ,by simpa using j3,rfl⟩
   ·rcases List.mem_cons.1 hy with rfl|hy
    ·simp[lj]at aC
    ·exact h7 y hy id aC
  have uP:eu s o.gd true->AQ P s fr o (fun v Δ rd=>lq P K KP pr l (fr+1) ⟨bu s.env o.dst v,put s.o Δ,s.nx⟩ (fp++[(rd,Δ.map (·.1))]))
   (fun v ws rd=>iY P (KP v) pr l (fr+1) ⟨bu s.env o.dst .aa,s.o,s.nx⟩ (fp++[(rd,[])]) [fp.length] (ws++fp.flatMap (·.2)))->Kc P K KP pr (o::l) fr s fp:=fun hg h=>by
   rcases BW h with⟨v,Δ,rd,l9,h⟩|⟨v,ws,rd,l9,h⟩
   ·exact step (.val v Δ rd) rfl ⟨hg,l9⟩ h
   ·exact bU v ws rd ⟨hg,l9⟩ h
  have skip:eu s o.gd false->lq P K KP pr l (fr+1) ⟨bu s.env o.dst (.cp []),s.o,s.nx⟩ (fp++[([],[])])->Kc P K KP pr (o::l) fr s fp:=fun hg h=>step .skip rfl hg h
  simp only[lq]at h
  split at h
  ·rename_i hg;exact uP (by rw[hg];rfl) h
  ·rename_i d want hg
   split at h
   ·rename_i c hv
    split at h
    ·rename_i e;exact uP Na h
    ·rename_i e;exact skip Na h
   ·rename_i hv;exact skip (by rw[hg];simp[eu,hv]) h
   ·exact h.elim
end
end Go.Proofs.YtonbelhklnmjnaaGreat
namespace Go.Proofs.YtonbelhklnmjnaaGreat
def nw(env:Nat->V):List Nat->List V->Nat->V
 |t::ps,v::vs=>nw (aM env t v) ps vs
 |_,_=>env
def Kd(pr:List (List Nat))(m:Nat):Bool:=(List.range pr.length).all fun k=>Nat.blt k m||Nat.beq ((eI pr []).getD k 0) (2^k - 1)
def Ke(P:Program)(l:List cz)(pr:List (List Nat))(Q:fS->S->Prop)(s:S):Prop:=
 ∃m,m<=l.length/\Kd pr m=true/\lq P (fun s' fp=>iO pr fp=true/\pk P (fun v s=>Q (.bU v) s) (Q .normal) (l.drop m) ⟨s'.env,s'.o,s.nx+m⟩) (fun _ _ _=>False) pr (l.take m) s.nx s []
def tP(P:Program)(n b:Nat)(rd:Bool):IC->(fS->S->Prop)->S->Prop
 | .skip,Q,s=>Q .normal s
 | .ag l,Q,s=>pk P (fun v s=>Q (.bU v) s) (Q .normal) l s
 | .eX l pr,Q,s=>lq P (Eg pr (s.nx+l.length) Q) (BV pr l s Q) pr l s.nx s []\/Ke P l pr Q s
 | .seq x y,Q,s=>tP P n b rd x (qg (tP P n b rd y Q) Q) s
 | .cond c x y,Q,s=>match s.ev c with
   | .d (.bool t)=>qt t (tP P n b rd x Q s) (tP P n b rd y Q s)
   | .fh=>tP P n b rd x Q s/\tP P n b rd y Q s
   |_=>False
 | .block id x,Q,s=>tP P n b rd x (fT id Q) s
 | .loop x,Q,s=>J5 b (tP P n b rd x) Q s
 | .exit id,Q,s=>Q (.exit id) s
 | .ret,Q,s=>Q .ret s
 | .GX g ps x y,Q,s=>rd=false/\Yv P n b g ps x y Q s
 | .bad,_,_=>False
section
variable {P:Program}{n b:Nat}{rd:Bool}
theorem uR:∀ (l:List cz) (cu:List fH) (s:S) (k:Nat) (o:cz) (x:fH),l[k]? =some o->cu[k]? =some x->nv l cu s (k+1)=wA o.dst x (nv l cu s k)
 |[],_,_,_,_,_,h,_=>by simp at h
 |o::l,[],_,_,_,_,_,h=>by simp at h
 |o::l,x::xs,s,0,o',x',h,h'=>by simp at h h';subst h;subst h';cases l<;>cases xs<;>rfl
 |o::l,x::xs,s,k+1,o',x',h,h'=>by
  simp only[nv]
  exact uR l xs _ k o' x' GV (by simpa using h')
theorem xU(l:List cz)(cu:List fH)(s:S)(hl:cu.length=l.length):∀k,k<=l.length->eY (cj l) (fun i=>cu.getD i default) (fun _=>true) s k=nv l cu s k:=by
 intro k
 induction k with
 |zero=>intro _;cases l<;>cases cu<;>rfl
 |succ k ih=>
  intro hk
  have h1:l[k]? =some (cj l k):=by simp[cj,List.getD_eq_getElem?_getD,List.getElem?_eq_getElem (by omega:k<l.length)]
  have h2:cu[k]? =some (cu.getD k default):=by simp[List.getD_eq_getElem?_getD,List.getElem?_eq_getElem (by omega:k<cu.length)]
  simp only[eY,if_true,ih (by omega)]
  rw[uR l cu s k _ _ h1 h2]
theorem ny{ops:Array Oper}:∀ (l:List Oper) (l':List cz),lB n ops l=some l'->l'.length=l.length
 |[],_,h=>by simp[lB]at h;subst h;rfl
 |o::l,l',h=>by
  simp only[lB]at h
  split at h
  ·rename_i hx;injection h with h;subst h;simp[ny l _ hx]
  ·cases h
theorem HB(bD:P.follows .mixedOrders=true){id:Nat}{ops:Array Oper}{l:List cz}{Q Q':fS->S->Prop}{s:S}(hQ:∀e s,Q e s->Q' e s)(rM:lB n ops ops.toList=some l)(ht:yZ l (iu ops)=true)
 (hp:Tf (iu ops)=true) (h:lq P (Eg (iu ops) (s.nx+l.length) Q) (BV (iu ops) l s Q) (iu ops) l s.nx s []):jL P n b rd (.region id ops true) Q' s:=by
 intro M cT H0 w0 cx φ a w ro k hs
 obtain⟨cu,hl,bp,kq⟩:=uQ l _ _ _ h
 have hlen:l.length=ops.size:=by rw[ny _ _ rM];simp
 have tL:∀k,k<ops.size->(iu ops).getD k []=bN ops k:=by
  intro k hk;simp[iu,List.getD_eq_getElem?_getD,List.getElem?_map,List.getElem?_range hk]
 have Dz:(iu ops).length=ops.size:=by simp[iu]
 have l9:=xU l cu s hl
 have GL:∀k,k<ops.size->l[k]? =some (cj l k):=fun k hk=>by simp[cj,List.getD_eq_getElem?_getD,List.getElem?_eq_getElem (by omega:k<l.length)]
 have ug:∀k,k<ops.size->cu[k]? =some (cu.getD k default):=fun k hk=>by simp[List.getD_eq_getElem?_getD,List.getElem?_eq_getElem (by omega:k<cu.length)]
 have rF:∀k,k<ops.size->cu.getD k default∈cu:=fun k hk=>List.mem_of_getElem? (ug k hk)
 have NA:∀k,k<ops.size->(xT cu)[k]? =some (wP (cu.getD k default),lj (cu.getD k default)):=fun k hk=>by
  simp only[xT,List.getElem?_map,ug k hk,Option.map_some]
 have TC:(xT cu).length=ops.size:=by simp[xT,hl,hlen]
 simp only[List.nil_append,List.length_nil,Nat.zero_add]at kq
 have uu:iO (iu ops) (xT cu)=true:=by
  rcases kq with⟨_,h⟩|⟨v,wl,_,_,_,h,_⟩
  ·exact h.1
  ·exact h.1
 have HC:∀k,k<ops.size->∀j∈bN ops k,j<k:=fun k hk j hj=>by
  have:=List.all_eq_true.1 hp k (by simpa[Dz]using hk)
  rw[tL k hk]at this
  simpa using List.all_eq_true.1 this j hj
 have Kg:∀k,k<(iu ops).length->∀j∈(iu ops).getD k [],j<k:=fun k hk j hj=>by
  rw[Dz]at hk;rw[tL k hk]at hj;exact HC k hk j hj
 let po:Nat->Nat->Prop:=fun k j=>((eI (iu ops) []).getD k 0).testBit j=true
 have Fx:∀E:Nat->Bool,(∀k,k<ops.size->E k=true->∀j∈bN ops k,E j=true)->∀k,k<ops.size->(∀j∈bN ops k,E j=true)->∀j,po k j->E j=true:=fun E hE k hk hj j hb=>
  pP Kg (fun k hk fU j hj=>by rw[Dz]at hk;rw[tL k hk]at hj;exact hE k hk fU j hj) k Ni (by rw[tL k hk];exact hj) j hb
 have BT:∀k,k<ops.size->∀j,po k j->j<k:=fun k hk j hb=>A1 Kg k Ni j hb
 have zP:∀i j,i<j->j<ops.size-> ¬po j i->Compat (cj l) (fun i=>cu.getD i default) (fun i=>wP (cu.getD i default)) i j:=by
  intro i j hij hj hn
  have Bq:=List.all_eq_true.1 (List.all_eq_true.1 ht j (by simpa[hlen]using hj)) i Nj
  have xK:=List.all_eq_true.1 (List.all_eq_true.1 uu j (by simpa[TC]using hj)) i Nj
  have hnc:((eI (iu ops) []).getD j 0).testBit i=false:=by simpa[po]using hn
  rw[hnc,Bool.false_or]at Bq xK
  simp only[Bool.and_eq_true]at Bq xK
  have gi:=NA i ad
  have gj:=NA j hj
  simp only[List.getD_eq_getElem?_getD (l:=xT cu),gi,gj,Option.getD_some]at xK
  have dj:∀ {xs ys:List Nat},mV xs ys=true->∀x∈xs,x∉ys:=fun h x hx=>by simpa using List.all_eq_true.1 h x hx
  have fo:∀ {x y:cz},rk x y=true->∀d,x.dst=some d->d∉fC y:=fun h d hd=>by simpa[rk,hd]using h
  exact⟨fo Bq.1,fo Bq.2,fun id aC=>⟨dj xK.1.1 id aC,dj xK.1.2 id aC⟩,fun id aC=>dj xK.2 id aC⟩
 have Qg:∀i,i<ops.size->Qb P (eY (cj l) (fun i=>cu.getD i default) (fun _=>true) s i) (s.nx+i) (cj l i) (cu.getD i default):=fun i hi=>by
  rw[l9 i (by omega)];exact bp i _ _ (GL i hi) (ug i hi)
 have db:∀i,i<ops.size->∀t,(cj l i).dst=some t->(dstsOf l).contains t=true:=fun i hi t ht=>by
  simp only[List.contains_iff_mem,dstsOf,List.mem_filterMap]
  exact⟨cj l i,List.mem_of_getElem? (GL i hi),ht⟩
 rcases kq with⟨bA,kq⟩|⟨v,wl,q1,q2,q3,q4,q5,q6⟩
 ·refine BS (ac:=fun i=>cu.getD i default) (dl:=dstsOf l) (wl:=(cu.flatMap lj)) bD rM HC hs Qg (fun i hi hb=> ?_) Fx BT zP db (fun i hi id aC=> ?_) (fun i v ws tu hi hb=> ?_) (fun _ φ a w iK=> ?_) (fun i v ws tu hi hb=> ?_)
  ·have:=bA _ (rF i hi);rw[hb]at this;cases this
  ·simp only[List.contains_iff_mem,List.mem_flatMap];exact⟨_,rF i hi,aC⟩
  ·have:=bA _ (rF i hi);rw[hb]at this;cases this
  ·rw[l9 ops.size (by omega), <- hlen]at iK
   exact⟨.normal,_,φ,hQ _ _ kq.2,iK,trivial⟩
  ·have:=bA _ (rF i hi);rw[hb]at this;cases this
 ·refine BS (ac:=fun i=>cu.getD i default) (dl:=dstsOf l) (wl:=wl) bD rM HC hs Qg (fun i hi hb=> ?_) Fx BT zP db (fun i hi id aC=> ?_) (fun i v' ws tu hi hb=> ?_) (fun bA φ a w iK=> ?_) (fun i v' ws tu hi hb φ a w val iK hd=> ?_)
  ·obtain⟨j,j1,j',e,y,j3,j4⟩:=q3 i SX
   rw[tL i hi,e]at j1
   refine⟨j',j1, ?_⟩
   simp only[List.getD_eq_getElem?_getD,j3,Option.getD_some,j4]
  ·simp only[List.contains_iff_mem];exact q5 _ (rF i hi) id aC
  ·intro id aC
   simp only[List.contains_iff_mem]
   exact(q1 i v' ws tu SX).2 id aC
  ·obtain⟨x,x1,x2⟩:=q2
   obtain⟨i,Nt,Ti⟩:=List.getElem_of_mem x1
   have hi:i<ops.size:=ad
   have:=bA i hi
   have e:cu.getD i default=x:=by simp[List.getD_eq_getElem?_getD,List.getElem?_eq_getElem Nt,Ti]
   rw[e,x2]at this;cases this
  ·have e:=(q1 i v' ws tu SX).1
   subst e
   rw[<- hlen]at iK hd
   exact⟨.bU v',_,φ,hQ _ _ q4.2,iK,val,rfl,hd⟩
theorem xV{ops:Array Oper}:∀ (l:List Oper) (l':List cz) (m:Nat),lB n ops l=some l'->lB n ops (l.drop m)=some (l'.drop m)
 |l,l',0,h=>h
 |[],l',m+1,h=>by simp[lB]at h;subst h;simp[lB]
 |o::l,l',m+1,h=>by
  simp only[lB]at h
  split at h
  ·rename_i x xs hx DH
   injection h with h;subst h
   exact xV l xs m DH
  ·cases h
theorem Kh{l:List cz}{ac:Nat->fH}{E:Nat->Bool}{s:S}{m:Nat}:∀k,k<=m->eY (cj l) ac E s k=eY (cj (l.take m)) ac E s k:=by
 intro k
 induction k with
 |zero=>intro _;rfl
 |succ k ih=>
  intro hk
  have:cj l k=cj (l.take m) k:=by simp[cj,List.getD_eq_getElem?_getD,List.getElem?_take,(by omega:k<m)]
  simp only[eY,ih (by omega),this]
theorem Eh(bD:P.follows .mixedOrders=true){id:Nat}{ops:Array Oper}{l:List cz}{Q Q':fS->S->Prop}{s:S}(hQ:∀e s,Q e s->Q' e s)(rM:lB n ops ops.toList=some l)(ht:yZ l (iu ops)=true)
 (hp:Tf (iu ops)=true) (h:Ke P l (iu ops) Q s):jL P n b rd (.region id ops true) Q' s:=by
 intro M cT H0 w0 cx φ a w ro k hs
 obtain⟨m,NC,hto,h⟩:=h
 obtain⟨cu,hl,bp,kq⟩:=uQ (l.take m) _ _ _ h
 have hlm:(l.take m).length=m:=by rw[List.length_take];omega
 have hlen:l.length=ops.size:=by rw[ny _ _ rM];simp
 have kq:=kq.resolve_right (fun⟨_,_,_,_,_,q4,_,_⟩=>q4)
 obtain⟨bA,kq⟩:=kq
 have Tq:cu.length=m:=ad
 have tL:∀k,k<ops.size->(iu ops).getD k []=bN ops k:=by
  intro k hk;simp[iu,List.getD_eq_getElem?_getD,List.getElem?_map,List.getElem?_range hk]
 have Dz:(iu ops).length=ops.size:=by simp[iu]
 have l9:∀k,k<=m->eY (cj l) (fun i=>cu.getD i default) (fun _=>true) s k=nv (l.take m) cu s k:=fun k hk=>by
  rw[Kh k hk];exact xU (l.take m) cu s hl k ad
 have GL:∀k,k<m->(l.take m)[k]? =some (cj l k):=fun k hk=>by
  rw[List.getElem?_take,if_pos hk]
  simp[cj,List.getD_eq_getElem?_getD,List.getElem?_eq_getElem (by omega:k<l.length)]
 have ug:∀k,k<m->cu[k]? =some (cu.getD k default):=fun k hk=>by simp[List.getD_eq_getElem?_getD,List.getElem?_eq_getElem (by omega:k<cu.length)]
 have rF:∀k,k<m->cu.getD k default∈cu:=fun k hk=>List.mem_of_getElem? (ug k hk)
 have NA:∀k,k<m->(xT cu)[k]? =some (wP (cu.getD k default),lj (cu.getD k default)):=fun k hk=>by
  simp only[xT,List.getElem?_map,ug k hk,Option.map_some]
 have TC:(xT cu).length=m:=by simp[xT,Tq]
 simp only[List.nil_append]at kq
 obtain⟨uu,NS⟩:=kq
 have HC:∀k,k<ops.size->∀j∈bN ops k,j<k:=fun k hk j hj=>by
  have:=List.all_eq_true.1 hp k (by simpa[Dz]using hk)
  rw[tL k hk]at this
  simpa using List.all_eq_true.1 this j hj
 have Kg:∀k,k<(iu ops).length->∀j∈(iu ops).getD k [],j<k:=fun k hk j hj=>by
  rw[Dz]at hk;rw[tL k hk]at hj;exact HC k hk j hj
 let po:Nat->Nat->Prop:=fun k j=>((eI (iu ops) []).getD k 0).testBit j=true
 have Fx:∀E:Nat->Bool,(∀k,k<ops.size->E k=true->∀j∈bN ops k,E j=true)->∀k,k<ops.size->(∀j∈bN ops k,E j=true)->∀j,po k j->E j=true:=fun E hE k hk hj j hb=>
  pP Kg (fun k hk fU j hj=>by rw[Dz]at hk;rw[tL k hk]at hj;exact hE k hk fU j hj) k Ni (by rw[tL k hk];exact hj) j hb
 have BT:∀k,k<ops.size->∀j,po k j->j<k:=fun k hk j hb=>A1 Kg k Ni j hb
 have zP:∀i j,i<j->j<m-> ¬po j i->Compat (cj l) (fun i=>cu.getD i default) (fun i=>wP (cu.getD i default)) i j:=by
  intro i j hij hj hn
  have Bq:=List.all_eq_true.1 (List.all_eq_true.1 ht j AZ) i Nj
  have xK:=List.all_eq_true.1 (List.all_eq_true.1 uu j (by simpa[TC]using hj)) i Nj
  have hnc:((eI (iu ops) []).getD j 0).testBit i=false:=by simpa[po]using hn
  rw[hnc,Bool.false_or]at Bq xK
  simp only[Bool.and_eq_true]at Bq xK
  have gi:=NA i ad
  have gj:=NA j hj
  simp only[List.getD_eq_getElem?_getD (l:=xT cu),gi,gj,Option.getD_some]at xK
  have dj:∀ {xs ys:List Nat},mV xs ys=true->∀x∈xs,x∉ys:=fun h x hx=>by simpa using List.all_eq_true.1 h x hx
  have fo:∀ {x y:cz},rk x y=true->∀d,x.dst=some d->d∉fC y:=fun h d hd=>by simpa[rk,hd]using h
  exact⟨fo Bq.1,fo Bq.2,fun id aC=>⟨dj xK.1.1 id aC,dj xK.1.2 id aC⟩,fun id aC=>dj xK.2 id aC⟩
 have htl:∀k,m<=k->k<ops.size->∀j,j<k->po k j:=fun k hmk hk j hj=>by
  have:=List.all_eq_true.1 hto k (by simpa[Dz]using hk)
  simp only[Bool.or_eq_true]at this
  rcases this with this|this
  ·exact absurd (Nat.blt_eq.mp this) ad
  ·show((eI (iu ops) []).getD k 0).testBit j=true
   rw[Nat.eq_of_beq_eq_true this,Nat.testBit_two_pow_sub_one]
   exact decide_eq_true hj
 refine Ee (ac:=fun i=>cu.getD i default) (m:=m) (X:=fun v s=>Q' (.bU v) s) (K:=Q' .normal) bD rM HC ad hs (fun i hi=> ?_) (fun i hi=>bA _ (rF i hi)) Fx BT zP htl ?_ (fun s φ a w hk iK=>⟨.normal,s,φ,hk,iK,trivial⟩) (fun v s' aQ a' w' val hx iK hd=>⟨.bU v,s',aQ,hx,iK,val,rfl,hd⟩)
 ·rw[l9 i (by omega)];exact bp i _ _ (GL i hi) (ug i hi)
 ·rw[l9 m (Nat.le_refl _)]
  rw[hlm]at NS
  exact jW (fun s hs=>hQ _ _ hs) (fun v s hs=>hQ _ _ hs) _ _ _ (xV _ _ m rM) NS
theorem rN{g:V}{ps:List Nat}{x y:IC}{Q Q':fS->S->Prop}{s:S}(hQ:∀e s,Q e s->Q' e s)(h:BE P n g ps x y Q s):BE P n g ps x y Q' s:=by
 obtain⟨env,h1,h2⟩:=h
 refine⟨env,h1, ?_⟩
 split at h2
 ·refine nk.mono (fun v o n h=> ?_) (fun v o n h=>hQ _ _ h) h2
  obtain⟨nf,m,e,p,c,d,st,pd,k1,k2,k3⟩:=h
  refine⟨nf,m,e,p,c,d,st,pd,k1,k2, ?_⟩
  cases pd with
  |none=>exact hQ _ _ k3
  |some j=>cases j<;>exact hQ _ _ k3
 ·exact h2
theorem iZ(bD:P.follows .mixedOrders=true):∀ (c:Code) (Q Q':fS->S->Prop) (s:S),(∀e s,Q e s->Q' e s)->tP P n b rd (low n c) Q s->jL P n b rd c Q' s:=by
 intro c
 induction c with
 |skip=>exact fun Q Q' s hQ h=>hQ _ _ h
 |scope x ih=>exact fun Q Q' s hQ h=>ih Q Q' s hQ h
 |label l=>exact fun Q Q' s hQ h=>hQ _ _ h
 |exit id=>exact fun Q Q' s hQ h=>hQ _ _ h
 |ret=>exact fun Q Q' s hQ h=>hQ _ _ h
 |goto l=>exact fun Q Q' s hQ h=>h.elim
 |refuse y=>exact fun Q Q' s hQ h=>h.elim
 |rangeFunc f p x y=>
  intro Q Q' s hQ h
  obtain⟨h1,s',hle,h2⟩:=h
  exact⟨h1,s',hle,rN hQ h2⟩
 |region id ops draw=>
  intro Q Q' s hQ h
  cases draw with
  |true=>
   simp only[low]at h
   split at h
   ·rename_i l hl
    split at h
    ·rename_i hc
     simp only[Bool.and_eq_true]at hc
     rcases h with h|h
     ·exact HB bD hQ hl hc.1 hc.2 h
     ·exact Eh bD hQ hl hc.1 hc.2 h
    ·exact h.elim
   ·exact h.elim
  |false=>
   simp only[low]at h
   split at h
   ·rename_i l hl;exact jW (fun s hs=>hQ _ _ hs) (fun v s hs=>hQ _ _ hs) _ l s hl h
   ·exact h.elim
 |seq x y NL NM=>
  intro Q Q' s hQ h
  refine NL _ _ s (fun e s he=> ?_) h
  cases e<;>first|exact NM Q Q' s hQ he|exact hQ _ _ he
 |cond c x y NL NM=>
  intro Q Q' s hQ h
  simp only[low,tP]at h
  simp only[jL]
  split at h
  ·rename_i t hc
   simp only[hc]
   exact⟨fun ht=>NL Q Q' s hQ (h.1 ht),fun ht=>NM Q Q' s hQ (h.2 ht)⟩
  ·rename_i hc
   simp only[hc]
   exact⟨NL Q Q' s hQ h.1,NM Q Q' s hQ h.2⟩
  ·exact h.elim
 |block id x ih=>
  intro Q Q' s hQ h
  refine ih _ _ s (fun e s he=> ?_) h
  cases e<;>simp only[fT]at he|- <;>first
   |exact hQ _ _ he
   |(split at he<;>rename_i e
     ·rw[if_pos e];exact hQ _ _ he
     ·rw[if_neg e];exact hQ _ _ he)
 |loop x ih=>
  intro Q Q' s hQ h
  obtain⟨J,h0,hr⟩:=h
  refine⟨J,h0,fun m s0 hJ=>ih _ _ s0 (fun e s he=> ?_) (hr m s0 hJ)⟩
  cases e<;>first|exact hQ _ _ he|exact he
structure aF (P:Program) (f:FuncId) (n:Nat) (ic:IC) (rs:List ResultVar):Prop where
 get:∃fn,P.funcs[f]? =some fn/\(fn.name== "runtime.NumGoroutine")=false/\fn.ntmps=n/\fn.results.toList=rs/\∃c,fn.body=some c/\low n c=ic
theorem cO.uS (bD:P.follows .mixedOrders=true){f:FuncId}{ic:IC}{rs:List ResultVar}(hf:aF P f n ic rs){args:List V}{o:Nat->ab}{nx:Nat}{K X:V->(Nat->ab)->Nat->Prop}(hl:args.length<=n)(h:tP P n nx false ic (mi P rs K X) ⟨cF args,o,nx⟩):cO P f args o nx K X:=by
 obtain⟨fn,h1,h2,rfl,rfl,c,h3,rfl⟩:=hf.get
 exact cO.Fo h1 h2 h3 hl (iZ bD c _ _ _ (fun _ _ h=>h) h)
theorem a8.uS (bD:P.follows .mixedOrders=true){f:FuncId}{ic:IC}{rs:List ResultVar}(hf:aF P f n ic rs){ds:List D}{out:R}(hl:ds.length<=n)(h:tP P n 0 false ic (DV P rs out) ⟨cF (ds.map .d),fun _=> .no,0⟩):a8 P f ds out:=by
 obtain⟨fn,h1,h2,rfl,rfl,c,h3,rfl⟩:=hf.get
 exact a8.mj (cO.Fo h1 h2 h3 (by simpa using hl) (iZ bD c _ _ _ (fun e s h=>Hq e s h) h))
end
end Go.Proofs.YtonbelhklnmjnaaGreat
namespace Go.Proofs.YtonbelhklnmjnaaGreat
abbrev Fix(α:Type){β:Type}(_:β):Type:=α
def kW(K:V->List (Nat×ab)->Prop)(x:Fix (Option gL) K):Prop:=match x with|some (v,Δ,_)=>K v Δ|none=>False
@[go_sem] theorem Ei {v:V} {Δ:List (Nat×ab)} {rd:List Nat} {K}:kW K (some (v,Δ,rd))=K v Δ:=propext Iff.rfl
@[go_sem] theorem TD {K}:kW K none=False:=propext Iff.rfl
def V.zQ (c:Bool)(v:V):V:=if c=true then v else .cp []
@[go_sem] theorem YG (b:Bool):(!!b)=b:=aj
attribute [go_sem] true_or or_true false_or ne_eq not_false_eq_true decide_true decide_false Bool.not_true Bool.not_false Bool.and_true Bool.true_and Bool.and_false Bool.false_and Bool.or_true Bool.true_or Bool.or_false Bool.false_or beq_self_eq_true Bool.true_eq_false Bool.false_eq_true not_true_eq_false and_true true_and and_false false_and eq_self
@[go_sem] theorem V.YH (v:V):V.zQ true v=v:=rfl
@[go_sem] theorem V.W5 (v:V):V.zQ false v= .cp []:=rfl
def mE(c:Bool)(p:Prop):Prop:=c=true->p
@[congr] theorem Qh {c c':Bool} {p p':Prop} (h:c=c') (h2:c'=true->p=p'):mE c p=mE c' p':=by
  subst h;cases c
  ·simp[mE]
  ·simp[mE,h2 rfl]
@[go_sem] theorem TE (p:Prop):mE true p=p:=by simp[mE]
@[go_sem] theorem Qi (p:Prop):mE false p=True:=by simp[mE]
@[go_sem] theorem TF (a:Bool):mE a True=True:=by simp[mE]
def mF(v:V)(want:Bool):Option Bool:=
 match v with
 | .d (.bool b)=>some (b==want)
 | .cp []=>some false
 |_=>none
@[go_sem] theorem TG (b:Bool):mF (.d (.bool b)) true=some b:=by simp[mF]
@[go_sem] theorem Qj (b:Bool):mF (.d (.bool b)) false=some (!b):=by simp[mF]
@[go_sem] theorem YI (want:Bool):mF (.cp []) want=some false:=rfl
@[go_sem] theorem W6 (c b want:Bool):mF (V.zQ c (.d (.bool b))) want=some (c&&(b==want)):=by cases c<;>simp[mF,V.zQ]
@[go_sem] theorem TH (c b e want:Bool):mF (V.zQ c (V.zQ e (.d (.bool b)))) want=some (c&&e&&(b==want)):=by cases c<;>cases e<;>simp[mF,V.zQ]
def lr(c:Bool)(x:Option gL):Option gL:=
 if c=true then(match x with|some (v,[],_)=>some (v,[],[])|_=>none)else some (.cp [],[],[])
@[congr] theorem NT {c c':Bool} {x x':Option gL} (h:c=c') (h2:c'=true->x=x'):lr c x=lr c' x':=by
  subst h;cases c
  ·rfl
  ·simp[lr,h2 rfl]
def W7(v:V)(rd:List Nat):Option gL:=some (v,[],rd)
@[go_sem] theorem ab7 (v:V) (rd:List Nat):(some (v,[],rd):Option gL)=W7 v rd:=by unfold W7;exact Eq.trans rfl rfl
@[go_sem] theorem TI (c:Bool) (v:V) (rd:List Nat):lr c (W7 v rd)=W7 (V.zQ c v) []:=Nk
@[go_sem] theorem W8 {v:V} {rd:List Nat} {K}:kW K (W7 v rd)=K v []:=propext Iff.rfl
@[go_sem] theorem Qk (c:Bool) (v:V) (rd:List Nat):lr c (some (v,[],rd))=some (V.zQ c v,[],[]):=Nk
@[go_sem] theorem NU (x:Option gL):lr false x=some (.cp [],[],[]):=rfl
@[go_sem] theorem YJ (b x:Bool):qm (.d (.bool b)) (V.zQ b (.d (.bool x))) (.d (.bool false))=some (.d (.bool (b&&x))):=Jn
@[go_sem] theorem aby (b x:Bool):qm (.d (.bool b)) (.d (.bool true)) (V.zQ (!b) (.d (.bool x)))=some (.d (.bool (b||x))):=Jn
@[go_sem] theorem YK (b x:Bool):qm (.d (.bool (!b))) (.d (.bool true)) (V.zQ b (.d (.bool x)))=some (.d (.bool (!b||x))):=Jn
@[go_sem] theorem W9 (x y:V):qm (.d (.bool true)) x y=some x:=rfl
@[go_sem] theorem TJ (x y:V):qm (.d (.bool false)) x y=some y:=rfl
@[reducible] def lu:Op->Bool
  | .move _| .assign _| .pick .. | .load .. | .binOp .. | .unOp .. | .nilCheck _| .convert .. | .makeInterface .. | .makeFunc .. | .fieldAddr .. | .indexAddr .. | .extract .. | .build .. | .index .. | .field .. | .lookup .. =>true
  | .call c=>match c.callee with
    | .builtin .len=>true
    | .builtin .min=>true
    | .builtin .max=>true
    |_=>false
  |_=>false
def BZ(P:Program)(f:V)(args:List V)(o:Nat->ab)(rs:List D):Prop:=
 match f with
 | .func (.func g) first cap=>match ct o (first++args++cap)with
   |some ds=>a8 P g ds (.ret rs)/\D.ko rs=true
   |none=>False
 |_=>False
def Fz(P:Program)(f:V)(args:List V)(o:Nat->ab)(K:V->Prop)(c:Fix Bool (f,args,o,K)):Prop:=
 ∃rs,mE c (BZ P f args o rs)/\K (V.zQ c (jO rs))
def B0(P:Program)(g:FuncId)(nx:Nat)(K X:V->(Nat->ab)->Nat->Prop)(args:Fix (List V) (K,X))(o:Fix (Nat->ab) (K,X)):Prop:=sG P g args o nx K X
def sN(P:Program)(g:FuncId)(o:Nat->ab)(nx:Nat)(K X:V->(Nat->ab)->Nat->Prop)(ds:Fix (List D) (o,nx,K,X))(all:Fix (List V) (o,nx,K,X)):Prop:=
 uK P g ds o (put o (dn o (V.bF all))) (put o (rp o (V.bF all))) (fun v o'=>K v o' (nx+1)) (fun v o'=>X v o' (nx+1))\/sG P g all o nx K X
def nz(P:Program)(g:FuncId)(K X:V->(Nat->ab)->Nat->Prop)(s:S)(all:List V)(ds:Fix (Option (List D)) (K,X,s,all)):Prop:=
 match ds with
 |some ds=>sN P g s.o s.nx K X ds all
 |none=>B0 P g s.nx K X all s.o
@[go_sem] theorem Ql {P:Program} {s:S} {ds:List D} {g:FuncId} {all:List V} {K X}:
 nz P g K X s all (some ds)=sN P g s.o s.nx K X ds all:=propext Iff.rfl
def xW(P:Program)(id:Nat)(K X:V->(Nat->ab)->Nat->Prop)(s:S)(args:Fix (List V) (K,X,s)):Prop:=ec P id args s.o s.nx K X
@[go_sem] theorem Qm {P:Program} {s:S} {g:FuncId} {all:List V} {K X}:nz P g K X s all none=B0 P g s.nx K X all s.o:=propext Iff.rfl
def sO(P:Program)(K X:V->(Nat->ab)->Nat->Prop)(s:S)(f:Fix V (K,X,s))(args:Fix (List V) (K,X,s)):Prop:=
 match f with
 | .func (.func g) first cap=>nz P g K X s (first++args++cap) (ct s.o (first++args++cap))
 | .jU id=>xW P id K X s args
 |_=>False
@[go_sem] theorem Xa {P:Program} {s:S} {id:Nat} {args:List V} {K X}:sO P K X s (.jU id) args=xW P id K X s args:=propext Iff.rfl
@[go_sem] theorem TK {P:Program} {s:S} {g:FuncId} {first cap args:List V} {K X}:sO P K X s (.func (.func g) first cap) args=nz P g K X s (first++args++cap) (ct s.o (first++args++cap)):=propext Iff.rfl
def Ki(P:Program)(g:FuncId)(o:Nat->ab)(nx:Nat)(K X:V->(Nat->ab)->Nat->Prop)(ds:Fix (List D) (o,nx,K,X))(all:Fix (List V) (o,nx,K,X)):Prop:=
 uK P g ds o (put o (dn o (V.bF all))) (put o (rp o (V.bF all))) (fun v o'=>K v o' (nx+1)) (fun v o'=>X v o' (nx+1))
def B1(P:Program)(g:FuncId)(K X:V->(Nat->ab)->Nat->Prop)(s:S)(all:List V)(ds:Fix (Option (List D)) (K,X,s,all)):Prop:=
 match ds with
 |some ds=>Ki P g s.o s.nx K X ds all
 |none=>False
@[go_sem] theorem TL {P:Program} {s:S} {ds:List D} {g:FuncId} {all:List V} {K X}:B1 P g K X s all (some ds)=Ki P g s.o s.nx K X ds all:=propext Iff.rfl
def Kj(P:Program)(K X:V->(Nat->ab)->Nat->Prop)(s:S)(args:Fix (List V) (K,X,s))(r:Fix (Option (FuncId×V)) (K,X,s)):Prop:=
 match r with
 |some (g,y)=>B1 P g K X s (y::args) (ct s.o (y::args))
 |none=>False
@[go_sem] theorem Xb {P:Program} {s:S} {g:FuncId} {y:V} {args:List V} {K X}:Kj P K X s args (some (g,y))=B1 P g K X s (y::args) (ct s.o (y::args)):=propext Iff.rfl
def HD(K:V->Prop)(v:Fix V K):Prop:=
 match v with
 | .d (.iface t y)=>K (.d (.iface t y))
 | .iface t y=>K (.iface t y)
 |_=>False
@[go_sem] theorem ab8 {t:TypeId} {y:D} {K}:HD K (.d (.iface t y))=K (.d (.iface t y)):=propext Iff.rfl
@[go_sem] theorem ab9 {t:TypeId} {y:V} {K}:HD K (.iface t y)=K (.iface t y):=propext Iff.rfl
def B3(K:V->List (Nat×ab)->Prop)(id:Nat)(l:Fix (List (D×D)) (K,id)):Prop:=E9 id l fun v Δ _=>K v Δ
def Kk(K:V->List (Nat×ab)->Prop)(str:Bool)(Xc:Fix (Option gL) (K,str))(left:Fix (Option (Nat×List (D×D))) (K,str)):Prop:=
 match left with
 |some (id,l)=>str=false/\B3 K id l
 |none=>kW K Xc
@[go_sem] theorem Xd {K} {Xc:Option gL} {id:Nat} {l:List (D×D)}:Kk K false Xc (some (id,l))=B3 K id l:=propext ⟨fun h=>h.2,fun h=>⟨rfl,h⟩⟩
@[go_sem] theorem Xe {K} {str:Bool} {Xc:Option gL}:Kk K str Xc none=kW K Xc:=propext Iff.rfl
def B4(P:Program)(X:V->S->Prop)(K:S->Prop)(o:cz)(s:Fix S (X,K,o)):Prop:=
 match o.op with
 | .next x str=>Kk (fun v Δ=>K ⟨bu s.env o.dst v,put s.o Δ,s.nx+1⟩) str (oG s.o (s.ev x) str) (oH s.o (s.ev x))
 | .call c=>match c.callee with
   | .value f=>sO P (fun v o' nx'=>K ⟨bu s.env o.dst v,o',nx'⟩) (fun v o' nx'=>X v ⟨s.env,o',nx'⟩) s (s.ev f) (c.args.toList.map s.ev)
   | .invoke r m=>Kj P (fun v o' nx'=>K ⟨bu s.env o.dst v,o',nx'⟩) (fun v o' nx'=>X v ⟨s.env,o',nx'⟩) s (c.args.toList.map s.ev) (uD P m (s.ev r))
   |_=>kW (fun v Δ=>K ⟨bu s.env o.dst v,put s.o Δ,s.nx+1⟩) (gN P s s.nx o.op)
 | .panic x=>HD (fun v=>X v s) (s.ev x)
 |op=>kW (fun v Δ=>K ⟨bu s.env o.dst v,put s.o Δ,s.nx+1⟩) (gN P s s.nx op)
@[reducible] def gD:Op->Option (Operand×List Operand)
  | .call c=>match c.callee with
    | .value f=>some (f,c.args.toList)
    |_=>none
  |_=>none
def jw(A B:Prop)(t:Fix Bool (A,B)):Prop:=qt t A B
@[go_sem] theorem TM (A B:Prop):jw A B true=A:=uL A B
@[go_sem] theorem Qn (A B:Prop):jw A B false=B:=sH A B
def Ej(P:Program)(X:V->S->Prop)(K:S->Prop)(o:cz)(s:S)(f:Operand)(args:List Operand)(c:Fix Bool (X,K,o,s,f,args)):Prop:=
 Fz P (s.ev f) (args.map s.ev) s.o (fun v=>K ⟨bu s.env o.dst v,s.o,s.nx+1⟩) c\/jw (B4 P X K o s) (K ⟨bu s.env o.dst (.cp []),s.o,s.nx+1⟩) c
def zR(P:Program)(X:V->S->Prop)(K:S->Prop)(o:cz)(s:S)(c:Fix (Option Bool) (X,K,o,s)):Prop:=
 match c with
 |none=>False
 |some c=>match gD o.op with
  |some (f,args)=>Ej P X K o s f args c
  |none=>if lu o.op=true then kW (fun v _=>K ⟨bu s.env o.dst v,s.o,s.nx+1⟩) (lr c (gN P s s.nx o.op))
   else jw (B4 P X K o s) (K ⟨bu s.env o.dst (.cp []),s.o,s.nx+1⟩) c
def tz(P:Program)(X:V->S->Prop)(K:S->Prop)(l:List cz)(s:Fix S (X,K,l)):Prop:=
 match l with
 |[]=>K s
 |o::l=>match o.gd with
  |none=>B4 P X (tz P X K l) o s
  |some (d,want)=>zR P X (tz P X K l) o s (mF (s.env d) want)
def ku(want:Bool)(A B:Prop)(v:Fix V (A,B)):Prop:=
 match v with
 | .d (.bool b)=>qt (b==want) A B
 | .cp []=>B
 |_=>False
@[go_sem] theorem Qo (b:Bool) (A B:Prop):ku true A B (.d (.bool b))=jw A B b:=by simp[ku,jw]
@[go_sem] theorem NV (b:Bool) (A B:Prop):ku false A B (.d (.bool b))=jw A B (!b):=by simp[ku,jw]
@[go_sem] theorem Xf (want:Bool) (A B:Prop):ku want A B (.cp [])=B:=propext Iff.rfl
@[go_sem] theorem TN (c b want:Bool) (A B:Prop):ku want A B (V.zQ c (.d (.bool b)))=jw A B (c&&(b==want)):=by cases c<;>simp[ku,V.zQ,jw]
abbrev KD:=V->List (Nat×ab)->List Nat->Prop
abbrev XD:=V->List Nat->List Nat->Prop
def Kl(P:Program)(g:FuncId)(K:KD)(X:XD)(o:Nat->ab)(rd:List Nat)(ds:Fix (List D) (K,X,o,rd))(all:Fix (List V) (K,X,o,rd)):Prop:=
 sM P g ds (fun v=>K v (dn o (V.bF all)) rd) (fun v=>K v [] rd) (fun v=>X v [] rd)
def rO(P:Program)(g:FuncId)(K:KD)(X:XD)(o:Nat->ab)(nx fr:Nat)(all:Fix (List V) (K,X,o,nx)):Prop:=jG P g all o nx fr K X
def nA(P:Program)(g:FuncId)(K:KD)(X:XD)(o:Nat->ab)(nx fr:Nat)(rd:List Nat)(ds:Fix (List D) (K,X,o,nx,rd))(all:Fix (List V) (K,X,o,nx,rd)):Prop:=Kl P g K X o rd ds all\/rO P g K X o nx fr all
def rP(P:Program)(K:KD)(X:XD)(o:Nat->ab)(nx fr:Nat)(rd:List Nat)(g:FuncId)(all:List V)(ds:Fix (Option (List D)) (K,X,o,nx,rd,all)):Prop:=
 match ds with
 |some ds=>nA P g K X o nx fr rd ds all
 |none=>rO P g K X o nx fr all
@[go_sem] theorem Qp {P:Program} {o:Nat->ab} {nx fr:Nat} {rd:List Nat} {ds:List D} {g:FuncId} {all:List V} {K X}:rP P K X o nx fr rd g all (some ds)=nA P g K X o nx fr rd ds all:=propext Iff.rfl
@[go_sem] theorem Qq {P:Program} {o:Nat->ab} {nx fr:Nat} {rd:List Nat} {g:FuncId} {all:List V} {K X}:rP P K X o nx fr rd g all none=rO P g K X o nx fr all:=propext Iff.rfl
def B5(P:Program)(K:KD)(X:XD)(o:Nat->ab)(nx fr:Nat)(rd:Fix (List Nat) (K,X,o,nx))(f:Fix V (K,X,o,nx))(args:Fix (List V) (K,X,o,nx)):Prop:=
 match f with
 | .func (.func g) first cap=>rP P K X o nx fr rd g (first++args++cap) (ct o (first++args++cap))
 |_=>False
@[go_sem] theorem TO {P:Program} {o:Nat->ab} {nx fr:Nat} {rd:List Nat} {g:FuncId} {first cap args:List V} {K X}:B5 P K X o nx fr rd (.func (.func g) first cap) args=rP P K X o nx fr rd g (first++args++cap) (ct o (first++args++cap)):=propext Iff.rfl
def uT(K:KD)(rd:List Nat)(x:Fix (Option gL) (K,rd)):Prop:=match x with|some (v,Δ,_)=>K v Δ rd|none=>False
@[go_sem] theorem TP {v:V} {Δ:List (Nat×ab)} {r rd:List Nat} {K}:uT K rd (some (v,Δ,r))=K v Δ rd:=propext Iff.rfl
@[go_sem] theorem Xg {v:V} {r rd:List Nat} {K}:uT K rd (W7 v r)=K v [] rd:=propext Iff.rfl
def MN(P:Program)(K:KD)(X:XD)(fr:Nat)(o:cz)(s:Fix S (K,X,o)):Prop:=
 match gD o.op with
 |some (f,args)=>B5 P K X s.o s.nx fr (pI s o.op) (s.ev f) (args.map s.ev)
 |none=>uT K (pI s o.op) (gN P s fr o.op)
def B6(P:Program)(KB:List Nat->Fp->Prop)(pr:List (List Nat))(l:List cz)(fr:Nat)(fp:Fix Fp (KB,l))(bad ws:Fix (List Nat) (KB,l))(s:Fix S (KB,l)):Prop:=iY P KB pr l fr s fp bad ws
def qu(P:Program)(K:S->Fp->Prop)(KP:V->List Nat->Fp->Prop)(pr:List (List Nat))(l:List cz)(fr:Nat)(s:Fix S (K,KP,l))(fp:Fix Fp (K,KP,l)):Prop:=
 match l with
 |[]=>K s fp
 |o::l=>match o.gd with
  |none=>MN P (fun v Δ rd=>qu P K KP pr l (fr+1) ⟨bu s.env o.dst v,put s.o Δ,s.nx⟩ (fp++[(rd,Δ.map (·.1))]))
   (fun v ws rd=>B6 P (KP v) pr l (fr+1) (fp++[(rd,[])]) [fp.length] (ws++fp.flatMap (·.2)) ⟨bu s.env o.dst .aa,s.o,s.nx⟩) fr o s
  |some (d,want)=>ku want (MN P (fun v Δ rd=>qu P K KP pr l (fr+1) ⟨bu s.env o.dst v,put s.o Δ,s.nx⟩ (fp++[(rd,Δ.map (·.1))]))
   (fun v ws rd=>B6 P (KP v) pr l (fr+1) (fp++[(rd,[])]) [fp.length] (ws++fp.flatMap (·.2)) ⟨bu s.env o.dst .aa,s.o,s.nx⟩) fr o s)
   (qu P K KP pr l (fr+1) ⟨bu s.env o.dst (.cp []),s.o,s.nx⟩ (fp++[([],[])])) (s.env d)
def NW(pr:List (List Nat))(nx:Nat)(Q:fS->S->Prop)(s:Fix S Q)(fp:Fix Fp Q):Prop:=Eg pr nx Q s fp
def xX(A B:Prop)(v:Fix V (A,B)):Prop:=
 match v with
 | .d (.bool t)=>jw A B t
 | .fh=>A/\B
 |_=>False
@[go_sem] theorem Xh (A B:Prop):xX A B .fh=(A/\B):=propext Iff.rfl
@[go_sem] theorem TQ (t:Bool) (A B:Prop):xX A B (.d (.bool t))=jw A B t:=propext Iff.rfl
def FA{ι:Type}(b:Nat)(st:ι->S)(bP:ι->Prop)(pq:ι->Nat)(i:ι)(s:S):Prop:=∃j,bP j/\pq j<pq i/\bM b s (st j)
def uU(next:S->Prop)(Q:fS->S->Prop)(e:fS)(s:S):Prop:=match e with| .normal=>next s|e=>Q e s
section
variable {N:S->Prop}{Q:fS->S->Prop}{s:S}
@[go_sem ↓] theorem NX:uU N Q .normal s=N s:=propext Iff.rfl
@[go_sem ↓] theorem TR {id:Nat}:uU N Q (.exit id) s=Q (.exit id) s:=propext Iff.rfl
@[go_sem ↓] theorem Xi:uU N Q .ret s=Q .ret s:=propext Iff.rfl
@[go_sem ↓] theorem rh {v:V}:uU N Q (.bU v) s=Q (.bU v) s:=propext Iff.rfl
end
def uV(b:Nat)(body:(fS->S->Prop)->S->Prop)(Q:fS->S->Prop)(s:Fix S (body,Q)):Prop:=
 ∃ (ι:Type) (st:ι->S) (bP:ι->Prop) (pq:ι->Nat) (i0:ι),bP i0/\bM b s (st i0)/\∀i,bP i->body (uU (FA b st bP pq i) Q) (st i)
theorem aL{ι:Type}{b:Nat}{body:(fS->S->Prop)->S->Prop}{Q:fS->S->Prop}{s:S}(st:ι->S)(bP:ι->Prop)(pq:ι->Nat)(i0:ι)(h0:bP i0)(hle:bM b s (st i0))
 (h:∀i,bP i->body (uU (FA b st bP pq i) Q) (st i)):uV b body Q s:=⟨ι,st,bP,pq,i0,h0,hle,h⟩
def wQ(P:Program)(n b:Nat)(rd:Bool)(gop:Operand)(ps:List Nat)(x y:IC)(Q:fS->S->Prop)(s:Fix S (x,y,Q))(g:Fix V (x,y,Q)):Prop:=rd=false/\(BE P n g ps x y Q s\/∃s',bM b s s'/\BE P n (s'.ev gop) ps x y Q s')
def kX(P:Program)(n b:Nat)(rd:Bool)(c:IC)(Q:fS->S->Prop)(s:Fix S (c,Q)):Prop:=
 match c with
 | .skip=>Q .normal s
 | .ag l=>tz P (fun v s=>Q (.bU v) s) (Q .normal) l s
 | .eX l pr=>qu P (NW pr (s.nx+l.length) Q) (BV pr l s Q) pr l s.nx s []
 | .seq x y=>kX P n b rd x (qg (fun s=>kX P n b rd y Q s) Q) s
 | .cond c x y=>xX (kX P n b rd x Q s) (kX P n b rd y Q s) (s.ev c)
 | .block id x=>kX P n b rd x (fT id Q) s
 | .loop x=>uV b (fun Q s=>kX P n b rd x Q s) Q s
 | .exit id=>Q (.exit id) s
 | .ret=>Q .ret s
 | .GX g ps x y=>wQ P n b rd g ps x y Q s (s.ev g)
 | .bad=>False
section
variable {P:Program}{n b:Nat}{rd:Bool}
theorem B7{s:S}{f:V}{args:List V}{K K':V->(Nat->ab)->Nat->Prop}{X X':V->(Nat->ab)->Nat->Prop}(hK:∀v o n,K v o n->K' v o n)(hX:∀v o n,X v o n->X' v o n)(h:sO P K X s f args):
 match(generalizing:=false) f with
  | .func (.func g) first cap=>match ct s.o (first++args++cap)with
    |some ds=>uK P g ds s.o (put s.o (dn s.o (V.bF (first++args++cap)))) (put s.o (rp s.o (V.bF (first++args++cap)))) (fun v o'=>K' v o' (s.nx+1)) (fun v o'=>X' v o' (s.nx+1))\/sG P g (first++args++cap) s.o s.nx K' X'
    |none=>sG P g (first++args++cap) s.o s.nx K' X'
  | .jU id=>ec P id args s.o s.nx K' X'
  |_=>False:=by
 unfold sO nz xW at h
 split at h
 ·rename_i g first cap
  cases fe:ct s.o (first++args++cap)with
  |some ds=>
   simp only[fe]at h|-
   rcases h with⟨out,h1,h2|⟨h3,h2⟩|⟨h3,h2⟩⟩|h
   ·exact .inl ⟨out,h1, .inl (by cases out<;>first|exact hK _ _ _ h2|exact hX _ _ _ h2)⟩
   ·exact .inl ⟨out,h1, .inr (.inl ⟨h3,by cases out<;>first|exact hK _ _ _ h2|exact hX _ _ _ h2⟩)⟩
   ·exact .inl ⟨out,h1, .inr (.inr ⟨h3,by cases out<;>first|exact hK _ _ _ h2|exact hX _ _ _ h2⟩)⟩
   ·exact .inr (nk.mono hK hX h)
  |none=>
   simp only[fe]at h|-
   exact nk.mono hK hX h
 ·exact ec.mono hK hX h
 ·exact h.elim
theorem xY{x:Option gL}{K:V->List (Nat×ab)->Prop}(h:kW K x):∃v Δ rd,x=some (v,Δ,rd)/\K v Δ:=by
 unfold kW at h;split at h
 ·exact⟨_,_,_,rfl,h⟩
 ·exact h.elim
theorem zS{s:S}{o:cz}{X X':V->S->Prop}{K K':S->Prop}(hK:∀s,K s->K' s)(hX:∀v s,X v s->X' v s)(h:B4 P X K o s):I4 P s o X' K':=by
 unfold B4 at h
 unfold I4
 have hs:∀ {op:Op},(kW (fun v Δ=>K ⟨bu s.env o.dst v,put s.o Δ,s.nx+1⟩) (gN P s s.nx op))->(match gN P s s.nx op with|some (v,Δ,_)=>K' ⟨bu s.env o.dst v,put s.o Δ,s.nx+1⟩|none=>False):=by
  intro op h
  obtain⟨v,Δ,rd,he,h⟩:=xY h
  simp only[he];exact hK _ h
 split at h
 ·rename_i x str hx
  rw[hx]
  unfold Kk at h
  simp only
  split at h
  ·rename_i id l hl
   simp only[hl]
   exact⟨h.1,fun e=>hK _ (h.2.1 e),fun i k x e=>hK _ (h.2.2 i k x e)⟩
  ·rename_i hl
   simp only[hl]
   exact hs (op:= .next x str) h
 ·rename_i c hc
  simp only[hc]
  split at h
  ·rename_i f hf
   simp only[hf]
   exact B7 (K:=fun v o' nx'=>K ⟨bu s.env o.dst v,o',nx'⟩) (X:=fun v o' nx'=>X v ⟨s.env,o',nx'⟩) (fun v o n h=>hK _ h) (fun v o n h=>hX _ _ h) h
  ·rename_i r m hf
   simp only[hf]
   unfold Kj at h
   split at h
   ·rename_i g y hr
    simp only[hr]
    unfold B1 at h
    split at h
    ·rename_i ds fe
     obtain⟨out,h1,h2⟩:=h
     refine .inl ⟨ds,fe,out,h1, ?_⟩
     rcases h2 with h2|⟨h3,h2⟩|⟨h3,h2⟩
     ·exact .inl (by cases out<;>first|exact hK _ h2|exact hX _ _ h2)
     ·exact .inr (.inl ⟨h3,by cases out<;>first|exact hK _ h2|exact hX _ _ h2⟩)
     ·exact .inr (.inr ⟨h3,by cases out<;>first|exact hK _ h2|exact hX _ _ h2⟩)
    ·exact h.elim
   ·exact h.elim
  ·rename_i hf hi
   rw[hc]at h
   obtain⟨JQ,args,ts⟩:=c
   cases JQ with
   |value f=>exact absurd rfl (hf f)
   |invoke r m=>exact absurd rfl (hi r m)
   |_=>exact hs h
 ·rename_i x hx
  simp only[hx]
  unfold HD at h
  split at h
  ·rename_i hv;simp only[hv];exact hX _ _ h
  ·rename_i hv;simp only[hv];exact hX _ _ h
  ·exact h.elim
 ·rename_i tM hc hp
  have h2:=hs h
  cases hh:o.op<;>first
   |exact absurd hh (hc _)
   |exact absurd hh (hp _)
   |exact absurd hh (tM _ _)
   |(rw[hh]at h2;exact h2)
theorem Km{s:S}{o:cz}{X:V->S->Prop}{K:S->Prop}(hp:lu o.op=true){v:V}{Δ:List (Nat×ab)}{rd:List Nat}(he:gN P s s.nx o.op=some (v,Δ,rd))(h:K ⟨bu s.env o.dst v,put s.o Δ,s.nx+1⟩):I4 P s o X K:=by
 unfold I4
 split
 ·rename_i c hc
  split
  ·rename_i f hf;rw[hc]at hp;simp[lu,hf]at hp
  ·rename_i r m hf;rw[hc]at hp;simp[lu,hf]at hp
  ·rw[he];exact h
 ·rename_i x hx;rw[hx]at hp;simp[lu]at hp
 ·rename_i x str hx;rw[hx]at hp;simp[lu]at hp
 ·rw[he];exact h
theorem xZ{X X':V->S->Prop}{K K':S->Prop}(hK:∀s,K s->K' s)(hX:∀v s,X v s->X' v s):∀ (l:List cz) (s:S),tz P X K l s->pk P X' K' l s
 |[],s,h=>hK _ h
 |o::l,s,h=>by
  have ih:=xZ hK hX l
  unfold tz at h
  unfold pk
  cases hg:o.gd with
  |none=>
   simp only[hg]at h|-
   exact zS ih hX h
  |some p=>
   obtain⟨d,want⟩:=p
   simp only[hg]at h|-
   unfold zR at h
   split at h
   ·exact h.elim
   ·rename_i c hc
    have hgo:∀ {A B:Prop},(c=true->A)->(c=false->B)->(match s.env d with
     | .d (.bool b)=>if b=want then A else B
     | .cp []=>B
     |_=>False):=by
     intro A B hA hB
     generalize s.env d=v at hc
     unfold mF at hc
     split at hc
     ·rename_i b
      injection hc with hc
      split
      ·rename_i e;exact hA (by rw[<- hc];simp[e])
      ·rename_i e;exact hB (by rw[<- hc];simp[e])
     ·injection hc with hc
      exact hB hc.symm
     ·cases hc
    split at h
    ·rename_i f args I5
     rcases h with h|h
     case inr=>exact hgo (fun Qr=>zS ih hX (h.1 Qr)) (fun TS=>ih _ (h.2 TS))
     obtain⟨rs,h1,h2⟩:=h
     refine hgo (fun Qr=> ?_) (fun TS=> ?_)
     ·unfold gD at I5
      split at I5
      ·rename_i c' zx
       split at I5
       ·rename_i f' fm
        injection I5 with I5;injection I5 with e1 e2;subst e1;subst e2
        have cB:=h1 Qr
        unfold I4
        simp only[zx,fm]
        unfold BZ at cB
        split at cB
        ·rename_i g first cap wE
         simp only[wE]
         split at cB
         ·rename_i ds fe
          simp only[fe]
          refine .inl ⟨.ret rs,cB.1, .inr (.inl ⟨cB.2, ?_⟩)⟩
          refine ih _ ?_
          rw[Qr]at h2
          exact h2
         ·exact cB.elim
        ·exact cB.elim
       ·cases I5
      ·cases I5
     ·refine ih _ ?_
      rw[TS]at h2
      exact h2
    ·split at h
     ·rename_i hp
      obtain⟨v,Δ,rd,he,h⟩:=xY h
      refine hgo (fun Qr=> ?_) (fun TS=> ?_)
      ·rw[Qr]at he
       simp only[lr,if_true]at he
       split at he
       ·rename_i v' tu oD
        injection he with he;injection he with e1 e2;subst e1
        exact Km hp oD (ih _ h)
       ·cases he
      ·rw[TS]at he
       simp only[lr]at he
       injection he with he;injection he with e1 e2;subst e1
       exact ih _ h
     ·exact hgo (fun Qr=>zS ih hX (h.1 Qr)) (fun TS=>ih _ (h.2 TS))
theorem zT{op:Op}{f:Operand}{args:List Operand}(h:gD op=some (f,args)):∃c,op= .call c/\c.callee= .value f/\c.args.toList=args:=by
 unfold gD at h
 split at h
 ·rename_i c
  split at h
  ·rename_i f' fm
   injection h with h;injection h with e1 e2;subst e1;subst e2
   exact⟨c,rfl,fm,rfl⟩
  ·cases h
 ·cases h
theorem HE{x:Option gL}{rd:List Nat}{K:KD}(h:uT K rd x):∃v Δ r,x=some (v,Δ,r)/\K v Δ rd:=by
 unfold uT at h;split at h
 ·exact⟨_,_,_,rfl,h⟩
 ·exact h.elim
theorem jG.mono {P:Program}{g:FuncId}{args:List V}{o:Nat->ab}{nx fr:Nat}{K K':KD}{X X':XD}(hK:∀v Δ r,K v Δ r->K' v Δ r)(hX:∀v w r,X v w r->X' v w r)(h:jG P g args o nx fr K X):jG P g args o nx fr K' X':=by
 obtain⟨rd,Δ,h1,⟨rs,h2,h3⟩|⟨x,h2,h3⟩|⟨v,h2,h3⟩⟩:=h
 ·exact⟨rd,Δ,h1, .inl ⟨rs,h2,hK _ _ _ h3⟩⟩
 ·exact⟨rd,Δ,h1, .inr (.inl ⟨x,h2,hX _ _ _ h3⟩)⟩
 ·exact⟨rd,Δ,h1, .inr (.inr ⟨v,h2,hK _ _ _ h3⟩)⟩
theorem sM.mono {P:Program}{g:FuncId}{ds:List D}{Kf Kb KX Kf' Kb' KX':V->Prop}(h1:∀v,Kf v->Kf' v)(h2:∀v,Kb v->Kb' v)(h3:∀v,KX v->KX' v)(h:sM P g ds Kf Kb KX):sM P g ds Kf' Kb' KX':=by
 rcases h with⟨rs,a,b|⟨b,c⟩⟩|⟨x,a,b,c⟩|⟨v,a,b⟩
 ·exact .inl ⟨rs,a, .inl (h1 _ b)⟩
 ·exact .inl ⟨rs,a, .inr ⟨b,h2 _ c⟩⟩
 ·exact .inr (.inl ⟨x,a,b,h3 _ c⟩)
 ·exact .inr (.inr ⟨v,a,h1 _ b⟩)
theorem FB{s:S}{fr:Nat}{o:cz}{K K':KD}{X X':XD}(hK:∀v Δ r,K v Δ r->K' v Δ r)(hX:∀v w r,X v w r->X' v w r)(h:MN P K X fr o s):AQ P s fr o K' X':=by
 unfold MN at h
 split at h
 ·rename_i f args I5
  obtain⟨c,h1,h2,h3⟩:=zT I5
  subst h3
  unfold AQ
  simp only[h1,h2]
  unfold B5 rP at h
  split at h
  ·rename_i g first cap hf
   simp only[hf]
   split at h
   ·rename_i ds fe
    simp only[fe]
    refine h.elim (fun h=> .inl ?_) (fun h=> .inr (jG.mono hK hX h))
    refine sM.mono (fun v h=> ?_) (fun v h=> ?_) (fun v h=> ?_) h<;>(rw[h1]at h)
    ·exact hK _ _ _ h
    ·exact hK _ _ _ h
    ·exact hX _ _ _ h
   ·rename_i fe
    simp only[fe]
    exact jG.mono hK hX h
  ·exact h.elim
 ·rename_i I5
  obtain⟨v,Δ,rd,he,h⟩:=HE h
  unfold AQ
  split
  ·rename_i c hc
   split
   ·rename_i f hf
    exact absurd I5 (by simp[gD,hc,hf])
   ·simp only[he];exact hK _ _ _ h
  ·simp only[he];exact hK _ _ _ h
theorem B8{s:S}{fr:Nat}{o:cz}{K K':KD}{X X':XD}(hK:∀v Δ r,K v Δ r->K' v Δ r)(hX:∀v w r,X v w r->X' v w r)(h:AQ P s fr o K X):AQ P s fr o K' X':=by
 unfold AQ at h|-
 split at h
 ·rename_i c hc
  rw[hc]at h|-
  split at h
  ·rename_i f hf
   (try simp only[hf])
   split at h
   ·rename_i wE
    (try simp only[wE])
    split at h
    ·exact h.elim (fun h=> .inl (sM.mono (fun v h=>hK _ _ _ h) (fun v h=>hK _ _ _ h) (fun v h=>hX _ _ _ h) h)) (fun h=> .inr (jG.mono hK hX h))
    ·exact jG.mono hK hX h
   ·exact h.elim
  ·rename_i hf
   split at h
   ·rename_i he
    (try simp only[he])
    exact hK _ _ _ h
   ·exact h.elim
 ·split at h
  ·rename_i he
   (try simp only[he]);exact hK _ _ _ h
  ·exact h.elim
theorem jX{KB KB':List Nat->Fp->Prop}{pr:List (List Nat)}(hK:∀l fp,KB l fp->KB' l fp):∀ (l:List cz) (fr:Nat) (s:S) (fp:Fp) (bad ws:List Nat),iY P KB pr l fr s fp bad ws->iY P KB' pr l fr s fp bad ws
 |[],_,_,_,_,_,h=>hK _ _ h
 |o::l,fr,s,fp,bad,ws,h=>by
  unfold iY at h|-
  split
  ·rename_i hb
   rw[if_pos hb]at h
   exact jX hK l _ _ _ _ _ h
  ·rename_i hb
   rw[if_neg hb]at h
   split at h
   ·exact B8 (fun v Δ r h=>jX hK l _ _ _ _ _ h) (fun _ _ _ h=>h) h
   ·split at h
    ·split at h
     ·rename_i e;simp only[e,if_true]
      exact B8 (fun v Δ r h=>jX hK l _ _ _ _ _ h) (fun _ _ _ h=>h) h
     ·rename_i e;simp only[e,if_false]
      exact jX hK l _ _ _ _ _ h
    ·exact jX hK l _ _ _ _ _ h
    ·exact h.elim
theorem lO{K K':S->Fp->Prop}{KP KP':V->List Nat->Fp->Prop}{pr:List (List Nat)}(hK:∀s fp,K s fp->K' s fp)(hP:∀v l fp,KP v l fp->KP' v l fp):∀ (l:List cz) (fr:Nat) (s:S) (fp:Fp),qu P K KP pr l fr s fp->lq P K' KP' pr l fr s fp
 |[],_,_,_,h=>hK _ _ h
 |o::l,fr,s,fp,h=>by
  have hB:∀v ws (rdl:List Nat),B6 P (KP v) pr l (fr+1) (fp++[(rdl,[])]) [fp.length] (ws++fp.flatMap (·.2)) ⟨bu s.env o.dst .aa,s.o,s.nx⟩->
   iY P (KP' v) pr l (fr+1) ⟨bu s.env o.dst .aa,s.o,s.nx⟩ (fp++[(rdl,[])]) [fp.length] (ws++fp.flatMap (·.2)):=fun v ws rdl h=>jX (fun a b h=>hP v a b h) l _ _ _ _ _ h
  unfold qu at h
  unfold lq
  split at h
  ·rename_i hg
   (try simp only[hg])
   exact FB (fun v Δ r h=>lO hK hP l _ _ _ h) hB h
  ·rename_i d want hg
   (try simp only[hg])
   generalize s.env d=v at h
   unfold ku at h
   split at h
   ·rename_i bb
    by_cases e:bb=want
    ·subst e
     simp only[if_true]
     exact FB (fun v Δ r h=>lO hK hP l _ _ _ h) hB (h.1 aj)
    ·simp only[if_neg e]
     exact lO hK hP l _ _ _ (h.2 (by simpa using e))
   ·exact lO hK hP l _ _ _ h
   ·exact h.elim
theorem eC:∀ (c:IC) (Q Q':fS->S->Prop) (s:S),(∀e s,Q e s->Q' e s)->kX P n b rd c Q s->tP P n b rd c Q' s
 | .skip,_,_,_,hQ,h=>hQ _ _ h
 | .ag l,_,_,_,hQ,h=>xZ (fun s h=>hQ _ _ h) (fun v s h=>hQ _ _ h) l _ h
 | .eX l pr,_,_,_,hQ,h=> .inl (lO (fun s fp h=>⟨h.1,hQ _ _ h.2⟩) (fun v l fp h=>⟨h.1,hQ _ _ h.2⟩) l _ _ _ h)
 | .seq x y,Q,Q',s,hQ,h=>eC x _ _ s (fun e s h=>by
  unfold qg at h|-
  cases e with
  |normal=>exact eC y _ _ s hQ h
  |_=>exact hQ _ _ h) h
 | .cond c x y,Q,Q',s,hQ,h=>by
   unfold kX xX jw at h
   unfold tP
   split at h
   ·rename_i t ht
    simp only[ht]
    exact⟨fun e=>eC x _ _ s hQ (h.1 e),fun e=>eC y _ _ s hQ (h.2 e)⟩
   ·rename_i ht
    simp only[ht]
    exact⟨eC x _ _ s hQ h.1,eC y _ _ s hQ h.2⟩
   ·exact h.elim
 | .block id x,Q,Q',s,hQ,h=>eC x _ _ s (fun e s h=>by
  unfold fT at h|-
  cases e with
  |exit j=>
   simp only at h|-
   split
   ·rename_i e;rw[if_pos e]at h;exact hQ _ _ h
   ·rename_i e;rw[if_neg e]at h;exact hQ _ _ h
  |_=>exact hQ _ _ h) h
 | .loop x,Q,Q',s,hQ,h=>by
   obtain⟨ι,st,bP,pq,i0,h0,hle,h2⟩:=h
   refine⟨fun m s=>∃i,bP i/\pq i=m/\s=st i,⟨pq i0,st i0,hle,i0,h0,rfl,rfl⟩, ?_⟩
   rintro m s0 ⟨i,hg,rfl,rfl⟩
   refine eC x _ _ _ (fun e s h=> ?_) (h2 i hg)
   cases e with
   |normal=>
    obtain⟨j,k1,k2,k3⟩:=h
    exact⟨pq j,st j,k2,k3,j,k1,rfl,rfl⟩
   |_=>exact hQ _ _ h
 | .exit id,_,_,_,hQ,h=>hQ _ _ h
 | .ret,_,_,_,hQ,h=>hQ _ _ h
 | .GX g ps x y,_,_,_,hQ,h=>⟨h.1,match h.2 with
   | .inl h=>⟨_, .inl rfl,rN hQ h⟩
   | .inr ⟨s',hle,h⟩=>⟨s', .inr hle,rN hQ h⟩⟩
 | .bad,_,_,_,_,h=>h.elim
end
theorem a8.aB {P:Program}(bD:P.follows .mixedOrders=true){f:FuncId}{n:Nat}{ic:IC}{rs:List ResultVar}{ds:List D}{out:R}(hf:aF P f n ic rs)(hl:ds.length<=n)
 (h:kX P n 0 false ic (DV P rs out) ⟨cF (ds.map .d),fun _=> .no,0⟩):a8 P f ds out:=
 a8.uS bD hf hl (eC ic _ _ _ (fun _ _ h=>h) h)
def rQ(P:Program)(rs:List ResultVar)(K X:V->(Nat->ab)->Nat->Prop)(e:fS)(s:S):Prop:=mi P rs K X e s
theorem cO.aB {P:Program}(bD:P.follows .mixedOrders=true){f:FuncId}{n:Nat}{ic:IC}{rs:List ResultVar}{args:List V}{o:Nat->ab}{nx:Nat}{K X:V->(Nat->ab)->Nat->Prop}(hf:aF P f n ic rs)(hl:args.length<=n)
 (h:kX P n nx false ic (rQ P rs K X) ⟨cF args,o,nx⟩):cO P f args o nx K X:=
 cO.uS bD hf hl (eC ic _ _ _ (fun _ _ h=>h) h)
section
variable {P:Program}{g:FuncId}{ds:List D}{o:Nat->ab}{nx:Nat}{K X:V->(Nat->ab)->Nat->Prop}{all:List V}
theorem ai{rs:List D}(h:a8 P g ds (.ret rs))(hf:D.ko rs=true)(hk:K (jO rs) o (nx+1)):sN P g o nx K X ds all:= .inl ⟨.ret rs,h, .inr (.inl ⟨hf,hk⟩)⟩
theorem bg{rs:List D}(h:a8 P g ds (.ret rs))(hk:K (jO rs) (put o (dn o (V.bF all))) (nx+1)):sN P g o nx K X ds all:= .inl ⟨.ret rs,h, .inl hk⟩
theorem bt{x:D}(h:a8 P g ds (.bU x))(hf:x.flat=true)(hk:X (.d x) o (nx+1)):sN P g o nx K X ds all:= .inl ⟨.bU x,h, .inr (.inl ⟨hf,hk⟩)⟩
theorem da(h:cO P g all o nx K X):sN P g o nx K X ds all:= .inr (.inl h)
theorem cY{e:Nat->V}{ds:Option (List D)}(h:cO P g all o nx K X):nz P g K X ⟨e,o,nx⟩ all ds:=by
 cases ds with
 |some ds=>exact(.inr (.inl h):sN P g o nx K X ds all)
 |none=>exact(.inl h:B0 P g nx K X all o)
theorem bd(h:cO P g all o nx K X):B0 P g nx K X all o:= .inl h
variable {K:KD}{X:XD}{rd:List Nat}{fr:Nat}
theorem aq{rs:List D}(h:a8 P g ds (.ret rs))(hf:D.ko rs=true)(hk:K (jO rs) [] rd):nA P g K X o nx fr rd ds all:= .inl (.inl ⟨rs,h, .inr ⟨hf,hk⟩⟩)
theorem bw{rs:List D}(h:a8 P g ds (.ret rs))(hk:K (jO rs) (dn o (V.bF all)) rd):nA P g K X o nx fr rd ds all:= .inl (.inl ⟨rs,h, .inl hk⟩)
theorem aK{x:D}(h:a8 P g ds (.bU x))(hf:x.flat=true)(hk:X (.d x) [] rd):nA P g K X o nx fr rd ds all:= .inl (.inr (.inl ⟨x,h,hf,hk⟩))
theorem HG{v:V}(h:Qa P g ds v)(hk:K v (dn o (V.bF all)) rd):nA P g K X o nx fr rd ds all:= .inl (.inr (.inr ⟨v,h,hk⟩))
theorem x6{v:V}{tu:List Nat}{Δ:List (Nat×ab)}(mS:tu.all (fun id=>decide (id<nx))=true)(h:xN P g all tu o fr v Δ)(hk:K v Δ tu):nA P g K X o nx fr rd ds all:= .inr ⟨tu,Δ,mS, .inr (.inr ⟨v,h,hk⟩)⟩
end
theorem ft{P:Program}{f:V}{args:List V}{o:Nat->ab}{K:V->Prop}{c:Bool}(rs:List D)(h:mE c (BZ P f args o rs))(hk:K (V.zQ c (jO rs))):Fz P f args o K c:=⟨rs,h,hk⟩
theorem ak{t:Bool}{A B:Prop}(h:t=true->A)(h2:t=false->B):jw A B t:=⟨h,h2⟩
theorem ao{pr:List (List Nat)}{nx:Nat}{Q:fS->S->Prop}{s:S}{fp:List (List Nat×List Nat)}(h:iO pr fp=true)(h2:Q .normal ⟨s.env,s.o,nx⟩):NW pr nx Q s fp:=⟨h,h2⟩
@[go_sem] theorem Kn (o:Nat->ab):put o []=o:=rfl
@[go_sem] theorem HH (o:Nat->ab) (x:Nat×ab) (l:List (Nat×ab)):put o (x::l)=put (aM o x.1 x.2) l:=rfl
@[go_sem] theorem ae {α:Type} (f:Nat->α) (i:Nat) (x:α):aM f i x i=x:=aj
@[go_sem] theorem ah {α:Type} (f:Nat->α) (i j:Nat) (x:α) (h:j≠i):aM f i x j=f j:=by simp[h]
@[go_sem] theorem NY (v:V) (l:List V):cF (v::l) 0=v:=rfl
@[go_sem] theorem NZ (v:V) (l:List V) (i:Nat):cF (v::l) (i+1)=cF l i:=rfl
@[go_sem] theorem Qs (i:Nat):cF [] i= .cp []:=by simp[cF]
@[go_sem] theorem Xj {P:Program} {o:Nat->ab} {t:TypeId} {id off:Nat}:nq P o t (.ptr id off)=match o id with
 | .row cs=>match fi P t cs off with
   |some v=>some (v,[],[id])
   |none=>none
 |_=>none:=by unfold nq;exact Eq.trans rfl rfl
@[go_sem] theorem YL {P:Program} {o:Nat->ab} {t:TypeId} {cs:List D} {off:Nat}:nq P o t (.pp cs off)=match fi P t (cs.map .d) off with
 |some v=>some (v,[],[])
 |none=>none:=by unfold nq;exact Eq.trans rfl rfl
@[go_sem] theorem YM {P:Program} {o:Nat->ab} {t:TypeId} {id ep i sz off:Nat}:nq P o t (.pe id ep i sz off)=match o id with
 | .arr jr _ ra es=>if ep=jr/\sz=ra then match es[i]? with
  |some e=>match fi P t (e.cells.map .d) off with
   |some v=>some (v,[],[id])
   |none=>none
  |none=>none
   else none
 |_=>none:=by unfold nq;exact Eq.trans rfl rfl
section
variable {P:Program}{o:Nat->ab}{t:TypeId}{op:BinOp}{oY:Bool}
@[go_sem] theorem Xk {k:IntKind} {a b:Int}:eH P o op t oY (.d (.int k a)) (.d (.int k b))=match BH op k a b with
 |some v=>one v
 |none=>ry P o op t oY (.d (.int k a)) (.d (.int k b)):=by
  simp only[eH,zC,if_true]
  cases BH op k a b<;>rfl
@[go_sem] theorem Xl {a b:Bool} (h:nZ P t=true):eH P o .eql t oY (.d (.bool a)) (.d (.bool b))=one (.d (.bool (a==b))):=by simp only[eH,zC,J2,h,if_true]
@[go_sem] theorem Xm {a b:Bool} (h:nZ P t=true):eH P o .neq t oY (.d (.bool a)) (.d (.bool b))=one (.d (.bool (a !=b))):=by simp only[eH,zC,J2,h,if_true]
@[go_sem] theorem Xn {a b:List UInt8}:eH P o .eql t oY (.d (.str a)) (.d (.str b))=one (.d (.bool (a==b))):=S0
@[go_sem] theorem Xo {a b:List UInt8}:eH P o .neq t oY (.d (.str a)) (.d (.str b))=one (.d (.bool (a !=b))):=S0
@[go_sem] theorem Xp {a b:List D}:eH P o op t oY (.d (.agg a)) (.d (.agg b))=ry P o op t oY (.d (.agg a)) (.d (.agg b)):=S0
theorem M6{x:V}{y:V}(h:match y with| .d (.int _ _)| .d (.bool _)| .d (.str _)=>False|_=>True):zC P op t x y=none:=by
 unfold zC
 split<;>first|exact h.elim|rfl
@[go_sem] theorem TT {x:V}:eH P o op t oY x .bO=ry P o op t oY x .bO:=Jl
@[go_sem] theorem TU {x:V}:eH P o op t oY x (.d .fD)=ry P o op t oY x (.d .fD):=Jl
@[go_sem] theorem TV {x:V}:eH P o op t oY x (.d .mM)=ry P o op t oY x (.d .mM):=Jl
@[go_sem] theorem TW {x:V}:eH P o op t oY x (.d .bW)=ry P o op t oY x (.d .bW):=Jl
@[go_sem] theorem TX {x:V}:eH P o op t oY x (.d .jq)=ry P o op t oY x (.d .jq):=Jl
@[go_sem] theorem YN {b:Bool}:GP .not (.d (.bool b))=some (.d (.bool !b)):=S1
@[go_sem] theorem YO:GP .not .fh=some .fh:=S1
@[go_sem] theorem YP {k:IntKind} {n:Int}:GP .neg (.d (.int k n))=some (.d (.int k (k.wrap (-n)))):=S1
end
@[go_sem] theorem D.Xq (cs:List D):(D.agg cs).cells=cs:=rfl
@[go_sem] theorem D.Xr (k:IntKind) (n:Int):(D.int k n).cells=[.int k n]:=rfl
@[go_sem] theorem D.TY (b:Bool):(D.bool b).cells=[.bool b]:=rfl
@[go_sem] theorem D.Xs (b:List UInt8):(D.str b).cells=[.str b]:=rfl
@[go_sem] theorem D.YQ (b:List D):(D.sl b).cells=[.sl b]:=rfl
@[go_sem] theorem D.YR (a b:List D):(D.mp a b).cells=[.mp a b]:=rfl
@[go_sem] theorem D.Qt (t:TypeId) (x:D):(D.iface t x).cells=[.iface t x]:=rfl
@[go_sem] theorem D.TZ:D.fD.cells=[.fD]:=rfl
@[go_sem] theorem D.T0:D.mM.cells=[.mM]:=rfl
@[go_sem] theorem D.T1:D.bW.cells=[.bW]:=rfl
@[go_sem] theorem D.T2:D.jq.cells=[.jq]:=rfl
attribute [go_sem] V.ofConst V.dG BH J2 qn D1 xM oL iU iV rI hY ml qo qp qq rJ jV J3 mc eg ct fi zc sw mD V.cells D.put dn V.ids V.bF jO D.ko D.flat R.flat
attribute [go_sem] DC List.take_succ_cons List.take_zero List.take_nil List.drop_zero List.drop_succ_cons List.drop_nil
attribute [go_sem] List.map_cons List.map_nil List.length_cons List.length_nil List.cons_append List.nil_append List.append_nil List.getElem?_cons_zero List.getElem?_cons_succ Option.bind_some Option.bind_none Option.map_some Option.map_none ab.cC ab.cy
section
variable {P:Program}{n b:Nat}{rd:Bool}{Q:fS->S->Prop}{s:S}
@[go_sem] theorem YS:kX P n b rd .skip Q s=Q .normal s:=propext Iff.rfl
@[go_sem] theorem N0 {l:List cz}:kX P n b rd (.ag l) Q s=tz P (fun v s=>Q (.bU v) s) (Q .normal) l s:=propext Iff.rfl
@[go_sem] theorem abz {l:List cz} {pr:List (List Nat)}:kX P n b rd (.eX l pr) Q s=qu P (NW pr (s.nx+l.length) Q) (BV pr l s Q) pr l s.nx s []:=propext Iff.rfl
@[go_sem] theorem N1 {x y:IC}:kX P n b rd (.seq x y) Q s=kX P n b rd x (qg (fun s=>kX P n b rd y Q s) Q) s:=propext Iff.rfl
@[go_sem] theorem YT {c:Operand} {x y:IC}:kX P n b rd (.cond c x y) Q s=xX (kX P n b rd x Q s) (kX P n b rd y Q s) (s.ev c):=propext Iff.rfl
@[go_sem] theorem Xt {id:Nat} {x:IC}:kX P n b rd (.block id x) Q s=kX P n b rd x (fT id Q) s:=propext Iff.rfl
@[go_sem] theorem YU {x:IC}:kX P n b rd (.loop x) Q s=uV b (fun Q s=>kX P n b rd x Q s) Q s:=propext Iff.rfl
@[go_sem] theorem YV {id:Nat}:kX P n b rd (.exit id) Q s=Q (.exit id) s:=propext Iff.rfl
@[go_sem] theorem abA:kX P n b rd .ret Q s=Q .ret s:=propext Iff.rfl
@[go_sem] theorem abB {g:Operand} {ps:List Nat} {x y:IC}:kX P n b rd (.GX g ps x y) Q s=wQ P n b rd g ps x y Q s (s.ev g):=propext Iff.rfl
@[go_sem] theorem Ko {X:V->S->Prop} {K:S->Prop}:tz P X K [] s=K s:=propext Iff.rfl
@[go_sem] theorem HI {X:V->S->Prop} {K:S->Prop} {d:Option Nat} {op:Op} {l:List cz}:tz P X K (⟨d,op,none⟩::l) s=B4 P X (tz P X K l) ⟨d,op,none⟩ s:=propext Iff.rfl
@[go_sem] theorem Xu {X:V->S->Prop} {K:S->Prop} {d:Option Nat} {op:Op} {g:Nat} {w:Bool} {l:List cz}:tz P X K (⟨d,op,some (g,w)⟩::l) s=zR P X (tz P X K l) ⟨d,op,some (g,w)⟩ s (mF (s.env g) w):=propext Iff.rfl
variable {X:V->S->Prop}{K:S->Prop}{d:Option Nat}{op:Op}{g:Option (Nat×Bool)}{f:Operand}{args:Array Operand}{ts:Array TypeId}{c:Bool}
@[reducible] def T3:Op->Bool
  | .call c=>match c.callee with
    | .value _=>true
    | .invoke .. =>true
    |_=>false
  | .panic _=>true
  | .next .. =>true
  |_=>false
@[go_sem] theorem T4 (h:T3 op=false):B4 P X K ⟨d,op,g⟩ s=kW (fun v Δ=>K ⟨bu s.env d v,put s.o Δ,s.nx+1⟩) (gN P s s.nx op):=by
  unfold B4
  cases op with
  |call c=>
   obtain⟨JQ,args,ts⟩:=c
   cases JQ with
   |value f=>simp[T3]at h
   |invoke r m=>simp[T3]at h
   |_=>rfl
  |panic x=>simp[T3]at h
  |next x str=>simp[T3]at h
  |_=>rfl
@[go_sem] theorem YW {x:Operand} {str:Bool}:B4 P X K ⟨d, .next x str,g⟩ s=Kk (fun v Δ=>K ⟨bu s.env d v,put s.o Δ,s.nx+1⟩) str (oG s.o (s.ev x) str) (oH s.o (s.ev x)):=propext Iff.rfl
@[go_sem] theorem YX:B4 P X K ⟨d, .call ⟨.value f,args,ts⟩,g⟩ s=sO P (fun v o' nx'=>K ⟨bu s.env d v,o',nx'⟩) (fun v o' nx'=>X v ⟨s.env,o',nx'⟩) s (s.ev f) (args.toList.map s.ev):=propext Iff.rfl
@[go_sem] theorem T5 {m:String}:B4 P X K ⟨d, .call ⟨.invoke f m,args,ts⟩,g⟩ s=Kj P (fun v o' nx'=>K ⟨bu s.env d v,o',nx'⟩) (fun v o' nx'=>X v ⟨s.env,o',nx'⟩) s (args.toList.map s.ev) (uD P m (s.ev f)):=propext Iff.rfl
@[go_sem] theorem Xv:B4 P X K ⟨d, .panic f,g⟩ s=HD (fun v=>X v s) (s.ev f):=propext Iff.rfl
@[go_sem] theorem Xw:zR P X K ⟨d, .call ⟨.value f,args,ts⟩,g⟩ s (some c)=Ej P X K ⟨d, .call ⟨.value f,args,ts⟩,g⟩ s f args.toList c:=propext Iff.rfl
theorem gO{e:Nat->V}{ob:Nat->ab}{nx:Nat}(h:Fz P ((⟨e,ob,nx⟩:S).ev f) (args.toList.map (⟨e,ob,nx⟩:S).ev) ob (fun v=>K ⟨bu e d v,ob,nx+1⟩) c):Ej P X K ⟨d,op,g⟩ ⟨e,ob,nx⟩ f args.toList c:= .inl h
theorem B9{s:S}{o:cz}{l:List Operand}(h:jw (B4 P X K o s) (K ⟨bu s.env o.dst (.cp []),s.o,s.nx+1⟩) c):Ej P X K o s f l c:= .inr h
@[go_sem] theorem Xx (h:lu op=true):zR P X K ⟨d,op,g⟩ s (some c)=kW (fun v _=>K ⟨bu s.env d v,s.o,s.nx+1⟩) (lr c (gN P s s.nx op)):=by
  have h2:gD op=none:=by
   cases hc:gD op with
   |none=>rfl
   |some x=>
    exfalso
    unfold gD at hc
    split at hc
    ·split at hc
     ·rename_i hv;simp[lu,hv]at h
     ·cases hc
    ·cases hc
  simp only[zR,h2,h,if_true]
@[go_sem] theorem Xy (h:lu op=false) (h2:gD op=none):zR P X K ⟨d,op,g⟩ s (some c)=jw (B4 P X K ⟨d,op,g⟩ s) (K ⟨bu s.env d (.cp []),s.o,s.nx+1⟩) c:=by
  simp[zR,h2,h]
@[go_sem] theorem T6 {l:List Operand}:Ej P X K ⟨d,op,g⟩ s f l false=K ⟨bu s.env d (.cp []),s.o,s.nx+1⟩:=by
  refine propext ⟨fun h=> ?_,fun h=> .inr ⟨(fun e=>by cases e),fun _=>h⟩⟩
  rcases h with⟨rs,_,h⟩|h
  ·exact h
  ·exact h.2 rfl
@[go_sem] theorem Xz {l:List Operand} (hl:args.toList=l):Ej P X K ⟨d, .call ⟨.value f,args,ts⟩,g⟩ s f l true=B4 P X K ⟨d, .call ⟨.value f,args,ts⟩,g⟩ s:=by
  subst hl
  refine propext ⟨fun h=> ?_,fun h=> .inr ⟨fun _=>h,(fun e=>by cases e)⟩⟩
  rcases h with⟨rs,h1,h⟩|h
  ·have h1:=h1 rfl
   unfold BZ at h1
   unfold B4 sO nz
   simp only
   split at h1
   ·rename_i fv gg first cap hf
    simp only[hf]
    split at h1
    ·rename_i ds fe
     simp only[fe]
     exact .inl ⟨.ret rs,h1.1, .inr (.inl ⟨h1.2,h⟩)⟩
    ·exact h1.elim
   ·exact h1.elim
  ·exact h.1 rfl
variable {KV:KD}{XV:XD}
@[go_sem] theorem YY {fr:Nat}:MN P KV XV fr ⟨d, .call ⟨.value f,args,ts⟩,g⟩ s=B5 P KV XV s.o s.nx fr (pI s (.call ⟨.value f,args,ts⟩)) (s.ev f) (args.toList.map s.ev):=propext Iff.rfl
@[go_sem] theorem aca {fr:Nat} (h2:gD op=none):MN P KV XV fr ⟨d,op,g⟩ s=uT KV (pI s op) (gN P s fr op):=by simp[MN,h2]
variable {KS:S->Prop}
@[go_sem ↓] theorem zU:qg KS Q .normal s=KS s:=propext Iff.rfl
@[go_sem ↓] theorem T7 {id:Nat}:qg KS Q (.exit id) s=Q (.exit id) s:=propext Iff.rfl
@[go_sem ↓] theorem XA:qg KS Q .ret s=Q .ret s:=propext Iff.rfl
@[go_sem ↓] theorem re {v:V}:qg KS Q (.bU v) s=Q (.bU v) s:=propext Iff.rfl
@[go_sem ↓] theorem MO {id:Nat}:fT id Q .normal s=Q .normal s:=propext Iff.rfl
@[go_sem ↓] theorem Qu {id:Nat}:fT id Q (.exit id) s=Q .normal s:=by simp[fT]
@[go_sem ↓] theorem N2 {id j:Nat} (h:j≠id):fT id Q (.exit j) s=Q (.exit j) s:=by simp[fT,h]
@[go_sem ↓] theorem T8 {id:Nat}:fT id Q .ret s=Q .ret s:=propext Iff.rfl
@[go_sem ↓] theorem oS {id:Nat} {v:V}:fT id Q (.bU v) s=Q (.bU v) s:=propext Iff.rfl
def N3(out:R)(x:Option (List D)):Prop:=match x with|some ds=>out= .ret ds|none=>False
@[go_sem] theorem XB {out:R} {ds:List D}:N3 out (some ds)=(out= .ret ds):=propext Iff.rfl
def T9(out:R)(x:Option D):Prop:=match x with|some d=>out= .bU d|none=>False
@[go_sem] theorem rj {out:R} {d:D}:T9 out (some d)=(out= .bU d):=propext Iff.rfl
def N4(out:R)(o:Nat->ab)(x:Option (List V)):Prop:=match x with|some vs=>N3 out (ct o vs)|none=>False
@[go_sem] theorem XC {out:R} {o:Nat->ab} {vs:List V}:N4 out o (some vs)=N3 out (ct o vs):=propext Iff.rfl
variable {rs:List ResultVar}{out:R}
@[go_sem ↓] theorem XE:DV P rs out .ret s=N4 out s.o (mc P s rs):=propext Iff.rfl
@[go_sem ↓] theorem N5:DV P rs out .normal s=N4 out s.o (mc P s rs):=propext Iff.rfl
@[go_sem ↓] theorem ri {v:V}:DV P rs out (.bU v) s=T9 out (eg s.o v):=propext Iff.rfl
def Ca(K:V->(Nat->ab)->Nat->Prop)(o:Nat->ab)(nx:Nat)(x:Fix (Option (List V)) (K,o,nx)):Prop:=match x with
 |some [v]=>K v o nx
 |some vs=>K (.cp vs) o nx
 |none=>False
@[go_sem] theorem YZ {K:V->(Nat->ab)->Nat->Prop} {o:Nat->ab} {nx:Nat} {v:V}:Ca K o nx (some [v])=K v o nx:=propext Iff.rfl
@[go_sem] theorem Y0 {K:V->(Nat->ab)->Nat->Prop} {o:Nat->ab} {nx:Nat}:Ca K o nx (some [])=K (.cp []) o nx:=propext Iff.rfl
@[go_sem] theorem Y1 {K:V->(Nat->ab)->Nat->Prop} {o:Nat->ab} {nx:Nat} {v u:V} {l:List V}:Ca K o nx (some (v::u::l))=K (.cp (v::u::l)) o nx:=propext Iff.rfl
theorem FC{K X:V->(Nat->ab)->Nat->Prop}:mi P rs K X .ret s=Ca K s.o s.nx (mc P s rs):=by
 unfold mi Ca
 cases mc P s rs with
 |none=>rfl
 |some l=>match l with
  |[]=>rfl
  |[_]=>rfl
  |_::_::_=>rfl
@[go_sem ↓] theorem Y2 {K X:V->(Nat->ab)->Nat->Prop}:rQ P rs K X .ret s=Ca K s.o s.nx (mc P s rs):=FC
@[go_sem ↓] theorem Qv {K X:V->(Nat->ab)->Nat->Prop}:rQ P rs K X .normal s=Ca K s.o s.nx (mc P s rs):=(FC (X:=X):mi P rs K X .ret s=_)
@[go_sem ↓] theorem uf {K X:V->(Nat->ab)->Nat->Prop} {v:V}:rQ P rs K X (.bU v) s=X v s.o s.nx:=propext Iff.rfl
variable {KE:S->Fp->Prop}{KP:V->List Nat->Fp->Prop}{pr:List (List Nat)}{fr:Nat}{fp:Fp}
@[go_sem] theorem Y3:qu P KE KP pr [] fr s fp=KE s fp:=propext Iff.rfl
@[go_sem] theorem XF {d:Option Nat} {op:Op} {l:List cz}:qu P KE KP pr (⟨d,op,none⟩::l) fr s fp=
 MN P (fun v Δ rd=>qu P KE KP pr l (fr+1) ⟨bu s.env d v,put s.o Δ,s.nx⟩ (fp++[(rd,Δ.map (·.1))]))
  (fun v ws rd=>B6 P (KP v) pr l (fr+1) (fp++[(rd,[])]) [fp.length] (ws++fp.flatMap (·.2)) ⟨bu s.env d .aa,s.o,s.nx⟩) fr ⟨d,op,none⟩ s:=propext Iff.rfl
@[go_sem] theorem XG {d:Option Nat} {op:Op} {g:Nat} {w:Bool} {l:List cz}:qu P KE KP pr (⟨d,op,some (g,w)⟩::l) fr s fp=
 ku w (MN P (fun v Δ rd=>qu P KE KP pr l (fr+1) ⟨bu s.env d v,put s.o Δ,s.nx⟩ (fp++[(rd,Δ.map (·.1))]))
  (fun v ws rd=>B6 P (KP v) pr l (fr+1) (fp++[(rd,[])]) [fp.length] (ws++fp.flatMap (·.2)) ⟨bu s.env d .aa,s.o,s.nx⟩) fr ⟨d,op,some (g,w)⟩ s)
   (qu P KE KP pr l (fr+1) ⟨bu s.env d (.cp []),s.o,s.nx⟩ (fp++[([],[])])) (s.env g):=propext Iff.rfl
end
attribute [go_sem] T3 gD lu gN one lN bu S.ev BZ
theorem au{ι:Type}{b:Nat}{st:ι->S}{bP:ι->Prop}{pq:ι->Nat}{i:ι}{s:S}(j:ι)(h1:bP j)(h2:pq j<pq i)(h3:bM b s (st j)):FA b st bP pq i s:=⟨j,h1,h2,h3⟩
attribute [irreducible] kX tz B4 zR Ej sO nz B1 Ki Kj Fz sN B0 kW HD jw ku Kl nA rO rP B5 uT MN qu B6 wQ xW rQ Ca NW xX uV N3 T9 N4 uU FA
end Go.Proofs.YtonbelhklnmjnaaGreat
namespace Go.Proofs.YtonbelhklnmjnaaGreat
section
variable (ρ:Nat->Option Nat)(o' o:Nat->ab)(nx:Nat)
end
section
variable {M M':Nat->Prop}{φ aQ:Place}{H H':Hp}{w:World}{ρ:Nat->Option Nat}{nx:Nat}
end
end Go.Proofs.YtonbelhklnmjnaaGreat
