/-
  A PART OF THE PROOF. Conditions: none.
-/
import Derived.Test.YtonbelhklnmjnaaGreatLa7
set_option linter.unusedSimpArgs false
set_option linter.unusedVariables false
namespace Go.Proofs.YtonbelhklnmjnaaGreat
def tA(P:Program)(g:FuncId)(ds:List D)(Kf Kb KX:V->Prop):Prop:=
 (∃rs,aR P g ds (.ret rs)/\(Kf (jT rs)\/(D.kz rs=true/\Kb (jT rs))))\/(∃x,aR P g ds (.cc x)/\x.flat=true/\KX (.d x))\/(∃v,Ra P g ds v/\Kf v)
def jK(P:Program)(g:FuncId)(args:List V)(o:Nat->ae)(nx fr:Nat)(K:V->List (Nat×ae)->List Nat->Prop)(KX:V->List Nat->List Nat->Prop):Prop:=
 ∃rd Δ,rd.all (fun id=>decide (id<nx))=true/\((∃rs,Gd P g args rd o (.ret rs) Δ/\K (jT rs) Δ rd)\/(∃x,Gd P g args rd o (.cc x) Δ/\KX (.d x) (Δ.map (·.1)) rd)\/(∃v,yz P g args rd o fr v Δ/\K v Δ rd))
def Bz(P:Program)(s:S)(fr:Nat)(o:cI)(K:V->List (Nat×ae)->List Nat->Prop)(KX:V->List Nat->List Nat->Prop):Prop:=
 match o.op with
 | .call c=>match c.callee with
   | .value f=>match s.ev f with
     | .func (.func g) first cap=>match cE s.o (first++c.args.toList.map s.ev++cap)with
       |some ds=>tA P g ds (fun v=>K v (dy s.o (V.bO (first++c.args.toList.map s.ev++cap))) (qk s o.op)) (fun v=>K v [] (qk s o.op)) (fun v=>KX v [] (qk s o.op))\/jK P g (first++c.args.toList.map s.ev++cap) s.o s.nx fr K KX
       |none=>jK P g (first++c.args.toList.map s.ev++cap) s.o s.nx fr K KX
     |_=>False
   |_=>match gQ P s fr o.op with
    |some (v,Δ,_)=>K v Δ (qk s o.op)
    |none=>False
 |op=>match gQ P s fr op with
  |some (v,Δ,_)=>K v Δ (qk s o.op)
  |none=>False
abbrev Fp:=List (List Nat×List Nat)
def jh(P:Program)(KB:List Nat->Fp->Prop)(pr:List (List Nat)):List cI->Nat->S->Fp->List Nat->List Nat->Prop
 |[],_,_,fp,_,ws=>KB ws fp
 |o::l,fr,s,fp,bad,ws=>if(pr.getD fp.length []).any (fun j=>bad.contains j)=true then jh P KB pr l (fr+1) ⟨bF s.env o.dst .aa,s.o,s.nx⟩ (fp++[([],[])]) (bad++[fp.length]) ws
  else match o.gd with
  |none=>Bz P s fr o (fun v Δ rd=>jh P KB pr l (fr+1) ⟨bF s.env o.dst v,put s.o Δ,s.nx⟩ (fp++[(rd,Δ.map (·.1))]) bad (ws++Δ.map (·.1))) (fun _ _ _=>False)
  |some (d,want)=>match s.env d with
   | .d (.bool b)=>if b=want then Bz P s fr o (fun v Δ rd=>jh P KB pr l (fr+1) ⟨bF s.env o.dst v,put s.o Δ,s.nx⟩ (fp++[(rd,Δ.map (·.1))]) bad (ws++Δ.map (·.1))) (fun _ _ _=>False)
    else jh P KB pr l (fr+1) ⟨bF s.env o.dst (.cA []),s.o,s.nx⟩ (fp++[([],[])]) bad ws
   | .cA []=>jh P KB pr l (fr+1) ⟨bF s.env o.dst (.cA []),s.o,s.nx⟩ (fp++[([],[])]) bad ws
   |_=>False
def lE(P:Program)(K:S->Fp->Prop)(KP:V->List Nat->Fp->Prop)(pr:List (List Nat)):List cI->Nat->S->Fp->Prop
 |[],_,s,fp=>K s fp
 |o::l,fr,s,fp=>match o.gd with
  |none=>Bz P s fr o (fun v Δ rd=>lE P K KP pr l (fr+1) ⟨bF s.env o.dst v,put s.o Δ,s.nx⟩ (fp++[(rd,Δ.map (·.1))]))
   (fun v ws rd=>jh P (KP v) pr l (fr+1) ⟨bF s.env o.dst .aa,s.o,s.nx⟩ (fp++[(rd,[])]) [fp.length] (ws++fp.flatMap (·.2)))
  |some (d,want)=>match s.env d with
   | .d (.bool b)=>if b=want then Bz P s fr o (fun v Δ rd=>lE P K KP pr l (fr+1) ⟨bF s.env o.dst v,put s.o Δ,s.nx⟩ (fp++[(rd,Δ.map (·.1))]))
         (fun v ws rd=>jh P (KP v) pr l (fr+1) ⟨bF s.env o.dst .aa,s.o,s.nx⟩ (fp++[(rd,[])]) [fp.length] (ws++fp.flatMap (·.2)))
    else lE P K KP pr l (fr+1) ⟨bF s.env o.dst (.cA []),s.o,s.nx⟩ (fp++[([],[])])
   | .cA []=>lE P K KP pr l (fr+1) ⟨bF s.env o.dst (.cA []),s.o,s.nx⟩ (fp++[([],[])])
   |_=>False
def E1(pr:List (List Nat))(nx:Nat)(Q:fG->S->Prop)(s:S)(fp:Fp):Prop:=iX pr fp=true/\Q .normal ⟨s.env,s.o,nx⟩
def dstsOf(l:List cI):List Nat:=l.filterMap (·.dst)
def CH(pr:List (List Nat))(l:List cI)(s0:S)(Q:fG->S->Prop)(v:V)(wl:List Nat)(fp:Fp):Prop:=iX pr fp=true/\Q (.cc v) (qq (dstsOf l) wl l.length s0)
def nM:List cI->List fO->S->Nat->S
 |_,_,s,0=>s
 |o::l,x::xs,s,j+1=>nM l xs (xj o.dst x s) j
 |_,_,s,_=>s
def yE(cF:List fO):Fp:=cF.map fun x=>(xJ x,lC x)
section
variable {P:Program}{n b:Nat}
theorem CI{s:S}{fr:Nat}{o:cI}{K:V->List (Nat×ae)->List Nat->Prop}{KX:V->List Nat->List Nat->Prop}(h:Bz P s fr o K KX):(∃v Δ rd,yA P s fr o.op v Δ rd/\K v Δ rd)\/(∃v ws rd,Cz P s o.op v ws rd/\KX v ws rd):=by
 have hs:∀ {op:Op},o.op=op->(match gQ P s fr op with|some (v,Δ,_)=>K v Δ (qk s o.op)|none=>False)->(∃v Δ rd,yA P s fr o.op v Δ rd/\K v Δ rd):=by
  intro op ey h
  split at h
  ·rename_i v Δ rd he;exact⟨v,Δ,_, .inl ⟨⟨rd,by rw[ey];exact he⟩,rfl⟩,h⟩
  ·exact h.elim
 unfold Bz at h
 split at h
 ·rename_i c hc
  split at h
  ·rename_i f e7
   split at h
   ·rename_i g first cap hf
    split at h
    ·rename_i ds fk
     rcases h with(⟨rs,hP,h|⟨pF,h⟩⟩|⟨x,hP,pF,h⟩|⟨v,hP,h⟩)|⟨rd,Δ,nk,⟨rs,hH,h⟩|⟨x,hH,h⟩|⟨v,hH,h⟩⟩
     ·exact .inl ⟨_,_,_, .inr ⟨c,f,g,first,cap,hc,e7,hf, .inl ⟨ds,rs,fk,hP,rfl,rfl, .inl rfl⟩⟩,h⟩
     ·exact .inl ⟨_,_,_, .inr ⟨c,f,g,first,cap,hc,e7,hf, .inl ⟨ds,rs,fk,hP,rfl,rfl, .inr ⟨pF,rfl⟩⟩⟩,h⟩
     ·exact .inr ⟨_,_,_,⟨c,f,g,first,cap,hc,e7,hf, .inl ⟨ds,x,fk,hP,pF,rfl,rfl,rfl⟩⟩,h⟩
     ·exact .inl ⟨_,_,_, .inr ⟨c,f,g,first,cap,hc,e7,hf, .inr (.inr (.inl ⟨ds,fk,hP,rfl,rfl⟩))⟩,h⟩
     ·exact .inl ⟨_,_,_, .inr ⟨c,f,g,first,cap,hc,e7,hf, .inr (.inl ⟨rs,hH,rfl,fun id aC=>by simpa using List.all_eq_true.1 nk id aC⟩)⟩,h⟩
     ·exact .inr ⟨_,_,_,⟨c,f,g,first,cap,hc,e7,hf, .inr ⟨x,Δ,hH,rfl,rfl,fun id aC=>by simpa using List.all_eq_true.1 nk id aC⟩⟩,h⟩
     ·exact .inl ⟨_,_,_, .inr ⟨c,f,g,first,cap,hc,e7,hf, .inr (.inr (.inr ⟨hH,fun id aC=>by simpa using List.all_eq_true.1 nk id aC⟩))⟩,h⟩
    ·obtain⟨rd,Δ,nk,⟨rs,hH,h⟩|⟨x,hH,h⟩|⟨v,hH,h⟩⟩:=h
     ·exact .inl ⟨_,_,_, .inr ⟨c,f,g,first,cap,hc,e7,hf, .inr (.inl ⟨rs,hH,rfl,fun id aC=>by simpa using List.all_eq_true.1 nk id aC⟩)⟩,h⟩
     ·exact .inr ⟨_,_,_,⟨c,f,g,first,cap,hc,e7,hf, .inr ⟨x,Δ,hH,rfl,rfl,fun id aC=>by simpa using List.all_eq_true.1 nk id aC⟩⟩,h⟩
     ·exact .inl ⟨_,_,_, .inr ⟨c,f,g,first,cap,hc,e7,hf, .inr (.inr (.inr ⟨hH,fun id aC=>by simpa using List.all_eq_true.1 nk id aC⟩))⟩,h⟩
   ·exact h.elim
  ·rw[hc]at h;exact .inl (hs hc (by rw[hc];exact h))
 ·exact .inl (hs rfl h)
def OR(P:Program)(KB:List Nat->Fp->Prop)(pr:List (List Nat))(l:List cI)(fr:Nat)(s:S)(fp:Fp)(bad ws:List Nat):Prop:=
    ∃cF:List fO,cF.length=l.length/\(∀j o x,l[j]? =some o->cF[j]? =some x->Rb P (nM l cF s j) (fr+j) o x)/\
     (∀ (j:Nat),cF[j]? =some fO.eT->∃i∈pr.getD (fp.length+j) [],i∈bad\/∃j',j'<j/\i=fp.length+j'/\cF[j']? =some .eT)/\(∀x∈cF,x= .eT\/x.ok=true)/\
     ∃wl,KB wl (fp++yE cF)/\(∀id∈ws,id∈wl)/\∀x∈cF,∀id∈lC x,id∈wl
theorem CJ{KB:List Nat->Fp->Prop}{pr:List (List Nat)}:∀ (l:List cI) (fr:Nat) (s:S) (fp:Fp) (bad ws:List Nat),jh P KB pr l fr s fp bad ws->OR P KB pr l fr s fp bad ws
 |[],fr,s,fp,bad,ws,h=>⟨[],rfl,fun j o x hj=>by simp at hj,fun j hj=>by simp at hj,fun x hx=>by simp at hx,ws,by simpa[yE,jh]using h,fun _ h=>h,fun x hx=>by simp at hx⟩
 |o::l,fr,s,fp,bad,ws,h=>by
  have step:∀ (x:fO) (OS Rf:List Nat),Rb P s fr o x->jh P KB pr l (fr+1) (xj o.dst x s) (fp++[(xJ x,lC x)]) OS Rf->(x= .eT\/x.ok=true)->(x= .eT->∃i∈pr.getD fp.length [],i∈bad)->
   (∀i∈OS,i∈bad\/(i=fp.length/\x= .eT))->(∀id∈ws,id∈Rf)->(∀id∈lC x,id∈Rf)->
   OR P KB pr (o::l) fr s fp bad ws:=by
   intro x OS Rf bA hr hbo Ij UC OP hW
   obtain⟨cF,h1,h2,h3,h4,wl,h5,h6,h7⟩:=CJ l (fr+1) _ _ OS Rf hr
   refine⟨x::cF,by simp[h1],fun j o' y hj hy=> ?_,fun j hj=> ?_,fun y hy=> ?_,wl,by simpa[yE]using h5,fun id aC=>h6 id (OP id aC),fun y hy id aC=> ?_⟩
   ·cases j with
    |zero=>exact TX
    |succ j=>
     have:=h2 j o' y ly Ka
     rw[show fr+(j+1)=fr+1+j by omega]
     exact this
   ·cases j with
    |zero=>
     simp at hj
     obtain⟨i,i1,i2⟩:=Ij hj
     exact⟨i,by simpa using i1, .inl i2⟩
    |succ j=>
     obtain⟨i,i1,i2⟩:=h3 j ly
     simp only[List.length_append,List.length_cons,List.length_nil]at i1 i2
     refine⟨i,by rw[show fp.length+(j+1)=fp.length+(0+1)+j by omega];exact i1, ?_⟩
     rcases i2 with i2|⟨j',j1,j2,j3⟩
     ·rcases UC i i2 with hb|⟨e1,e2⟩
      ·exact .inl hb
      ·exact .inr ⟨0,ad,ad,by simp[e2]⟩
     ·exact .inr ⟨j'+1,ad,ad,by simpa using j3⟩
   ·rcases List.mem_cons.1 hy with rfl|hy
    ·exact hbo
    ·exact h4 y hy
   ·rcases List.mem_cons.1 hy with rfl|hy
    ·exact h6 id (hW id aC)
    ·exact h7 y hy id aC
  simp only[jh]at h
  split at h
  ·rename_i hb
   obtain⟨j,hj1,Zn⟩:=List.any_eq_true.1 hb
   exact step .eT _ _ trivial h (.inl rfl) (fun _=>⟨j,hj1,by simpa using Zn⟩) (fun i hi=>by
    rcases List.mem_append.1 hi with hi|hi
    ·exact .inl hi
    ·exact .inr ⟨by simpa using hi,rfl⟩) (fun _ h=>h) (fun id aC=>by simp[lC]at aC)
  ·have vF:eB s o.gd true->Bz P s fr o (fun v Δ rd=>jh P KB pr l (fr+1) ⟨bF s.env o.dst v,put s.o Δ,s.nx⟩ (fp++[(rd,Δ.map (·.1))]) bad (ws++Δ.map (·.1))) (fun _ _ _=>False)->OR P KB pr (o::l) fr s fp bad ws:=fun hg h=>by
    rcases CI h with⟨v,Δ,rd,mZ,h⟩|⟨v,Rf,rd,_,h⟩
    ·exact step (.val v Δ rd) bad (ws++Δ.map (·.1)) ⟨hg,mZ⟩ h (.inr rfl) (fun h=>by cases h) (fun i hi=> .inl hi) (fun id aC=>List.mem_append.2 (.inl aC)) (fun id aC=>List.mem_append.2 (.inr aC))
    ·exact h.elim
   have skip:eB s o.gd false->jh P KB pr l (fr+1) ⟨bF s.env o.dst (.cA []),s.o,s.nx⟩ (fp++[([],[])]) bad ws->OR P KB pr (o::l) fr s fp bad ws:=fun hg h=>
    step .skip bad ws hg h (.inr rfl) (fun h=>by cases h) (fun i hi=> .inl hi) (fun id aC=>aC) (fun id aC=>by simp[lC]at aC)
   split at h
   ·rename_i hg;exact vF (by rw[hg];rfl) h
   ·rename_i d want hg
    split at h
    ·rename_i c hv
     split at h
     ·rename_i e;exact vF N7 h
     ·rename_i e;exact skip N7 h
    ·rename_i hv;exact skip (by rw[hg];simp[eB,hv]) h
    ·exact h.elim
def K8(P:Program)(K:S->Fp->Prop)(KP:V->List Nat->Fp->Prop)(pr:List (List Nat))(l:List cI)(fr:Nat)(s:S)(fp:Fp):Prop:=
 ∃cF:List fO,cF.length=l.length/\(∀j o x,l[j]? =some o->cF[j]? =some x->Rb P (nM l cF s j) (fr+j) o x)/\
  (((∀x∈cF,x.ok=true)/\K (nM l cF s l.length) (fp++yE cF))\/
   ∃v wl,(∀ (j:Nat) (v':V) (ws rd:List Nat),cF[j]? =some (fO.cc v' ws rd)->v'=v/\∀id∈ws,id∈wl)/\(∃x∈cF,x.ok=false)/\
    (∀ (j:Nat),cF[j]? =some fO.eT->∃i∈pr.getD (fp.length+j) [],∃j',i=fp.length+j'/\∃y,cF[j']? =some y/\y.ok=false)/\KP v wl (fp++yE cF)/\(∀x∈cF,∀id∈lC x,id∈wl)/\∀id∈fp.flatMap (·.2),id∈wl)
theorem vG{K:S->Fp->Prop}{KP:V->List Nat->Fp->Prop}{pr:List (List Nat)}:∀ (l:List cI) (fr:Nat) (s:S) (fp:Fp),lE P K KP pr l fr s fp->K8 P K KP pr l fr s fp
 |[],fr,s,fp,h=>⟨[],rfl,fun j o x hj=>by simp at hj, .inl ⟨fun x hx=>by simp at hx,by simpa[nM,yE,lE]using h⟩⟩
 |o::l,fr,s,fp,h=>by
  have step:∀ (x:fO),x.ok=true->Rb P s fr o x->lE P K KP pr l (fr+1) (xj o.dst x s) (fp++[(xJ x,lC x)])->K8 P K KP pr (o::l) fr s fp:=by
   intro x NL bA hr
   obtain⟨cF,h1,h2,h3⟩:=vG l (fr+1) _ _ hr
   refine⟨x::cF,by simp[h1],fun j o' y hj hy=> ?_, ?_⟩
   ·cases j with
    |zero=>exact TX
    |succ j=>
     have:=h2 j o' y ly Ka
     rw[show fr+(j+1)=fr+1+j by omega]
     exact this
   ·rcases h3 with⟨h3,h4⟩|⟨v,wl,g1,g2,g3,g4,g5,g6⟩
    ·left
     refine⟨fun y hy=> ?_,by simpa[nM,yE]using h4⟩
     rcases List.mem_cons.1 hy with rfl|hy
     ·exact NL
     ·exact h3 y hy
    ·right
     refine⟨v,wl,fun j v' ws rd hj=> ?_, ?_,fun j hj=> ?_,by simpa[yE]using g4,fun y hy id aC=> ?_,fun id aC=>g6 id (by simp only[List.flatMap_append,List.mem_append];exact .inl aC)⟩
     ·cases j with
      |zero=>simp at hj;rw[hj]at NL;cases NL
      |succ j=>exact g1 j v' ws rd ly
     ·obtain⟨y,y1,y2⟩:=g2;exact⟨y,by simp[y1],y2⟩
     ·cases j with
      |zero=>simp at hj;rw[hj]at NL;cases NL
      |succ j=>
       obtain⟨i,i1,j',i2,y,i3,i4⟩:=g3 j ly
       simp only[List.length_append,List.length_cons,List.length_nil]at i1 i2
       exact⟨i,by rw[show fp.length+(j+1)=fp.length+(0+1)+j by omega];exact i1,j'+1,ad,y,by simpa using i3,i4⟩
     ·rcases List.mem_cons.1 hy with rfl|hy
      ·exact g6 id (by simp only[List.flatMap_append,List.mem_append];exact .inr (by simpa using aC))
      ·exact g5 y hy id aC
  have cc:∀ (v:V) (ws rd:List Nat),Rb P s fr o (.cc v ws rd)->jh P (KP v) pr l (fr+1) ⟨bF s.env o.dst .aa,s.o,s.nx⟩ (fp++[(rd,[])]) [fp.length] (ws++fp.flatMap (·.2))->K8 P K KP pr (o::l) fr s fp:=by
   intro v ws rd bA hr
   obtain⟨cF,h1,h2,h3,h4,wl,h5,h6,h7⟩:=CJ l (fr+1) _ _ _ _ hr
   refine⟨fO.cc v ws rd::cF,by simp[h1],fun j o' y hj hy=> ?_, .inr ⟨v,wl,fun j v' Rf uf hj=> ?_,⟨fO.cc v ws rd,au,rfl⟩,fun j hj=> ?_,by simpa[yE,xJ,lC]using h5,fun y hy id aC=> ?_,fun id aC=>h6 id (List.mem_append.2 (.inr aC))⟩⟩
   ·cases j with
    |zero=>exact TX
    |succ j=>
     have:=h2 j o' y ly Ka
     rw[show fr+(j+1)=fr+1+j by omega]
     exact this
   ·cases j with
    |zero=>simp at hj;obtain⟨rfl,rfl,rfl⟩:=hj;exact⟨rfl,fun id aC=>h6 id (List.mem_append.2 (.inl aC))⟩
    |succ j=>
     have hm:=List.mem_of_getElem? (show cF[j]? =some (.cc v' Rf uf) by simpa using hj)
     rcases h4 _ hm with h|h<;>cases h
   ·cases j with
    |zero=>simp at hj
    |succ j=>
     obtain⟨i,i1,i2⟩:=h3 j ly
     simp only[List.length_append,List.length_cons,List.length_nil]at i1 i2
     refine⟨i,by rw[show fp.length+(j+1)=fp.length+(0+1)+j by omega];exact i1, ?_⟩
     rcases i2 with i2|⟨j',j1,j2,j3⟩
     ·exact⟨0,by simpa using i2,_,rfl,rfl⟩
     ·exact⟨j'+1,ad, .eT,by simpa using j3,rfl⟩
   ·rcases List.mem_cons.1 hy with rfl|hy
    ·simp[lC]at aC
    ·exact h7 y hy id aC
  have vF:eB s o.gd true->Bz P s fr o (fun v Δ rd=>lE P K KP pr l (fr+1) ⟨bF s.env o.dst v,put s.o Δ,s.nx⟩ (fp++[(rd,Δ.map (·.1))]))
   (fun v ws rd=>jh P (KP v) pr l (fr+1) ⟨bF s.env o.dst .aa,s.o,s.nx⟩ (fp++[(rd,[])]) [fp.length] (ws++fp.flatMap (·.2)))->K8 P K KP pr (o::l) fr s fp:=fun hg h=>by
   rcases CI h with⟨v,Δ,rd,mZ,h⟩|⟨v,ws,rd,mZ,h⟩
   ·exact step (.val v Δ rd) rfl ⟨hg,mZ⟩ h
   ·exact cc v ws rd ⟨hg,mZ⟩ h
  have skip:eB s o.gd false->lE P K KP pr l (fr+1) ⟨bF s.env o.dst (.cA []),s.o,s.nx⟩ (fp++[([],[])])->K8 P K KP pr (o::l) fr s fp:=fun hg h=>step .skip rfl hg h
  simp only[lE]at h
  split at h
  ·rename_i hg;exact vF (by rw[hg];rfl) h
  ·rename_i d want hg
   split at h
   ·rename_i c hv
    split at h
    ·rename_i e;exact vF N7 h
    ·rename_i e;exact skip N7 h
   ·rename_i hv;exact skip (by rw[hg];simp[eB,hv]) h
   ·exact h.elim
end
end Go.Proofs.YtonbelhklnmjnaaGreat
namespace Go.Proofs.YtonbelhklnmjnaaGreat
def m8(env:Nat->V):List Nat->List V->Nat->V
 |t::ps,v::vs=>m8 (aK env t v) ps vs
 |_,_=>env
def K9(pr:List (List Nat))(m:Nat):Bool:=(List.range pr.length).all fun k=>Nat.blt k m||Nat.beq ((eM pr []).getD k 0) (2^k - 1)
def La(P:Program)(l:List cI)(pr:List (List Nat))(Q:fG->S->Prop)(s:S):Prop:=
 ∃m,m<=l.length/\K9 pr m=true/\lE P (fun s' fp=>iX pr fp=true/\pP P (fun v s=>Q (.cc v) s) (Q .normal) (l.drop m) ⟨s'.env,s'.o,s.nx+m⟩) (fun _ _ _=>False) pr (l.take m) s.nx s []
def uD(P:Program)(n b:Nat)(rd:Bool):IC->(fG->S->Prop)->S->Prop
 | .skip,Q,s=>Q .normal s
 | .af l,Q,s=>pP P (fun v s=>Q (.cc v) s) (Q .normal) l s
 | .dx l pr,Q,s=>lE P (E1 pr (s.nx+l.length) Q) (CH pr l s Q) pr l s.nx s []\/La P l pr Q s
 | .seq x y,Q,s=>uD P n b rd x (qN (uD P n b rd y Q) Q) s
 | .cond c x y,Q,s=>match s.ev c with
   | .d (.bool t)=>qZ t (uD P n b rd x Q s) (uD P n b rd y Q s)
   | .fm=>uD P n b rd x Q s/\uD P n b rd y Q s
   |_=>False
 | .block id x,Q,s=>uD P n b rd x (fY id Q) s
 | .loop x,Q,s=>K0 b (uD P n b rd x) Q s
 | .exit id,Q,s=>Q (.exit id) s
 | .ret,Q,s=>Q .ret s
 | .HI g ps x y,Q,s=>rd=false/\Zx P n b g ps x y Q s
 | .bad,_,_=>False
section
variable {P:Program}{n b:Nat}{rd:Bool}
theorem vH:∀ (l:List cI) (cF:List fO) (s:S) (k:Nat) (o:cI) (x:fO),l[k]? =some o->cF[k]? =some x->nM l cF s (k+1)=xj o.dst x (nM l cF s k)
 |[],_,_,_,_,_,h,_=>by simp at h
 |o::l,[],_,_,_,_,_,h=>by simp at h
 |o::l,x::xs,s,0,o',x',h,h'=>by simp at h h';subst h;subst h';cases l<;>cases xs<;>rfl
 |o::l,x::xs,s,k+1,o',x',h,h'=>by
  simp only[nM]
  exact vH l xs _ k o' x' HG (by simpa using h')
theorem yF(l:List cI)(cF:List fO)(s:S)(hl:cF.length=l.length):∀k,k<=l.length->fg (cq l) (fun i=>cF.getD i default) (fun _=>true) s k=nM l cF s k:=by
 intro k
 induction k with
 |zero=>intro _;cases l<;>cases cF<;>rfl
 |succ k ih=>
  intro hk
  have h1:l[k]? =some (cq l k):=by simp[cq,List.getD_eq_getElem?_getD,List.getElem?_eq_getElem (by omega:k<l.length)]
  have h2:cF[k]? =some (cF.getD k default):=by simp[List.getD_eq_getElem?_getD,List.getElem?_eq_getElem (by omega:k<cF.length)]
  simp only[fg,if_true,ih (by omega)]
  rw[vH l cF s k _ _ h1 h2]
theorem nN{ops:Array Oper}:∀ (l:List Oper) (l':List cI),lK n ops l=some l'->l'.length=l.length
 |[],_,h=>by simp[lK]at h;subst h;rfl
 |o::l,l',h=>by
  simp only[lK]at h
  split at h
  ·rename_i hx;injection h with h;subst h;simp[nN l _ hx]
  ·cases h
theorem Ip(bM:P.follows .mixedOrders=true){id:Nat}{ops:Array Oper}{l:List cI}{Q Q':fG->S->Prop}{s:S}(hQ:∀e s,Q e s->Q' e s)(sE:lK n ops ops.toList=some l)(ht:zV l (iw ops)=true)
 (hp:Uh (iw ops)=true) (h:lE P (E1 (iw ops) (s.nx+l.length) Q) (CH (iw ops) l s Q) (iw ops) l s.nx s []):jR P n b rd (.region id ops true) Q' s:=by
 intro M cZ H0 w0 cx φ a w ro k hs
 obtain⟨cF,hl,bA,kB⟩:=vG l _ _ _ h
 have hlen:l.length=ops.size:=by rw[nN _ _ sE];simp
 have tl:∀k,k<ops.size->(iw ops).getD k []=bW ops k:=by
  intro k hk;simp[iw,List.getD_eq_getElem?_getD,List.getElem?_map,List.getElem?_range hk]
 have BJ:(iw ops).length=ops.size:=by simp[iw]
 have mZ:=yF l cF s hl
 have Hx:∀k,k<ops.size->l[k]? =some (cq l k):=fun k hk=>by simp[cq,List.getD_eq_getElem?_getD,List.getElem?_eq_getElem (by omega:k<l.length)]
 have uY:∀k,k<ops.size->cF[k]? =some (cF.getD k default):=fun k hk=>by simp[List.getD_eq_getElem?_getD,List.getElem?_eq_getElem (by omega:k<cF.length)]
 have sw:∀k,k<ops.size->cF.getD k default∈cF:=fun k hk=>List.mem_of_getElem? (uY k hk)
 have OA:∀k,k<ops.size->(yE cF)[k]? =some (xJ (cF.getD k default),lC (cF.getD k default)):=fun k hk=>by
  simp only[yE,List.getElem?_map,uY k hk,Option.map_some]
 have UD:(yE cF).length=ops.size:=by simp[yE,hl,hlen]
 simp only[List.nil_append,List.length_nil,Nat.zero_add]at kB
 have u7:iX (iw ops) (yE cF)=true:=by
  rcases kB with⟨_,h⟩|⟨v,wl,_,_,_,h,_⟩
  ·exact h.1
  ·exact h.1
 have Iq:∀k,k<ops.size->∀j∈bW ops k,j<k:=fun k hk j hj=>by
  have:=List.all_eq_true.1 hp k (by simpa[BJ]using hk)
  rw[tl k hk]at this
  simpa using List.all_eq_true.1 this j hj
 have Lb:∀k,k<(iw ops).length->∀j∈(iw ops).getD k [],j<k:=fun k hk j hj=>by
  rw[BJ]at hk;rw[tl k hk]at hj;exact Iq k hk j hj
 let po:Nat->Nat->Prop:=fun k j=>((eM (iw ops) []).getD k 0).testBit j=true
 have Gh:∀E:Nat->Bool,(∀k,k<ops.size->E k=true->∀j∈bW ops k,E j=true)->∀k,k<ops.size->(∀j∈bW ops k,E j=true)->∀j,po k j->E j=true:=fun E hE k hk hj j hb=>
  qs Lb (fun k hk fC j hj=>by rw[BJ]at hk;rw[tl k hk]at hj;exact hE k hk fC j hj) k Of (by rw[tl k hk];exact hj) j hb
 have CF:∀k,k<ops.size->∀j,po k j->j<k:=fun k hk j hb=>BL Lb k Of j hb
 have AB:∀i j,i<j->j<ops.size-> ¬po j i->Compat (cq l) (fun i=>cF.getD i default) (fun i=>xJ (cF.getD i default)) i j:=by
  intro i j hij hj hn
  have Cc:=List.all_eq_true.1 (List.all_eq_true.1 ht j (by simpa[hlen]using hj)) i Og
  have yw:=List.all_eq_true.1 (List.all_eq_true.1 u7 j (by simpa[UD]using hj)) i Og
  have hnc:((eM (iw ops) []).getD j 0).testBit i=false:=by simpa[po]using hn
  rw[hnc,Bool.false_or]at Cc yw
  simp only[Bool.and_eq_true]at Cc yw
  have gi:=OA i ad
  have gj:=OA j hj
  simp only[List.getD_eq_getElem?_getD (l:=yE cF),gi,gj,Option.getD_some]at yw
  have dj:∀ {xs ys:List Nat},np xs ys=true->∀x∈xs,x∉ys:=fun h x hx=>by simpa using List.all_eq_true.1 h x hx
  have fo:∀ {x y:cI},rZ x y=true->∀d,x.dst=some d->d∉fI y:=fun h d hd=>by simpa[rZ,hd]using h
  exact⟨fo Cc.1,fo Cc.2,fun id aC=>⟨dj yw.1.1 id aC,dj yw.1.2 id aC⟩,fun id aC=>dj yw.2 id aC⟩
 have Rg:∀i,i<ops.size->Rb P (fg (cq l) (fun i=>cF.getD i default) (fun _=>true) s i) (s.nx+i) (cq l i) (cF.getD i default):=fun i hi=>by
  rw[mZ i (by omega)];exact bA i _ _ (Hx i hi) (uY i hi)
 have dm:∀i,i<ops.size->∀t,(cq l i).dst=some t->(dstsOf l).contains t=true:=fun i hi t ht=>by
  simp only[List.contains_iff_mem,dstsOf,List.mem_filterMap]
  exact⟨cq l i,List.mem_of_getElem? (Hx i hi),ht⟩
 rcases kB with⟨bI,kB⟩|⟨v,wl,q1,q2,q3,q4,q5,q6⟩
 ·refine CE (ac:=fun i=>cF.getD i default) (dl:=dstsOf l) (wl:=(cF.flatMap lC)) bM sE Iq hs Rg (fun i hi hb=> ?_) Gh CF AB dm (fun i hi id aC=> ?_) (fun i v ws uf hi hb=> ?_) (fun _ φ a w iS=> ?_) (fun i v ws uf hi hb=> ?_)
  ·have:=bI _ (sw i hi);rw[hb]at this;cases this
  ·simp only[List.contains_iff_mem,List.mem_flatMap];exact⟨_,sw i hi,aC⟩
  ·have:=bI _ (sw i hi);rw[hb]at this;cases this
  ·rw[mZ ops.size (by omega), <- hlen]at iS
   exact⟨.normal,_,φ,hQ _ _ kB.2,iS,trivial⟩
  ·have:=bI _ (sw i hi);rw[hb]at this;cases this
 ·refine CE (ac:=fun i=>cF.getD i default) (dl:=dstsOf l) (wl:=wl) bM sE Iq hs Rg (fun i hi hb=> ?_) Gh CF AB dm (fun i hi id aC=> ?_) (fun i v' ws uf hi hb=> ?_) (fun bI φ a w iS=> ?_) (fun i v' ws uf hi hb φ a w val iS hd=> ?_)
  ·obtain⟨j,j1,j',e,y,j3,j4⟩:=q3 i T0
   rw[tl i hi,e]at j1
   refine⟨j',j1, ?_⟩
   simp only[List.getD_eq_getElem?_getD,j3,Option.getD_some,j4]
  ·simp only[List.contains_iff_mem];exact q5 _ (sw i hi) id aC
  ·intro id aC
   simp only[List.contains_iff_mem]
   exact(q1 i v' ws uf T0).2 id aC
  ·obtain⟨x,x1,x2⟩:=q2
   obtain⟨i,Oq,Uk⟩:=List.getElem_of_mem x1
   have hi:i<ops.size:=ad
   have:=bI i hi
   have e:cF.getD i default=x:=by simp[List.getD_eq_getElem?_getD,List.getElem?_eq_getElem Oq,Uk]
   rw[e,x2]at this;cases this
  ·have e:=(q1 i v' ws uf T0).1
   subst e
   rw[<- hlen]at iS hd
   exact⟨.cc v',_,φ,hQ _ _ q4.2,iS,val,rfl,hd⟩
theorem yG{ops:Array Oper}:∀ (l:List Oper) (l':List cI) (m:Nat),lK n ops l=some l'->lK n ops (l.drop m)=some (l'.drop m)
 |l,l',0,h=>h
 |[],l',m+1,h=>by simp[lK]at h;subst h;simp[lK]
 |o::l,l',m+1,h=>by
  simp only[lK]at h
  split at h
  ·rename_i x xs hx Ea
   injection h with h;subst h
   exact yG l xs m Ea
  ·cases h
theorem Lc{l:List cI}{ac:Nat->fO}{E:Nat->Bool}{s:S}{m:Nat}:∀k,k<=m->fg (cq l) ac E s k=fg (cq (l.take m)) ac E s k:=by
 intro k
 induction k with
 |zero=>intro _;rfl
 |succ k ih=>
  intro hk
  have:cq l k=cq (l.take m) k:=by simp[cq,List.getD_eq_getElem?_getD,List.getElem?_take,(by omega:k<m)]
  simp only[fg,ih (by omega),this]
theorem E2(bM:P.follows .mixedOrders=true){id:Nat}{ops:Array Oper}{l:List cI}{Q Q':fG->S->Prop}{s:S}(hQ:∀e s,Q e s->Q' e s)(sE:lK n ops ops.toList=some l)(ht:zV l (iw ops)=true)
 (hp:Uh (iw ops)=true) (h:La P l (iw ops) Q s):jR P n b rd (.region id ops true) Q' s:=by
 intro M cZ H0 w0 cx φ a w ro k hs
 obtain⟨m,OC,hto,h⟩:=h
 obtain⟨cF,hl,bA,kB⟩:=vG (l.take m) _ _ _ h
 have hlm:(l.take m).length=m:=by rw[List.length_take];omega
 have hlen:l.length=ops.size:=by rw[nN _ _ sE];simp
 have kB:=kB.resolve_right (fun⟨_,_,_,_,_,q4,_,_⟩=>q4)
 obtain⟨bI,kB⟩:=kB
 have Us:cF.length=m:=ad
 have tl:∀k,k<ops.size->(iw ops).getD k []=bW ops k:=by
  intro k hk;simp[iw,List.getD_eq_getElem?_getD,List.getElem?_map,List.getElem?_range hk]
 have BJ:(iw ops).length=ops.size:=by simp[iw]
 have mZ:∀k,k<=m->fg (cq l) (fun i=>cF.getD i default) (fun _=>true) s k=nM (l.take m) cF s k:=fun k hk=>by
  rw[Lc k hk];exact yF (l.take m) cF s hl k ad
 have Hx:∀k,k<m->(l.take m)[k]? =some (cq l k):=fun k hk=>by
  rw[List.getElem?_take,if_pos hk]
  simp[cq,List.getD_eq_getElem?_getD,List.getElem?_eq_getElem (by omega:k<l.length)]
 have uY:∀k,k<m->cF[k]? =some (cF.getD k default):=fun k hk=>by simp[List.getD_eq_getElem?_getD,List.getElem?_eq_getElem (by omega:k<cF.length)]
 have sw:∀k,k<m->cF.getD k default∈cF:=fun k hk=>List.mem_of_getElem? (uY k hk)
 have OA:∀k,k<m->(yE cF)[k]? =some (xJ (cF.getD k default),lC (cF.getD k default)):=fun k hk=>by
  simp only[yE,List.getElem?_map,uY k hk,Option.map_some]
 have UD:(yE cF).length=m:=by simp[yE,Us]
 simp only[List.nil_append]at kB
 obtain⟨u7,OT⟩:=kB
 have Iq:∀k,k<ops.size->∀j∈bW ops k,j<k:=fun k hk j hj=>by
  have:=List.all_eq_true.1 hp k (by simpa[BJ]using hk)
  rw[tl k hk]at this
  simpa using List.all_eq_true.1 this j hj
 have Lb:∀k,k<(iw ops).length->∀j∈(iw ops).getD k [],j<k:=fun k hk j hj=>by
  rw[BJ]at hk;rw[tl k hk]at hj;exact Iq k hk j hj
 let po:Nat->Nat->Prop:=fun k j=>((eM (iw ops) []).getD k 0).testBit j=true
 have Gh:∀E:Nat->Bool,(∀k,k<ops.size->E k=true->∀j∈bW ops k,E j=true)->∀k,k<ops.size->(∀j∈bW ops k,E j=true)->∀j,po k j->E j=true:=fun E hE k hk hj j hb=>
  qs Lb (fun k hk fC j hj=>by rw[BJ]at hk;rw[tl k hk]at hj;exact hE k hk fC j hj) k Of (by rw[tl k hk];exact hj) j hb
 have CF:∀k,k<ops.size->∀j,po k j->j<k:=fun k hk j hb=>BL Lb k Of j hb
 have AB:∀i j,i<j->j<m-> ¬po j i->Compat (cq l) (fun i=>cF.getD i default) (fun i=>xJ (cF.getD i default)) i j:=by
  intro i j hij hj hn
  have Cc:=List.all_eq_true.1 (List.all_eq_true.1 ht j BH) i Og
  have yw:=List.all_eq_true.1 (List.all_eq_true.1 u7 j (by simpa[UD]using hj)) i Og
  have hnc:((eM (iw ops) []).getD j 0).testBit i=false:=by simpa[po]using hn
  rw[hnc,Bool.false_or]at Cc yw
  simp only[Bool.and_eq_true]at Cc yw
  have gi:=OA i ad
  have gj:=OA j hj
  simp only[List.getD_eq_getElem?_getD (l:=yE cF),gi,gj,Option.getD_some]at yw
  have dj:∀ {xs ys:List Nat},np xs ys=true->∀x∈xs,x∉ys:=fun h x hx=>by simpa using List.all_eq_true.1 h x hx
  have fo:∀ {x y:cI},rZ x y=true->∀d,x.dst=some d->d∉fI y:=fun h d hd=>by simpa[rZ,hd]using h
  exact⟨fo Cc.1,fo Cc.2,fun id aC=>⟨dj yw.1.1 id aC,dj yw.1.2 id aC⟩,fun id aC=>dj yw.2 id aC⟩
 have htl:∀k,m<=k->k<ops.size->∀j,j<k->po k j:=fun k Yc hk j hj=>by
  have:=List.all_eq_true.1 hto k (by simpa[BJ]using hk)
  simp only[Bool.or_eq_true]at this
  rcases this with this|this
  ·exact absurd (Nat.blt_eq.mp this) ad
  ·show((eM (iw ops) []).getD k 0).testBit j=true
   rw[Nat.eq_of_beq_eq_true this,Nat.testBit_two_pow_sub_one]
   exact decide_eq_true hj
 refine E0 (ac:=fun i=>cF.getD i default) (m:=m) (X:=fun v s=>Q' (.cc v) s) (K:=Q' .normal) bM sE Iq ad hs (fun i hi=> ?_) (fun i hi=>bI _ (sw i hi)) Gh CF AB htl ?_ (fun s φ a w hk iS=>⟨.normal,s,φ,hk,iS,trivial⟩) (fun v s' aS a' w' val hx iS hd=>⟨.cc v,s',aS,hx,iS,val,rfl,hd⟩)
 ·rw[mZ i (by omega)];exact bA i _ _ (Hx i hi) (uY i hi)
 ·rw[mZ m (Nat.le_refl _)]
  rw[hlm]at OT
  exact j8 (fun s hs=>hQ _ _ hs) (fun v s hs=>hQ _ _ hs) _ _ _ (yG _ _ m sE) OT
theorem sF{g:V}{ps:List Nat}{x y:IC}{Q Q':fG->S->Prop}{s:S}(hQ:∀e s,Q e s->Q' e s)(h:Cp P n g ps x y Q s):Cp P n g ps x y Q' s:=by
 obtain⟨env,h1,h2⟩:=h
 refine⟨env,h1, ?_⟩
 split at h2
 ·refine nE.mono (fun v o n h=> ?_) (fun v o n h=>hQ _ _ h) h2
  obtain⟨nf,m,e,p,c,d,st,pd,k1,k2,k3⟩:=h
  refine⟨nf,m,e,p,c,d,st,pd,k1,k2, ?_⟩
  cases pd with
  |none=>exact hQ _ _ k3
  |some j=>cases j<;>exact hQ _ _ k3
 ·exact h2
theorem ji(bM:P.follows .mixedOrders=true):∀ (c:Code) (Q Q':fG->S->Prop) (s:S),(∀e s,Q e s->Q' e s)->uD P n b rd (low n c) Q s->jR P n b rd c Q' s:=by
 intro c
 induction c with
 |skip=>exact fun Q Q' s hQ h=>hQ _ _ h
 |scope x ih=>exact fun Q Q' s hQ h=>ih Q Q' s hQ h
 |label l=>exact fun Q Q' s hQ h=>hQ _ _ h
 |exit id=>exact fun Q Q' s hQ h=>hQ _ _ h
 |ret=>exact fun Q Q' s hQ h=>hQ _ _ h
 |goto l=>exact fun Q Q' s hQ h=>h.elim
 |refuse y=>exact fun Q Q' s hQ h=>h.elim
 |rangeFunc f p x y=>
  intro Q Q' s hQ h
  obtain⟨h1,s',hle,h2⟩:=h
  exact⟨h1,s',hle,sF hQ h2⟩
 |region id ops draw=>
  intro Q Q' s hQ h
  cases draw with
  |true=>
   simp only[low]at h
   split at h
   ·rename_i l hl
    split at h
    ·rename_i hc
     simp only[Bool.and_eq_true]at hc
     rcases h with h|h
     ·exact Ip bM hQ hl hc.1 hc.2 h
     ·exact E2 bM hQ hl hc.1 hc.2 h
    ·exact h.elim
   ·exact h.elim
  |false=>
   simp only[low]at h
   split at h
   ·rename_i l hl;exact j8 (fun s hs=>hQ _ _ hs) (fun v s hs=>hQ _ _ hs) _ l s hl h
   ·exact h.elim
 |seq x y OL OM=>
  intro Q Q' s hQ h
  refine OL _ _ s (fun e s he=> ?_) h
  cases e<;>first|exact OM Q Q' s hQ he|exact hQ _ _ he
 |cond c x y OL OM=>
  intro Q Q' s hQ h
  simp only[low,uD]at h
  simp only[jR]
  split at h
  ·rename_i t hc
   simp only[hc]
   exact⟨fun ht=>OL Q Q' s hQ (h.1 ht),fun ht=>OM Q Q' s hQ (h.2 ht)⟩
  ·rename_i hc
   simp only[hc]
   exact⟨OL Q Q' s hQ h.1,OM Q Q' s hQ h.2⟩
  ·exact h.elim
 |block id x ih=>
  intro Q Q' s hQ h
  refine ih _ _ s (fun e s he=> ?_) h
  cases e<;>simp only[fY]at he|- <;>first
   |exact hQ _ _ he
   |(split at he<;>rename_i e
     ·rw[if_pos e];exact hQ _ _ he
     ·rw[if_neg e];exact hQ _ _ he)
 |loop x ih=>
  intro Q Q' s hQ h
  obtain⟨J,h0,hr⟩:=h
  refine⟨J,h0,fun m s0 hJ=>ih _ _ s0 (fun e s he=> ?_) (hr m s0 hJ)⟩
  cases e<;>first|exact hQ _ _ he|exact he
structure aD (P:Program) (f:FuncId) (n:Nat) (ic:IC) (rs:List ResultVar):Prop where
 get:∃fn,P.funcs[f]? =some fn/\(fn.name== "runtime.NumGoroutine")=false/\fn.ntmps=n/\fn.results.toList=rs/\∃c,fn.body=some c/\low n c=ic
theorem cU.vI (bM:P.follows .mixedOrders=true){f:FuncId}{ic:IC}{rs:List ResultVar}(hf:aD P f n ic rs){args:List V}{o:Nat->ae}{nx:Nat}{K X:V->(Nat->ae)->Nat->Prop}(hl:args.length<=n)(h:uD P n nx false ic (mB P rs K X) ⟨cN args,o,nx⟩):cU P f args o nx K X:=by
 obtain⟨fn,h1,h2,rfl,rfl,c,h3,rfl⟩:=hf.get
 exact cU.Gb h1 h2 h3 hl (ji bM c _ _ _ (fun _ _ h=>h) h)
theorem aR.vI (bM:P.follows .mixedOrders=true){f:FuncId}{ic:IC}{rs:List ResultVar}(hf:aD P f n ic rs){ds:List D}{out:R}(hl:ds.length<=n)(h:uD P n 0 false ic (EG P rs out) ⟨cN (ds.map .d),fun _=> .no,0⟩):aR P f ds out:=by
 obtain⟨fn,h1,h2,rfl,rfl,c,h3,rfl⟩:=hf.get
 exact aR.mC (cU.Gb h1 h2 h3 (by simpa using hl) (ji bM c _ _ _ (fun e s h=>Ib e s h) h))
end
end Go.Proofs.YtonbelhklnmjnaaGreat
namespace Go.Proofs.YtonbelhklnmjnaaGreat
abbrev Fix(α:Type){β:Type}(_:β):Type:=α
def lj(K:V->List (Nat×ae)->Prop)(x:Fix (Option gO) K):Prop:=match x with|some (v,Δ,_)=>K v Δ|none=>False
@[go_sem] theorem E3 {v:V} {Δ:List (Nat×ae)} {rd:List Nat} {K}:lj K (some (v,Δ,rd))=K v Δ:=propext Iff.rfl
@[go_sem] theorem UE {K}:lj K none=False:=propext Iff.rfl
def V.AD (c:Bool)(v:V):V:=if c=true then v else .cA []
@[go_sem] theorem ZI (b:Bool):(!!b)=b:=au
attribute [go_sem] true_or or_true false_or ne_eq not_false_eq_true decide_true decide_false Bool.not_true Bool.not_false Bool.and_true Bool.true_and Bool.and_false Bool.false_and Bool.or_true Bool.true_or Bool.or_false Bool.false_or beq_self_eq_true Bool.true_eq_false Bool.false_eq_true not_true_eq_false and_true true_and and_false false_and eq_self
@[go_sem] theorem V.ZJ (v:V):V.AD true v=v:=rfl
@[go_sem] theorem V.Yd (v:V):V.AD false v= .cA []:=rfl
def mS(c:Bool)(p:Prop):Prop:=c=true->p
@[congr] theorem Rh {c c':Bool} {p p':Prop} (h:c=c') (h2:c'=true->p=p'):mS c p=mS c' p':=by
  subst h;cases c
  ·simp[mS]
  ·simp[mS,h2 rfl]
@[go_sem] theorem UF (p:Prop):mS true p=p:=by simp[mS]
@[go_sem] theorem Ri (p:Prop):mS false p=True:=by simp[mS]
@[go_sem] theorem UG (a:Bool):mS a True=True:=by simp[mS]
def mT(v:V)(want:Bool):Option Bool:=
 match v with
 | .d (.bool b)=>some (b==want)
 | .cA []=>some false
 |_=>none
@[go_sem] theorem UH (b:Bool):mT (.d (.bool b)) true=some b:=by simp[mT]
@[go_sem] theorem Rj (b:Bool):mT (.d (.bool b)) false=some (!b):=by simp[mT]
@[go_sem] theorem ZK (want:Bool):mT (.cA []) want=some false:=rfl
@[go_sem] theorem Ye (c b want:Bool):mT (V.AD c (.d (.bool b))) want=some (c&&(b==want)):=by cases c<;>simp[mT,V.AD]
@[go_sem] theorem UI (c b e want:Bool):mT (V.AD c (V.AD e (.d (.bool b)))) want=some (c&&e&&(b==want)):=by cases c<;>cases e<;>simp[mT,V.AD]
def lF(c:Bool)(x:Option gO):Option gO:=
 if c=true then(match x with|some (v,[],_)=>some (v,[],[])|_=>none)else some (.cA [],[],[])
@[congr] theorem OU {c c':Bool} {x x':Option gO} (h:c=c') (h2:c'=true->x=x'):lF c x=lF c' x':=by
  subst h;cases c
  ·rfl
  ·simp[lF,h2 rfl]
def Yf(v:V)(rd:List Nat):Option gO:=some (v,[],rd)
@[go_sem] theorem ad1 (v:V) (rd:List Nat):(some (v,[],rd):Option gO)=Yf v rd:=by unfold Yf;exact Eq.trans rfl rfl
@[go_sem] theorem UJ (c:Bool) (v:V) (rd:List Nat):lF c (Yf v rd)=Yf (V.AD c v) []:=Oh
@[go_sem] theorem Yg {v:V} {rd:List Nat} {K}:lj K (Yf v rd)=K v []:=propext Iff.rfl
@[go_sem] theorem Rk (c:Bool) (v:V) (rd:List Nat):lF c (some (v,[],rd))=some (V.AD c v,[],[]):=Oh
@[go_sem] theorem OV (x:Option gO):lF false x=some (.cA [],[],[]):=rfl
@[go_sem] theorem ZL (b x:Bool):qT (.d (.bool b)) (V.AD b (.d (.bool x))) (.d (.bool false))=some (.d (.bool (b&&x))):=J8
@[go_sem] theorem ads (b x:Bool):qT (.d (.bool b)) (.d (.bool true)) (V.AD (!b) (.d (.bool x)))=some (.d (.bool (b||x))):=J8
@[go_sem] theorem ZM (b x:Bool):qT (.d (.bool (!b))) (.d (.bool true)) (V.AD b (.d (.bool x)))=some (.d (.bool (!b||x))):=J8
@[go_sem] theorem Yh (x y:V):qT (.d (.bool true)) x y=some x:=rfl
@[go_sem] theorem UK (x y:V):qT (.d (.bool false)) x y=some y:=rfl
@[reducible] def lG:Op->Bool
  | .move _| .assign _| .pick .. | .load .. | .binOp .. | .unOp .. | .nilCheck _| .convert .. | .makeInterface .. | .makeFunc .. | .fieldAddr .. | .indexAddr .. | .extract .. | .build .. | .index .. | .field .. | .lookup .. =>true
  | .call c=>match c.callee with
    | .builtin .len=>true
    | .builtin .min=>true
    | .builtin .max=>true
    |_=>false
  |_=>false
def CK(P:Program)(f:V)(args:List V)(o:Nat->ae)(rs:List D):Prop:=
 match f with
 | .func (.func g) first cap=>match cE o (first++args++cap)with
   |some ds=>aR P g ds (.ret rs)/\D.kz rs=true
   |none=>False
 |_=>False
def Gj(P:Program)(f:V)(args:List V)(o:Nat->ae)(K:V->Prop)(c:Fix Bool (f,args,o,K)):Prop:=
 ∃rs,mS c (CK P f args o rs)/\K (V.AD c (jT rs))
def CL(P:Program)(g:FuncId)(nx:Nat)(K X:V->(Nat->ae)->Nat->Prop)(args:Fix (List V) (K,X))(o:Fix (Nat->ae) (K,X)):Prop:=tt P g args o nx K X
def tC(P:Program)(g:FuncId)(o:Nat->ae)(nx:Nat)(K X:V->(Nat->ae)->Nat->Prop)(ds:Fix (List D) (o,nx,K,X))(all:Fix (List V) (o,nx,K,X)):Prop:=
 vz P g ds o (put o (dy o (V.bO all))) (put o (sc o (V.bO all))) (fun v o'=>K v o' (nx+1)) (fun v o'=>X v o' (nx+1))\/tt P g all o nx K X
def nO(P:Program)(g:FuncId)(K X:V->(Nat->ae)->Nat->Prop)(s:S)(all:List V)(ds:Fix (Option (List D)) (K,X,s,all)):Prop:=
 match ds with
 |some ds=>tC P g s.o s.nx K X ds all
 |none=>CL P g s.nx K X all s.o
@[go_sem] theorem Rm {P:Program} {s:S} {ds:List D} {g:FuncId} {all:List V} {K X}:
 nO P g K X s all (some ds)=tC P g s.o s.nx K X ds all:=propext Iff.rfl
def yH(P:Program)(id:Nat)(K X:V->(Nat->ae)->Nat->Prop)(s:S)(args:Fix (List V) (K,X,s)):Prop:=eh P id args s.o s.nx K X
@[go_sem] theorem Rn {P:Program} {s:S} {g:FuncId} {all:List V} {K X}:nO P g K X s all none=CL P g s.nx K X all s.o:=propext Iff.rfl
def tD(P:Program)(K X:V->(Nat->ae)->Nat->Prop)(s:S)(f:Fix V (K,X,s))(args:Fix (List V) (K,X,s)):Prop:=
 match f with
 | .func (.func g) first cap=>nO P g K X s (first++args++cap) (cE s.o (first++args++cap))
 | .j6 id=>yH P id K X s args
 |_=>False
@[go_sem] theorem Yi {P:Program} {s:S} {id:Nat} {args:List V} {K X}:tD P K X s (.j6 id) args=yH P id K X s args:=propext Iff.rfl
@[go_sem] theorem UL {P:Program} {s:S} {g:FuncId} {first cap args:List V} {K X}:tD P K X s (.func (.func g) first cap) args=nO P g K X s (first++args++cap) (cE s.o (first++args++cap)):=propext Iff.rfl
def Ld(P:Program)(g:FuncId)(o:Nat->ae)(nx:Nat)(K X:V->(Nat->ae)->Nat->Prop)(ds:Fix (List D) (o,nx,K,X))(all:Fix (List V) (o,nx,K,X)):Prop:=
 vz P g ds o (put o (dy o (V.bO all))) (put o (sc o (V.bO all))) (fun v o'=>K v o' (nx+1)) (fun v o'=>X v o' (nx+1))
def CM(P:Program)(g:FuncId)(K X:V->(Nat->ae)->Nat->Prop)(s:S)(all:List V)(ds:Fix (Option (List D)) (K,X,s,all)):Prop:=
 match ds with
 |some ds=>Ld P g s.o s.nx K X ds all
 |none=>False
@[go_sem] theorem UM {P:Program} {s:S} {ds:List D} {g:FuncId} {all:List V} {K X}:CM P g K X s all (some ds)=Ld P g s.o s.nx K X ds all:=propext Iff.rfl
def Le(P:Program)(K X:V->(Nat->ae)->Nat->Prop)(s:S)(args:Fix (List V) (K,X,s))(r:Fix (Option (FuncId×V)) (K,X,s)):Prop:=
 match r with
 |some (g,y)=>CM P g K X s (y::args) (cE s.o (y::args))
 |none=>False
@[go_sem] theorem Yj {P:Program} {s:S} {g:FuncId} {y:V} {args:List V} {K X}:Le P K X s args (some (g,y))=CM P g K X s (y::args) (cE s.o (y::args)):=propext Iff.rfl
def Ir(K:V->Prop)(v:Fix V K):Prop:=
 match v with
 | .d (.iface t y)=>K (.d (.iface t y))
 | .iface t y=>K (.iface t y)
 |_=>False
@[go_sem] theorem ad2 {t:TypeId} {y:D} {K}:Ir K (.d (.iface t y))=K (.d (.iface t y)):=propext Iff.rfl
@[go_sem] theorem ad3 {t:TypeId} {y:V} {K}:Ir K (.iface t y)=K (.iface t y):=propext Iff.rfl
def CN(K:V->List (Nat×ae)->Prop)(id:Nat)(l:Fix (List (D×D)) (K,id)):Prop:=FW id l fun v Δ _=>K v Δ
def Lf(K:V->List (Nat×ae)->Prop)(str:Bool)(Yk:Fix (Option gO) (K,str))(left:Fix (Option (Nat×List (D×D))) (K,str)):Prop:=
 match left with
 |some (id,l)=>str=false/\CN K id l
 |none=>lj K Yk
@[go_sem] theorem Yl {K} {Yk:Option gO} {id:Nat} {l:List (D×D)}:Lf K false Yk (some (id,l))=CN K id l:=propext ⟨fun h=>h.2,fun h=>⟨rfl,h⟩⟩
@[go_sem] theorem Ym {K} {str:Bool} {Yk:Option gO}:Lf K str Yk none=lj K Yk:=propext Iff.rfl
def CO(P:Program)(X:V->S->Prop)(K:S->Prop)(o:cI)(s:Fix S (X,K,o)):Prop:=
 match o.op with
 | .next x str=>Lf (fun v Δ=>K ⟨bF s.env o.dst v,put s.o Δ,s.nx+1⟩) str (pc s.o (s.ev x) str) (pg s.o (s.ev x))
 | .call c=>match c.callee with
   | .value f=>tD P (fun v o' nx'=>K ⟨bF s.env o.dst v,o',nx'⟩) (fun v o' nx'=>X v ⟨s.env,o',nx'⟩) s (s.ev f) (c.args.toList.map s.ev)
   | .invoke r m=>Le P (fun v o' nx'=>K ⟨bF s.env o.dst v,o',nx'⟩) (fun v o' nx'=>X v ⟨s.env,o',nx'⟩) s (c.args.toList.map s.ev) (vm P m (s.ev r))
   |_=>lj (fun v Δ=>K ⟨bF s.env o.dst v,put s.o Δ,s.nx+1⟩) (gQ P s s.nx o.op)
 | .panic x=>Ir (fun v=>X v s) (s.ev x)
 |op=>lj (fun v Δ=>K ⟨bF s.env o.dst v,put s.o Δ,s.nx+1⟩) (gQ P s s.nx op)
@[reducible] def gI:Op->Option (Operand×List Operand)
  | .call c=>match c.callee with
    | .value f=>some (f,c.args.toList)
    |_=>none
  |_=>none
def jA(A B:Prop)(t:Fix Bool (A,B)):Prop:=qZ t A B
@[go_sem] theorem UN (A B:Prop):jA A B true=A:=vA A B
@[go_sem] theorem Ro (A B:Prop):jA A B false=B:=tu A B
def E4(P:Program)(X:V->S->Prop)(K:S->Prop)(o:cI)(s:S)(f:Operand)(args:List Operand)(c:Fix Bool (X,K,o,s,f,args)):Prop:=
 Gj P (s.ev f) (args.map s.ev) s.o (fun v=>K ⟨bF s.env o.dst v,s.o,s.nx+1⟩) c\/jA (CO P X K o s) (K ⟨bF s.env o.dst (.cA []),s.o,s.nx+1⟩) c
def AE(P:Program)(X:V->S->Prop)(K:S->Prop)(o:cI)(s:S)(c:Fix (Option Bool) (X,K,o,s)):Prop:=
 match c with
 |none=>False
 |some c=>match gI o.op with
  |some (f,args)=>E4 P X K o s f args c
  |none=>if lG o.op=true then lj (fun v _=>K ⟨bF s.env o.dst v,s.o,s.nx+1⟩) (lF c (gQ P s s.nx o.op))
   else jA (CO P X K o s) (K ⟨bF s.env o.dst (.cA []),s.o,s.nx+1⟩) c
def uj(P:Program)(X:V->S->Prop)(K:S->Prop)(l:List cI)(s:Fix S (X,K,l)):Prop:=
 match l with
 |[]=>K s
 |o::l=>match o.gd with
  |none=>CO P X (uj P X K l) o s
  |some (d,want)=>AE P X (uj P X K l) o s (mT (s.env d) want)
def kC(want:Bool)(A B:Prop)(v:Fix V (A,B)):Prop:=
 match v with
 | .d (.bool b)=>qZ (b==want) A B
 | .cA []=>B
 |_=>False
@[go_sem] theorem Rp (b:Bool) (A B:Prop):kC true A B (.d (.bool b))=jA A B b:=by simp[kC,jA]
@[go_sem] theorem OW (b:Bool) (A B:Prop):kC false A B (.d (.bool b))=jA A B (!b):=by simp[kC,jA]
@[go_sem] theorem Yn (want:Bool) (A B:Prop):kC want A B (.cA [])=B:=propext Iff.rfl
@[go_sem] theorem UO (c b want:Bool) (A B:Prop):kC want A B (V.AD c (.d (.bool b)))=jA A B (c&&(b==want)):=by cases c<;>simp[kC,V.AD,jA]
abbrev KD:=V->List (Nat×ae)->List Nat->Prop
abbrev XD:=V->List Nat->List Nat->Prop
def Lg(P:Program)(g:FuncId)(K:KD)(X:XD)(o:Nat->ae)(rd:List Nat)(ds:Fix (List D) (K,X,o,rd))(all:Fix (List V) (K,X,o,rd)):Prop:=
 tA P g ds (fun v=>K v (dy o (V.bO all)) rd) (fun v=>K v [] rd) (fun v=>X v [] rd)
def sG(P:Program)(g:FuncId)(K:KD)(X:XD)(o:Nat->ae)(nx fr:Nat)(all:Fix (List V) (K,X,o,nx)):Prop:=jK P g all o nx fr K X
def nP(P:Program)(g:FuncId)(K:KD)(X:XD)(o:Nat->ae)(nx fr:Nat)(rd:List Nat)(ds:Fix (List D) (K,X,o,nx,rd))(all:Fix (List V) (K,X,o,nx,rd)):Prop:=Lg P g K X o rd ds all\/sG P g K X o nx fr all
def sH(P:Program)(K:KD)(X:XD)(o:Nat->ae)(nx fr:Nat)(rd:List Nat)(g:FuncId)(all:List V)(ds:Fix (Option (List D)) (K,X,o,nx,rd,all)):Prop:=
 match ds with
 |some ds=>nP P g K X o nx fr rd ds all
 |none=>sG P g K X o nx fr all
@[go_sem] theorem Rq {P:Program} {o:Nat->ae} {nx fr:Nat} {rd:List Nat} {ds:List D} {g:FuncId} {all:List V} {K X}:sH P K X o nx fr rd g all (some ds)=nP P g K X o nx fr rd ds all:=propext Iff.rfl
@[go_sem] theorem Rr {P:Program} {o:Nat->ae} {nx fr:Nat} {rd:List Nat} {g:FuncId} {all:List V} {K X}:sH P K X o nx fr rd g all none=sG P g K X o nx fr all:=propext Iff.rfl
def CP(P:Program)(K:KD)(X:XD)(o:Nat->ae)(nx fr:Nat)(rd:Fix (List Nat) (K,X,o,nx))(f:Fix V (K,X,o,nx))(args:Fix (List V) (K,X,o,nx)):Prop:=
 match f with
 | .func (.func g) first cap=>sH P K X o nx fr rd g (first++args++cap) (cE o (first++args++cap))
 |_=>False
@[go_sem] theorem UP {P:Program} {o:Nat->ae} {nx fr:Nat} {rd:List Nat} {g:FuncId} {first cap args:List V} {K X}:CP P K X o nx fr rd (.func (.func g) first cap) args=sH P K X o nx fr rd g (first++args++cap) (cE o (first++args++cap)):=propext Iff.rfl
def vJ(K:KD)(rd:List Nat)(x:Fix (Option gO) (K,rd)):Prop:=match x with|some (v,Δ,_)=>K v Δ rd|none=>False
@[go_sem] theorem UQ {v:V} {Δ:List (Nat×ae)} {r rd:List Nat} {K}:vJ K rd (some (v,Δ,r))=K v Δ rd:=propext Iff.rfl
@[go_sem] theorem Yo {v:V} {r rd:List Nat} {K}:vJ K rd (Yf v r)=K v [] rd:=propext Iff.rfl
def NM(P:Program)(K:KD)(X:XD)(fr:Nat)(o:cI)(s:Fix S (K,X,o)):Prop:=
 match gI o.op with
 |some (f,args)=>CP P K X s.o s.nx fr (qk s o.op) (s.ev f) (args.map s.ev)
 |none=>vJ K (qk s o.op) (gQ P s fr o.op)
def CQ(P:Program)(KB:List Nat->Fp->Prop)(pr:List (List Nat))(l:List cI)(fr:Nat)(fp:Fix Fp (KB,l))(bad ws:Fix (List Nat) (KB,l))(s:Fix S (KB,l)):Prop:=jh P KB pr l fr s fp bad ws
def ra(P:Program)(K:S->Fp->Prop)(KP:V->List Nat->Fp->Prop)(pr:List (List Nat))(l:List cI)(fr:Nat)(s:Fix S (K,KP,l))(fp:Fix Fp (K,KP,l)):Prop:=
 match l with
 |[]=>K s fp
 |o::l=>match o.gd with
  |none=>NM P (fun v Δ rd=>ra P K KP pr l (fr+1) ⟨bF s.env o.dst v,put s.o Δ,s.nx⟩ (fp++[(rd,Δ.map (·.1))]))
   (fun v ws rd=>CQ P (KP v) pr l (fr+1) (fp++[(rd,[])]) [fp.length] (ws++fp.flatMap (·.2)) ⟨bF s.env o.dst .aa,s.o,s.nx⟩) fr o s
  |some (d,want)=>kC want (NM P (fun v Δ rd=>ra P K KP pr l (fr+1) ⟨bF s.env o.dst v,put s.o Δ,s.nx⟩ (fp++[(rd,Δ.map (·.1))]))
   (fun v ws rd=>CQ P (KP v) pr l (fr+1) (fp++[(rd,[])]) [fp.length] (ws++fp.flatMap (·.2)) ⟨bF s.env o.dst .aa,s.o,s.nx⟩) fr o s)
   (ra P K KP pr l (fr+1) ⟨bF s.env o.dst (.cA []),s.o,s.nx⟩ (fp++[([],[])])) (s.env d)
def OX(pr:List (List Nat))(nx:Nat)(Q:fG->S->Prop)(s:Fix S Q)(fp:Fix Fp Q):Prop:=E1 pr nx Q s fp
def yI(A B:Prop)(v:Fix V (A,B)):Prop:=
 match v with
 | .d (.bool t)=>jA A B t
 | .fm=>A/\B
 |_=>False
@[go_sem] theorem Yp (A B:Prop):yI A B .fm=(A/\B):=propext Iff.rfl
@[go_sem] theorem UR (t:Bool) (A B:Prop):yI A B (.d (.bool t))=jA A B t:=propext Iff.rfl
def Gk{ι:Type}(b:Nat)(st:ι->S)(bU:ι->Prop)(pR:ι->Nat)(i:ι)(s:S):Prop:=∃j,bU j/\pR j<pR i/\bE b s (st j)
def vK(next:S->Prop)(Q:fG->S->Prop)(e:fG)(s:S):Prop:=match e with| .normal=>next s|e=>Q e s
section
variable {N:S->Prop}{Q:fG->S->Prop}{s:S}
@[go_sem ↓] theorem OY:vK N Q .normal s=N s:=propext Iff.rfl
@[go_sem ↓] theorem US {id:Nat}:vK N Q (.exit id) s=Q (.exit id) s:=propext Iff.rfl
@[go_sem ↓] theorem Yq:vK N Q .ret s=Q .ret s:=propext Iff.rfl
@[go_sem ↓] theorem rV {v:V}:vK N Q (.cc v) s=Q (.cc v) s:=propext Iff.rfl
end
def rb(b:Nat)(body:(fG->S->Prop)->S->Prop)(Q:fG->S->Prop)(s:Fix S (body,Q)):Prop:=
 ∃ (ι:Type) (st:ι->S) (bU:ι->Prop) (pR:ι->Nat) (i0:ι),bU i0/\bE b s (st i0)/\∀i,bU i->body (vK (Gk b st bU pR i) Q) (st i)
theorem aE{ι:Type}{b:Nat}{body:(fG->S->Prop)->S->Prop}{Q:fG->S->Prop}{s:S}(st:ι->S)(bU:ι->Prop)(pR:ι->Nat)(i0:ι)(h0:bU i0)(hle:bE b s (st i0))
 (h:∀i,bU i->body (vK (Gk b st bU pR i) Q) (st i)):rb b body Q s:=⟨ι,st,bU,pR,i0,h0,hle,h⟩
def sI(P:Program)(n b:Nat)(rd:Bool)(gop:Operand)(ps:List Nat)(x y:IC)(Q:fG->S->Prop)(s:Fix S (x,y,Q))(g:Fix V (x,y,Q)):Prop:=rd=false/\(Cp P n g ps x y Q s\/∃s',bE b s s'/\Cp P n (s'.ev gop) ps x y Q s')
def kS(P:Program)(n b:Nat)(rd:Bool)(c:IC)(Q:fG->S->Prop)(s:Fix S (c,Q)):Prop:=
 match c with
 | .skip=>Q .normal s
 | .af l=>uj P (fun v s=>Q (.cc v) s) (Q .normal) l s
 | .dx l pr=>ra P (OX pr (s.nx+l.length) Q) (CH pr l s Q) pr l s.nx s []
 | .seq x y=>kS P n b rd x (qN (fun s=>kS P n b rd y Q s) Q) s
 | .cond c x y=>yI (kS P n b rd x Q s) (kS P n b rd y Q s) (s.ev c)
 | .block id x=>kS P n b rd x (fY id Q) s
 | .loop x=>rb b (fun Q s=>kS P n b rd x Q s) Q s
 | .exit id=>Q (.exit id) s
 | .ret=>Q .ret s
 | .HI g ps x y=>sI P n b rd g ps x y Q s (s.ev g)
 | .bad=>False
section
variable {P:Program}{n b:Nat}{rd:Bool}
theorem CS{s:S}{f:V}{args:List V}{K K':V->(Nat->ae)->Nat->Prop}{X X':V->(Nat->ae)->Nat->Prop}(hK:∀v o n,K v o n->K' v o n)(hX:∀v o n,X v o n->X' v o n)(h:tD P K X s f args):
 match(generalizing:=false) f with
  | .func (.func g) first cap=>match cE s.o (first++args++cap)with
    |some ds=>vz P g ds s.o (put s.o (dy s.o (V.bO (first++args++cap)))) (put s.o (sc s.o (V.bO (first++args++cap)))) (fun v o'=>K' v o' (s.nx+1)) (fun v o'=>X' v o' (s.nx+1))\/tt P g (first++args++cap) s.o s.nx K' X'
    |none=>tt P g (first++args++cap) s.o s.nx K' X'
  | .j6 id=>eh P id args s.o s.nx K' X'
  |_=>False:=by
 unfold tD nO yH at h
 split at h
 ·rename_i g first cap
  cases fk:cE s.o (first++args++cap)with
  |some ds=>
   simp only[fk]at h|-
   rcases h with⟨out,h1,h2|⟨h3,h2⟩|⟨h3,h2⟩⟩|h
   ·exact .inl ⟨out,h1, .inl (by cases out<;>first|exact hK _ _ _ h2|exact hX _ _ _ h2)⟩
   ·exact .inl ⟨out,h1, .inr (.inl ⟨h3,by cases out<;>first|exact hK _ _ _ h2|exact hX _ _ _ h2⟩)⟩
   ·exact .inl ⟨out,h1, .inr (.inr ⟨h3,by cases out<;>first|exact hK _ _ _ h2|exact hX _ _ _ h2⟩)⟩
   ·exact .inr (nE.mono hK hX h)
  |none=>
   simp only[fk]at h|-
   exact nE.mono hK hX h
 ·exact eh.mono hK hX h
 ·exact h.elim
theorem yJ{x:Option gO}{K:V->List (Nat×ae)->Prop}(h:lj K x):∃v Δ rd,x=some (v,Δ,rd)/\K v Δ:=by
 unfold lj at h;split at h
 ·exact⟨_,_,_,rfl,h⟩
 ·exact h.elim
theorem AF{s:S}{o:cI}{X X':V->S->Prop}{K K':S->Prop}(hK:∀s,K s->K' s)(hX:∀v s,X v s->X' v s)(h:CO P X K o s):JR P s o X' K':=by
 unfold CO at h
 unfold JR
 have hs:∀ {op:Op},(lj (fun v Δ=>K ⟨bF s.env o.dst v,put s.o Δ,s.nx+1⟩) (gQ P s s.nx op))->(match gQ P s s.nx op with|some (v,Δ,_)=>K' ⟨bF s.env o.dst v,put s.o Δ,s.nx+1⟩|none=>False):=by
  intro op h
  obtain⟨v,Δ,rd,he,h⟩:=yJ h
  simp only[he];exact hK _ h
 split at h
 ·rename_i x str hx
  rw[hx]
  unfold Lf at h
  simp only
  split at h
  ·rename_i id l hl
   simp only[hl]
   exact⟨h.1,fun e=>hK _ (h.2.1 e),fun i k x e=>hK _ (h.2.2 i k x e)⟩
  ·rename_i hl
   simp only[hl]
   exact hs (op:= .next x str) h
 ·rename_i c hc
  simp only[hc]
  split at h
  ·rename_i f hf
   simp only[hf]
   exact CS (K:=fun v o' nx'=>K ⟨bF s.env o.dst v,o',nx'⟩) (X:=fun v o' nx'=>X v ⟨s.env,o',nx'⟩) (fun v o n h=>hK _ h) (fun v o n h=>hX _ _ h) h
  ·rename_i r m hf
   simp only[hf]
   unfold Le at h
   split at h
   ·rename_i g y hr
    simp only[hr]
    unfold CM at h
    split at h
    ·rename_i ds fk
     obtain⟨out,h1,h2⟩:=h
     refine .inl ⟨ds,fk,out,h1, ?_⟩
     rcases h2 with h2|⟨h3,h2⟩|⟨h3,h2⟩
     ·exact .inl (by cases out<;>first|exact hK _ h2|exact hX _ _ h2)
     ·exact .inr (.inl ⟨h3,by cases out<;>first|exact hK _ h2|exact hX _ _ h2⟩)
     ·exact .inr (.inr ⟨h3,by cases out<;>first|exact hK _ h2|exact hX _ _ h2⟩)
    ·exact h.elim
   ·exact h.elim
  ·rename_i hf hi
   rw[hc]at h
   obtain⟨KG,args,ts⟩:=c
   cases KG with
   |value f=>exact absurd rfl (hf f)
   |invoke r m=>exact absurd rfl (hi r m)
   |_=>exact hs h
 ·rename_i x hx
  simp only[hx]
  unfold Ir at h
  split at h
  ·rename_i hv;simp only[hv];exact hX _ _ h
  ·rename_i hv;simp only[hv];exact hX _ _ h
  ·exact h.elim
 ·rename_i uA hc hp
  have h2:=hs h
  cases hh:o.op<;>first
   |exact absurd hh (hc _)
   |exact absurd hh (hp _)
   |exact absurd hh (uA _ _)
   |(rw[hh]at h2;exact h2)
theorem Lh{s:S}{o:cI}{X:V->S->Prop}{K:S->Prop}(hp:lG o.op=true){v:V}{Δ:List (Nat×ae)}{rd:List Nat}(he:gQ P s s.nx o.op=some (v,Δ,rd))(h:K ⟨bF s.env o.dst v,put s.o Δ,s.nx+1⟩):JR P s o X K:=by
 unfold JR
 split
 ·rename_i c hc
  split
  ·rename_i f hf;rw[hc]at hp;simp[lG,hf]at hp
  ·rename_i r m hf;rw[hc]at hp;simp[lG,hf]at hp
  ·rw[he];exact h
 ·rename_i x hx;rw[hx]at hp;simp[lG]at hp
 ·rename_i x str hx;rw[hx]at hp;simp[lG]at hp
 ·rw[he];exact h
theorem yK{X X':V->S->Prop}{K K':S->Prop}(hK:∀s,K s->K' s)(hX:∀v s,X v s->X' v s):∀ (l:List cI) (s:S),uj P X K l s->pP P X' K' l s
 |[],s,h=>hK _ h
 |o::l,s,h=>by
  have ih:=yK hK hX l
  unfold uj at h
  unfold pP
  cases hg:o.gd with
  |none=>
   simp only[hg]at h|-
   exact AF ih hX h
  |some p=>
   obtain⟨d,want⟩:=p
   simp only[hg]at h|-
   unfold AE at h
   split at h
   ·exact h.elim
   ·rename_i c hc
    have hgo:∀ {A B:Prop},(c=true->A)->(c=false->B)->(match s.env d with
     | .d (.bool b)=>if b=want then A else B
     | .cA []=>B
     |_=>False):=by
     intro A B hA hB
     generalize s.env d=v at hc
     unfold mT at hc
     split at hc
     ·rename_i b
      injection hc with hc
      split
      ·rename_i e;exact hA (by rw[<- hc];simp[e])
      ·rename_i e;exact hB (by rw[<- hc];simp[e])
     ·injection hc with hc
      exact hB hc.symm
     ·cases hc
    split at h
    ·rename_i f args JS
     rcases h with h|h
     case inr=>exact hgo (fun Rs=>AF ih hX (h.1 Rs)) (fun UT=>ih _ (h.2 UT))
     obtain⟨rs,h1,h2⟩:=h
     refine hgo (fun Rs=> ?_) (fun UT=> ?_)
     ·unfold gI at JS
      split at JS
      ·rename_i c' qn
       split at JS
       ·rename_i f' fy
        injection JS with JS;injection JS with e1 e2;subst e1;subst e2
        have bJ:=h1 Rs
        unfold JR
        simp only[qn,fy]
        unfold CK at bJ
        split at bJ
        ·rename_i g first cap xw
         simp only[xw]
         split at bJ
         ·rename_i ds fk
          simp only[fk]
          refine .inl ⟨.ret rs,bJ.1, .inr (.inl ⟨bJ.2, ?_⟩)⟩
          refine ih _ ?_
          rw[Rs]at h2
          exact h2
         ·exact bJ.elim
        ·exact bJ.elim
       ·cases JS
      ·cases JS
     ·refine ih _ ?_
      rw[UT]at h2
      exact h2
    ·split at h
     ·rename_i hp
      obtain⟨v,Δ,rd,he,h⟩:=yJ h
      refine hgo (fun Rs=> ?_) (fun UT=> ?_)
      ·rw[Rs]at he
       simp only[lF,if_true]at he
       split at he
       ·rename_i v' uf o7
        injection he with he;injection he with e1 e2;subst e1
        exact Lh hp o7 (ih _ h)
       ·cases he
      ·rw[UT]at he
       simp only[lF]at he
       injection he with he;injection he with e1 e2;subst e1
       exact ih _ h
     ·exact hgo (fun Rs=>AF ih hX (h.1 Rs)) (fun UT=>ih _ (h.2 UT))
theorem AG{op:Op}{f:Operand}{args:List Operand}(h:gI op=some (f,args)):∃c,op= .call c/\c.callee= .value f/\c.args.toList=args:=by
 unfold gI at h
 split at h
 ·rename_i c
  split at h
  ·rename_i f' fy
   injection h with h;injection h with e1 e2;subst e1;subst e2
   exact⟨c,rfl,fy,rfl⟩
  ·cases h
 ·cases h
theorem Is{x:Option gO}{rd:List Nat}{K:KD}(h:vJ K rd x):∃v Δ r,x=some (v,Δ,r)/\K v Δ rd:=by
 unfold vJ at h;split at h
 ·exact⟨_,_,_,rfl,h⟩
 ·exact h.elim
theorem jK.mono {P:Program}{g:FuncId}{args:List V}{o:Nat->ae}{nx fr:Nat}{K K':KD}{X X':XD}(hK:∀v Δ r,K v Δ r->K' v Δ r)(hX:∀v w r,X v w r->X' v w r)(h:jK P g args o nx fr K X):jK P g args o nx fr K' X':=by
 obtain⟨rd,Δ,h1,⟨rs,h2,h3⟩|⟨x,h2,h3⟩|⟨v,h2,h3⟩⟩:=h
 ·exact⟨rd,Δ,h1, .inl ⟨rs,h2,hK _ _ _ h3⟩⟩
 ·exact⟨rd,Δ,h1, .inr (.inl ⟨x,h2,hX _ _ _ h3⟩)⟩
 ·exact⟨rd,Δ,h1, .inr (.inr ⟨v,h2,hK _ _ _ h3⟩)⟩
theorem tA.mono {P:Program}{g:FuncId}{ds:List D}{Kf Kb KX Kf' Kb' KX':V->Prop}(h1:∀v,Kf v->Kf' v)(h2:∀v,Kb v->Kb' v)(h3:∀v,KX v->KX' v)(h:tA P g ds Kf Kb KX):tA P g ds Kf' Kb' KX':=by
 rcases h with⟨rs,a,b|⟨b,c⟩⟩|⟨x,a,b,c⟩|⟨v,a,b⟩
 ·exact .inl ⟨rs,a, .inl (h1 _ b)⟩
 ·exact .inl ⟨rs,a, .inr ⟨b,h2 _ c⟩⟩
 ·exact .inr (.inl ⟨x,a,b,h3 _ c⟩)
 ·exact .inr (.inr ⟨v,a,h1 _ b⟩)
theorem Gl{s:S}{fr:Nat}{o:cI}{K K':KD}{X X':XD}(hK:∀v Δ r,K v Δ r->K' v Δ r)(hX:∀v w r,X v w r->X' v w r)(h:NM P K X fr o s):Bz P s fr o K' X':=by
 unfold NM at h
 split at h
 ·rename_i f args JS
  obtain⟨c,h1,h2,h3⟩:=AG JS
  subst h3
  unfold Bz
  simp only[h1,h2]
  unfold CP sH at h
  split at h
  ·rename_i g first cap hf
   simp only[hf]
   split at h
   ·rename_i ds fk
    simp only[fk]
    refine h.elim (fun h=> .inl ?_) (fun h=> .inr (jK.mono hK hX h))
    refine tA.mono (fun v h=> ?_) (fun v h=> ?_) (fun v h=> ?_) h<;>(rw[h1]at h)
    ·exact hK _ _ _ h
    ·exact hK _ _ _ h
    ·exact hX _ _ _ h
   ·rename_i fk
    simp only[fk]
    exact jK.mono hK hX h
  ·exact h.elim
 ·rename_i JS
  obtain⟨v,Δ,rd,he,h⟩:=Is h
  unfold Bz
  split
  ·rename_i c hc
   split
   ·rename_i f hf
    exact absurd JS (by simp[gI,hc,hf])
   ·simp only[he];exact hK _ _ _ h
  ·simp only[he];exact hK _ _ _ h
theorem CT{s:S}{fr:Nat}{o:cI}{K K':KD}{X X':XD}(hK:∀v Δ r,K v Δ r->K' v Δ r)(hX:∀v w r,X v w r->X' v w r)(h:Bz P s fr o K X):Bz P s fr o K' X':=by
 unfold Bz at h|-
 split at h
 ·rename_i c hc
  rw[hc]at h|-
  split at h
  ·rename_i f hf
   (try simp only[hf])
   split at h
   ·rename_i xw
    (try simp only[xw])
    split at h
    ·exact h.elim (fun h=> .inl (tA.mono (fun v h=>hK _ _ _ h) (fun v h=>hK _ _ _ h) (fun v h=>hX _ _ _ h) h)) (fun h=> .inr (jK.mono hK hX h))
    ·exact jK.mono hK hX h
   ·exact h.elim
  ·rename_i hf
   split at h
   ·rename_i he
    (try simp only[he])
    exact hK _ _ _ h
   ·exact h.elim
 ·split at h
  ·rename_i he
   (try simp only[he]);exact hK _ _ _ h
  ·exact h.elim
theorem j9{KB KB':List Nat->Fp->Prop}{pr:List (List Nat)}(hK:∀l fp,KB l fp->KB' l fp):∀ (l:List cI) (fr:Nat) (s:S) (fp:Fp) (bad ws:List Nat),jh P KB pr l fr s fp bad ws->jh P KB' pr l fr s fp bad ws
 |[],_,_,_,_,_,h=>hK _ _ h
 |o::l,fr,s,fp,bad,ws,h=>by
  unfold jh at h|-
  split
  ·rename_i hb
   rw[if_pos hb]at h
   exact j9 hK l _ _ _ _ _ h
  ·rename_i hb
   rw[if_neg hb]at h
   split at h
   ·exact CT (fun v Δ r h=>j9 hK l _ _ _ _ _ h) (fun _ _ _ h=>h) h
   ·split at h
    ·split at h
     ·rename_i e;simp only[e,if_true]
      exact CT (fun v Δ r h=>j9 hK l _ _ _ _ _ h) (fun _ _ _ h=>h) h
     ·rename_i e;simp only[e,if_false]
      exact j9 hK l _ _ _ _ _ h
    ·exact j9 hK l _ _ _ _ _ h
    ·exact h.elim
theorem lX{K K':S->Fp->Prop}{KP KP':V->List Nat->Fp->Prop}{pr:List (List Nat)}(hK:∀s fp,K s fp->K' s fp)(hP:∀v l fp,KP v l fp->KP' v l fp):∀ (l:List cI) (fr:Nat) (s:S) (fp:Fp),ra P K KP pr l fr s fp->lE P K' KP' pr l fr s fp
 |[],_,_,_,h=>hK _ _ h
 |o::l,fr,s,fp,h=>by
  have hB:∀v ws (rdl:List Nat),CQ P (KP v) pr l (fr+1) (fp++[(rdl,[])]) [fp.length] (ws++fp.flatMap (·.2)) ⟨bF s.env o.dst .aa,s.o,s.nx⟩->
   jh P (KP' v) pr l (fr+1) ⟨bF s.env o.dst .aa,s.o,s.nx⟩ (fp++[(rdl,[])]) [fp.length] (ws++fp.flatMap (·.2)):=fun v ws rdl h=>j9 (fun a b h=>hP v a b h) l _ _ _ _ _ h
  unfold ra at h
  unfold lE
  split at h
  ·rename_i hg
   (try simp only[hg])
   exact Gl (fun v Δ r h=>lX hK hP l _ _ _ h) hB h
  ·rename_i d want hg
   (try simp only[hg])
   generalize s.env d=v at h
   unfold kC at h
   split at h
   ·rename_i bb
    by_cases e:bb=want
    ·subst e
     simp only[if_true]
     exact Gl (fun v Δ r h=>lX hK hP l _ _ _ h) hB (h.1 au)
    ·simp only[if_neg e]
     exact lX hK hP l _ _ _ (h.2 (by simpa using e))
   ·exact lX hK hP l _ _ _ h
   ·exact h.elim
theorem eH:∀ (c:IC) (Q Q':fG->S->Prop) (s:S),(∀e s,Q e s->Q' e s)->kS P n b rd c Q s->uD P n b rd c Q' s
 | .skip,_,_,_,hQ,h=>hQ _ _ h
 | .af l,_,_,_,hQ,h=>yK (fun s h=>hQ _ _ h) (fun v s h=>hQ _ _ h) l _ h
 | .dx l pr,_,_,_,hQ,h=> .inl (lX (fun s fp h=>⟨h.1,hQ _ _ h.2⟩) (fun v l fp h=>⟨h.1,hQ _ _ h.2⟩) l _ _ _ h)
 | .seq x y,Q,Q',s,hQ,h=>eH x _ _ s (fun e s h=>by
  unfold qN at h|-
  cases e with
  |normal=>exact eH y _ _ s hQ h
  |_=>exact hQ _ _ h) h
 | .cond c x y,Q,Q',s,hQ,h=>by
   unfold kS yI jA at h
   unfold uD
   split at h
   ·rename_i t ht
    simp only[ht]
    exact⟨fun e=>eH x _ _ s hQ (h.1 e),fun e=>eH y _ _ s hQ (h.2 e)⟩
   ·rename_i ht
    simp only[ht]
    exact⟨eH x _ _ s hQ h.1,eH y _ _ s hQ h.2⟩
   ·exact h.elim
 | .block id x,Q,Q',s,hQ,h=>eH x _ _ s (fun e s h=>by
  unfold fY at h|-
  cases e with
  |exit j=>
   simp only at h|-
   split
   ·rename_i e;rw[if_pos e]at h;exact hQ _ _ h
   ·rename_i e;rw[if_neg e]at h;exact hQ _ _ h
  |_=>exact hQ _ _ h) h
 | .loop x,Q,Q',s,hQ,h=>by
   obtain⟨ι,st,bU,pR,i0,h0,hle,h2⟩:=h
   refine⟨fun m s=>∃i,bU i/\pR i=m/\s=st i,⟨pR i0,st i0,hle,i0,h0,rfl,rfl⟩, ?_⟩
   rintro m s0 ⟨i,hg,rfl,rfl⟩
   refine eH x _ _ _ (fun e s h=> ?_) (h2 i hg)
   cases e with
   |normal=>
    obtain⟨j,k1,k2,k3⟩:=h
    exact⟨pR j,st j,k2,k3,j,k1,rfl,rfl⟩
   |_=>exact hQ _ _ h
 | .exit id,_,_,_,hQ,h=>hQ _ _ h
 | .ret,_,_,_,hQ,h=>hQ _ _ h
 | .HI g ps x y,_,_,_,hQ,h=>⟨h.1,match h.2 with
   | .inl h=>⟨_, .inl rfl,sF hQ h⟩
   | .inr ⟨s',hle,h⟩=>⟨s', .inr hle,sF hQ h⟩⟩
 | .bad,_,_,_,_,h=>h.elim
end
theorem aR.ay {P:Program}(bM:P.follows .mixedOrders=true){f:FuncId}{n:Nat}{ic:IC}{rs:List ResultVar}{ds:List D}{out:R}(hf:aD P f n ic rs)(hl:ds.length<=n)
 (h:kS P n 0 false ic (EG P rs out) ⟨cN (ds.map .d),fun _=> .no,0⟩):aR P f ds out:=
 aR.vI bM hf hl (eH ic _ _ _ (fun _ _ h=>h) h)
def sJ(P:Program)(rs:List ResultVar)(K X:V->(Nat->ae)->Nat->Prop)(e:fG)(s:S):Prop:=mB P rs K X e s
theorem cU.ay {P:Program}(bM:P.follows .mixedOrders=true){f:FuncId}{n:Nat}{ic:IC}{rs:List ResultVar}{args:List V}{o:Nat->ae}{nx:Nat}{K X:V->(Nat->ae)->Nat->Prop}(hf:aD P f n ic rs)(hl:args.length<=n)
 (h:kS P n nx false ic (sJ P rs K X) ⟨cN args,o,nx⟩):cU P f args o nx K X:=
 cU.vI bM hf hl (eH ic _ _ _ (fun _ _ h=>h) h)
section
variable {P:Program}{g:FuncId}{ds:List D}{o:Nat->ae}{nx:Nat}{K X:V->(Nat->ae)->Nat->Prop}{all:List V}
theorem ag{rs:List D}(h:aR P g ds (.ret rs))(hf:D.kz rs=true)(hk:K (jT rs) o (nx+1)):tC P g o nx K X ds all:= .inl ⟨.ret rs,h, .inr (.inl ⟨hf,hk⟩)⟩
theorem aO{rs:List D}(h:aR P g ds (.ret rs))(hk:K (jT rs) (put o (dy o (V.bO all))) (nx+1)):tC P g o nx K X ds all:= .inl ⟨.ret rs,h, .inl hk⟩
theorem bB{x:D}(h:aR P g ds (.cc x))(hf:x.flat=true)(hk:X (.d x) o (nx+1)):tC P g o nx K X ds all:= .inl ⟨.cc x,h, .inr (.inl ⟨hf,hk⟩)⟩
theorem c6(h:cU P g all o nx K X):tC P g o nx K X ds all:= .inr (.inl h)
theorem df{e:Nat->V}{ds:Option (List D)}(h:cU P g all o nx K X):nO P g K X ⟨e,o,nx⟩ all ds:=by
 cases ds with
 |some ds=>exact(.inr (.inl h):tC P g o nx K X ds all)
 |none=>exact(.inl h:CL P g nx K X all o)
theorem br(h:cU P g all o nx K X):CL P g nx K X all o:= .inl h
variable {K:KD}{X:XD}{rd:List Nat}{fr:Nat}
theorem ao{rs:List D}(h:aR P g ds (.ret rs))(hf:D.kz rs=true)(hk:K (jT rs) [] rd):nP P g K X o nx fr rd ds all:= .inl (.inl ⟨rs,h, .inr ⟨hf,hk⟩⟩)
theorem aZ{rs:List D}(h:aR P g ds (.ret rs))(hk:K (jT rs) (dy o (V.bO all)) rd):nP P g K X o nx fr rd ds all:= .inl (.inl ⟨rs,h, .inl hk⟩)
theorem aN{x:D}(h:aR P g ds (.cc x))(hf:x.flat=true)(hk:X (.d x) [] rd):nP P g K X o nx fr rd ds all:= .inl (.inr (.inl ⟨x,h,hf,hk⟩))
theorem It{v:V}(h:Ra P g ds v)(hk:K v (dy o (V.bO all)) rd):nP P g K X o nx fr rd ds all:= .inl (.inr (.inr ⟨v,h,hk⟩))
theorem yL{v:V}{uf:List Nat}{Δ:List (Nat×ae)}(nk:uf.all (fun id=>decide (id<nx))=true)(h:yz P g all uf o fr v Δ)(hk:K v Δ uf):nP P g K X o nx fr rd ds all:= .inr ⟨uf,Δ,nk, .inr (.inr ⟨v,h,hk⟩)⟩
end
theorem fD{P:Program}{f:V}{args:List V}{o:Nat->ae}{K:V->Prop}{c:Bool}(rs:List D)(h:mS c (CK P f args o rs))(hk:K (V.AD c (jT rs))):Gj P f args o K c:=⟨rs,h,hk⟩
theorem aq{t:Bool}{A B:Prop}(h:t=true->A)(h2:t=false->B):jA A B t:=⟨h,h2⟩
theorem ai{pr:List (List Nat)}{nx:Nat}{Q:fG->S->Prop}{s:S}{fp:List (List Nat×List Nat)}(h:iX pr fp=true)(h2:Q .normal ⟨s.env,s.o,nx⟩):OX pr nx Q s fp:=⟨h,h2⟩
@[go_sem] theorem Li (o:Nat->ae):put o []=o:=rfl
@[go_sem] theorem Iu (o:Nat->ae) (x:Nat×ae) (l:List (Nat×ae)):put o (x::l)=put (aK o x.1 x.2) l:=rfl
@[go_sem] theorem ab {α:Type} (f:Nat->α) (i:Nat) (x:α):aK f i x i=x:=au
@[go_sem] theorem aj {α:Type} (f:Nat->α) (i j:Nat) (x:α) (h:j≠i):aK f i x j=f j:=by simp[h]
@[go_sem] theorem OZ (v:V) (l:List V):cN (v::l) 0=v:=rfl
@[go_sem] theorem O0 (v:V) (l:List V) (i:Nat):cN (v::l) (i+1)=cN l i:=rfl
@[go_sem] theorem Rt (i:Nat):cN [] i= .cA []:=by simp[cN]
@[go_sem] theorem Yr {P:Program} {o:Nat->ae} {t:TypeId} {id off:Nat}:nI P o t (.ptr id off)=match o id with
 | .row cs=>match fq P t cs off with
   |some v=>some (v,[],[id])
   |none=>none
 |_=>none:=by unfold nI;exact Eq.trans rfl rfl
@[go_sem] theorem ZN {P:Program} {o:Nat->ae} {t:TypeId} {cs:List D} {off:Nat}:nI P o t (.pp cs off)=match fq P t (cs.map .d) off with
 |some v=>some (v,[],[])
 |none=>none:=by unfold nI;exact Eq.trans rfl rfl
@[go_sem] theorem ZO {P:Program} {o:Nat->ae} {t:TypeId} {id ep i sz off:Nat}:nI P o t (.pe id ep i sz off)=match o id with
 | .arr ju _ rQ es=>if ep=ju/\sz=rQ then match es[i]? with
  |some e=>match fq P t (e.cells.map .d) off with
   |some v=>some (v,[],[id])
   |none=>none
  |none=>none
   else none
 |_=>none:=by unfold nI;exact Eq.trans rfl rfl
section
variable {P:Program}{o:Nat->ae}{t:TypeId}{op:BinOp}{pD:Bool}
@[go_sem] theorem Ys {k:IntKind} {a b:Int}:eL P o op t pD (.d (.int k a)) (.d (.int k b))=match Cs op k a b with
 |some v=>one v
 |none=>sj P o op t pD (.d (.int k a)) (.d (.int k b)):=by
  simp only[eL,An,if_true]
  cases Cs op k a b<;>rfl
@[go_sem] theorem Yt {a b:Bool} (h:oD P t=true):eL P o .eql t pD (.d (.bool a)) (.d (.bool b))=one (.d (.bool (a==b))):=by simp only[eL,An,KW,h,if_true]
@[go_sem] theorem Yu {a b:Bool} (h:oD P t=true):eL P o .neq t pD (.d (.bool a)) (.d (.bool b))=one (.d (.bool (a !=b))):=by simp only[eL,An,KW,h,if_true]
@[go_sem] theorem Yv {a b:List UInt8}:eL P o .eql t pD (.d (.str a)) (.d (.str b))=one (.d (.bool (a==b))):=T3
@[go_sem] theorem Yw {a b:List UInt8}:eL P o .neq t pD (.d (.str a)) (.d (.str b))=one (.d (.bool (a !=b))):=T3
@[go_sem] theorem Yx {a b:List D}:eL P o op t pD (.d (.agg a)) (.d (.agg b))=sj P o op t pD (.d (.agg a)) (.d (.agg b)):=T3
theorem N2{x:V}{y:V}(h:match y with| .d (.int _ _)| .d (.bool _)| .d (.str _)=>False|_=>True):An P op t x y=none:=by
 unfold An
 split<;>first|exact h.elim|rfl
@[go_sem] theorem UU {x:V}:eL P o op t pD x .bT=sj P o op t pD x .bT:=J7
@[go_sem] theorem UW {x:V}:eL P o op t pD x (.d .fK)=sj P o op t pD x (.d .fK):=J7
@[go_sem] theorem UX {x:V}:eL P o op t pD x (.d .mY)=sj P o op t pD x (.d .mY):=J7
@[go_sem] theorem UY {x:V}:eL P o op t pD x (.d .cj)=sj P o op t pD x (.d .cj):=J7
@[go_sem] theorem UZ {x:V}:eL P o op t pD x (.d .jt)=sj P o op t pD x (.d .jt):=J7
@[go_sem] theorem ZP {b:Bool}:HB .not (.d (.bool b))=some (.d (.bool !b)):=T4
@[go_sem] theorem ZQ:HB .not .fm=some .fm:=T4
@[go_sem] theorem ZR {k:IntKind} {n:Int}:HB .neg (.d (.int k n))=some (.d (.int k (k.wrap (-n)))):=T4
end
@[go_sem] theorem D.Yy (cs:List D):(D.agg cs).cells=cs:=rfl
@[go_sem] theorem D.Yz (k:IntKind) (n:Int):(D.int k n).cells=[.int k n]:=rfl
@[go_sem] theorem D.U0 (b:Bool):(D.bool b).cells=[.bool b]:=rfl
@[go_sem] theorem D.YA (b:List UInt8):(D.str b).cells=[.str b]:=rfl
@[go_sem] theorem D.ZS (b:List D):(D.sl b).cells=[.sl b]:=rfl
@[go_sem] theorem D.ZT (a b:List D):(D.mp a b).cells=[.mp a b]:=rfl
@[go_sem] theorem D.Ru (t:TypeId) (x:D):(D.iface t x).cells=[.iface t x]:=rfl
@[go_sem] theorem D.U1:D.fK.cells=[.fK]:=rfl
@[go_sem] theorem D.U2:D.mY.cells=[.mY]:=rfl
@[go_sem] theorem D.U3:D.cj.cells=[.cj]:=rfl
@[go_sem] theorem D.U4:D.jt.cells=[.jt]:=rfl
attribute [go_sem] V.ofConst V.dM Cs KW qU EM yy pn jd je sA ig mD qV qW qX sB j7 KY mu eu cE fq z6 te mR V.cells D.put dy V.ids V.bO jT D.kz D.flat R.flat
attribute [go_sem] Ep List.take_succ_cons List.take_zero List.take_nil List.drop_zero List.drop_succ_cons List.drop_nil
attribute [go_sem] List.map_cons List.map_nil List.length_cons List.length_nil List.cons_append List.nil_append List.append_nil List.getElem?_cons_zero List.getElem?_cons_succ Option.bind_some Option.bind_none Option.map_some Option.map_none ae.cK ae.cH
section
variable {P:Program}{n b:Nat}{rd:Bool}{Q:fG->S->Prop}{s:S}
@[go_sem] theorem ZU:kS P n b rd .skip Q s=Q .normal s:=propext Iff.rfl
@[go_sem] theorem O1 {l:List cI}:kS P n b rd (.af l) Q s=uj P (fun v s=>Q (.cc v) s) (Q .normal) l s:=propext Iff.rfl
@[go_sem] theorem adt {l:List cI} {pr:List (List Nat)}:kS P n b rd (.dx l pr) Q s=ra P (OX pr (s.nx+l.length) Q) (CH pr l s Q) pr l s.nx s []:=propext Iff.rfl
@[go_sem] theorem O2 {x y:IC}:kS P n b rd (.seq x y) Q s=kS P n b rd x (qN (fun s=>kS P n b rd y Q s) Q) s:=propext Iff.rfl
@[go_sem] theorem ZV {c:Operand} {x y:IC}:kS P n b rd (.cond c x y) Q s=yI (kS P n b rd x Q s) (kS P n b rd y Q s) (s.ev c):=propext Iff.rfl
@[go_sem] theorem YB {id:Nat} {x:IC}:kS P n b rd (.block id x) Q s=kS P n b rd x (fY id Q) s:=propext Iff.rfl
@[go_sem] theorem ZW {x:IC}:kS P n b rd (.loop x) Q s=rb b (fun Q s=>kS P n b rd x Q s) Q s:=propext Iff.rfl
@[go_sem] theorem ZX {id:Nat}:kS P n b rd (.exit id) Q s=Q (.exit id) s:=propext Iff.rfl
@[go_sem] theorem adu:kS P n b rd .ret Q s=Q .ret s:=propext Iff.rfl
@[go_sem] theorem adv {g:Operand} {ps:List Nat} {x y:IC}:kS P n b rd (.HI g ps x y) Q s=sI P n b rd g ps x y Q s (s.ev g):=propext Iff.rfl
@[go_sem] theorem Lj {X:V->S->Prop} {K:S->Prop}:uj P X K [] s=K s:=propext Iff.rfl
@[go_sem] theorem Iv {X:V->S->Prop} {K:S->Prop} {d:Option Nat} {op:Op} {l:List cI}:uj P X K (⟨d,op,none⟩::l) s=CO P X (uj P X K l) ⟨d,op,none⟩ s:=propext Iff.rfl
@[go_sem] theorem YC {X:V->S->Prop} {K:S->Prop} {d:Option Nat} {op:Op} {g:Nat} {w:Bool} {l:List cI}:uj P X K (⟨d,op,some (g,w)⟩::l) s=AE P X (uj P X K l) ⟨d,op,some (g,w)⟩ s (mT (s.env g) w):=propext Iff.rfl
variable {X:V->S->Prop}{K:S->Prop}{d:Option Nat}{op:Op}{g:Option (Nat×Bool)}{f:Operand}{args:Array Operand}{ts:Array TypeId}{c:Bool}
@[reducible] def U5:Op->Bool
  | .call c=>match c.callee with
    | .value _=>true
    | .invoke .. =>true
    |_=>false
  | .panic _=>true
  | .next .. =>true
  |_=>false
@[go_sem] theorem U6 (h:U5 op=false):CO P X K ⟨d,op,g⟩ s=lj (fun v Δ=>K ⟨bF s.env d v,put s.o Δ,s.nx+1⟩) (gQ P s s.nx op):=by
  unfold CO
  cases op with
  |call c=>
   obtain⟨KG,args,ts⟩:=c
   cases KG with
   |value f=>simp[U5]at h
   |invoke r m=>simp[U5]at h
   |_=>rfl
  |panic x=>simp[U5]at h
  |next x str=>simp[U5]at h
  |_=>rfl
@[go_sem] theorem ZY {x:Operand} {str:Bool}:CO P X K ⟨d, .next x str,g⟩ s=Lf (fun v Δ=>K ⟨bF s.env d v,put s.o Δ,s.nx+1⟩) str (pc s.o (s.ev x) str) (pg s.o (s.ev x)):=propext Iff.rfl
@[go_sem] theorem ZZ:CO P X K ⟨d, .call ⟨.value f,args,ts⟩,g⟩ s=tD P (fun v o' nx'=>K ⟨bF s.env d v,o',nx'⟩) (fun v o' nx'=>X v ⟨s.env,o',nx'⟩) s (s.ev f) (args.toList.map s.ev):=propext Iff.rfl
@[go_sem] theorem U7 {m:String}:CO P X K ⟨d, .call ⟨.invoke f m,args,ts⟩,g⟩ s=Le P (fun v o' nx'=>K ⟨bF s.env d v,o',nx'⟩) (fun v o' nx'=>X v ⟨s.env,o',nx'⟩) s (args.toList.map s.ev) (vm P m (s.ev f)):=propext Iff.rfl
@[go_sem] theorem YD:CO P X K ⟨d, .panic f,g⟩ s=Ir (fun v=>X v s) (s.ev f):=propext Iff.rfl
@[go_sem] theorem YE:AE P X K ⟨d, .call ⟨.value f,args,ts⟩,g⟩ s (some c)=E4 P X K ⟨d, .call ⟨.value f,args,ts⟩,g⟩ s f args.toList c:=propext Iff.rfl
theorem gR{e:Nat->V}{ob:Nat->ae}{nx:Nat}(h:Gj P ((⟨e,ob,nx⟩:S).ev f) (args.toList.map (⟨e,ob,nx⟩:S).ev) ob (fun v=>K ⟨bF e d v,ob,nx+1⟩) c):E4 P X K ⟨d,op,g⟩ ⟨e,ob,nx⟩ f args.toList c:= .inl h
theorem CU{s:S}{o:cI}{l:List Operand}(h:jA (CO P X K o s) (K ⟨bF s.env o.dst (.cA []),s.o,s.nx+1⟩) c):E4 P X K o s f l c:= .inr h
@[go_sem] theorem YF (h:lG op=true):AE P X K ⟨d,op,g⟩ s (some c)=lj (fun v _=>K ⟨bF s.env d v,s.o,s.nx+1⟩) (lF c (gQ P s s.nx op)):=by
  have h2:gI op=none:=by
   cases hc:gI op with
   |none=>rfl
   |some x=>
    exfalso
    unfold gI at hc
    split at hc
    ·split at hc
     ·rename_i hv;simp[lG,hv]at h
     ·cases hc
    ·cases hc
  simp only[AE,h2,h,if_true]
@[go_sem] theorem YG (h:lG op=false) (h2:gI op=none):AE P X K ⟨d,op,g⟩ s (some c)=jA (CO P X K ⟨d,op,g⟩ s) (K ⟨bF s.env d (.cA []),s.o,s.nx+1⟩) c:=by
  simp[AE,h2,h]
@[go_sem] theorem U8 {l:List Operand}:E4 P X K ⟨d,op,g⟩ s f l false=K ⟨bF s.env d (.cA []),s.o,s.nx+1⟩:=by
  refine propext ⟨fun h=> ?_,fun h=> .inr ⟨(fun e=>by cases e),fun _=>h⟩⟩
  rcases h with⟨rs,_,h⟩|h
  ·exact h
  ·exact h.2 rfl
@[go_sem] theorem YH {l:List Operand} (hl:args.toList=l):E4 P X K ⟨d, .call ⟨.value f,args,ts⟩,g⟩ s f l true=CO P X K ⟨d, .call ⟨.value f,args,ts⟩,g⟩ s:=by
  subst hl
  refine propext ⟨fun h=> ?_,fun h=> .inr ⟨fun _=>h,(fun e=>by cases e)⟩⟩
  rcases h with⟨rs,h1,h⟩|h
  ·have h1:=h1 rfl
   unfold CK at h1
   unfold CO tD nO
   simp only
   split at h1
   ·rename_i fv gg first cap hf
    simp only[hf]
    split at h1
    ·rename_i ds fk
     simp only[fk]
     exact .inl ⟨.ret rs,h1.1, .inr (.inl ⟨h1.2,h⟩)⟩
    ·exact h1.elim
   ·exact h1.elim
  ·exact h.1 rfl
variable {KV:KD}{XV:XD}
@[go_sem] theorem Z0 {fr:Nat}:NM P KV XV fr ⟨d, .call ⟨.value f,args,ts⟩,g⟩ s=CP P KV XV s.o s.nx fr (qk s (.call ⟨.value f,args,ts⟩)) (s.ev f) (args.toList.map s.ev):=propext Iff.rfl
@[go_sem] theorem ad4 {fr:Nat} (h2:gI op=none):NM P KV XV fr ⟨d,op,g⟩ s=vJ KV (qk s op) (gQ P s fr op):=by simp[NM,h2]
variable {KS:S->Prop}
@[go_sem ↓] theorem AH:qN KS Q .normal s=KS s:=propext Iff.rfl
@[go_sem ↓] theorem U9 {id:Nat}:qN KS Q (.exit id) s=Q (.exit id) s:=propext Iff.rfl
@[go_sem ↓] theorem YI:qN KS Q .ret s=Q .ret s:=propext Iff.rfl
@[go_sem ↓] theorem rU {v:V}:qN KS Q (.cc v) s=Q (.cc v) s:=propext Iff.rfl
@[go_sem ↓] theorem NN {id:Nat}:fY id Q .normal s=Q .normal s:=propext Iff.rfl
@[go_sem ↓] theorem Rv {id:Nat}:fY id Q (.exit id) s=Q .normal s:=by simp[fY]
@[go_sem ↓] theorem O3 {id j:Nat} (h:j≠id):fY id Q (.exit j) s=Q (.exit j) s:=by simp[fY,h]
@[go_sem ↓] theorem Va {id:Nat}:fY id Q .ret s=Q .ret s:=propext Iff.rfl
@[go_sem ↓] theorem px {id:Nat} {v:V}:fY id Q (.cc v) s=Q (.cc v) s:=propext Iff.rfl
def O4(out:R)(x:Option (List D)):Prop:=match x with|some ds=>out= .ret ds|none=>False
@[go_sem] theorem YJ {out:R} {ds:List D}:O4 out (some ds)=(out= .ret ds):=propext Iff.rfl
def Vb(out:R)(x:Option D):Prop:=match x with|some d=>out= .cc d|none=>False
@[go_sem] theorem rX {out:R} {d:D}:Vb out (some d)=(out= .cc d):=propext Iff.rfl
def O5(out:R)(o:Nat->ae)(x:Option (List V)):Prop:=match x with|some vs=>O4 out (cE o vs)|none=>False
@[go_sem] theorem YK {out:R} {o:Nat->ae} {vs:List V}:O5 out o (some vs)=O4 out (cE o vs):=propext Iff.rfl
variable {rs:List ResultVar}{out:R}
@[go_sem ↓] theorem YL:EG P rs out .ret s=O5 out s.o (mu P s rs):=propext Iff.rfl
@[go_sem ↓] theorem O6:EG P rs out .normal s=O5 out s.o (mu P s rs):=propext Iff.rfl
@[go_sem ↓] theorem rW {v:V}:EG P rs out (.cc v) s=Vb out (eu s.o v):=propext Iff.rfl
def CV(K:V->(Nat->ae)->Nat->Prop)(o:Nat->ae)(nx:Nat)(x:Fix (Option (List V)) (K,o,nx)):Prop:=match x with
 |some [v]=>K v o nx
 |some vs=>K (.cA vs) o nx
 |none=>False
@[go_sem] theorem Z1 {K:V->(Nat->ae)->Nat->Prop} {o:Nat->ae} {nx:Nat} {v:V}:CV K o nx (some [v])=K v o nx:=propext Iff.rfl
@[go_sem] theorem Z2 {K:V->(Nat->ae)->Nat->Prop} {o:Nat->ae} {nx:Nat}:CV K o nx (some [])=K (.cA []) o nx:=propext Iff.rfl
@[go_sem] theorem Z3 {K:V->(Nat->ae)->Nat->Prop} {o:Nat->ae} {nx:Nat} {v u:V} {l:List V}:CV K o nx (some (v::u::l))=K (.cA (v::u::l)) o nx:=propext Iff.rfl
theorem Gm{K X:V->(Nat->ae)->Nat->Prop}:mB P rs K X .ret s=CV K s.o s.nx (mu P s rs):=by
 unfold mB CV
 cases mu P s rs with
 |none=>rfl
 |some l=>match l with
  |[]=>rfl
  |[_]=>rfl
  |_::_::_=>rfl
@[go_sem ↓] theorem Z4 {K X:V->(Nat->ae)->Nat->Prop}:sJ P rs K X .ret s=CV K s.o s.nx (mu P s rs):=Gm
@[go_sem ↓] theorem Rw {K X:V->(Nat->ae)->Nat->Prop}:sJ P rs K X .normal s=CV K s.o s.nx (mu P s rs):=(Gm (X:=X):mB P rs K X .ret s=_)
@[go_sem ↓] theorem uX {K X:V->(Nat->ae)->Nat->Prop} {v:V}:sJ P rs K X (.cc v) s=X v s.o s.nx:=propext Iff.rfl
variable {KE:S->Fp->Prop}{KP:V->List Nat->Fp->Prop}{pr:List (List Nat)}{fr:Nat}{fp:Fp}
@[go_sem] theorem Z5:ra P KE KP pr [] fr s fp=KE s fp:=propext Iff.rfl
@[go_sem] theorem YM {d:Option Nat} {op:Op} {l:List cI}:ra P KE KP pr (⟨d,op,none⟩::l) fr s fp=
 NM P (fun v Δ rd=>ra P KE KP pr l (fr+1) ⟨bF s.env d v,put s.o Δ,s.nx⟩ (fp++[(rd,Δ.map (·.1))]))
  (fun v ws rd=>CQ P (KP v) pr l (fr+1) (fp++[(rd,[])]) [fp.length] (ws++fp.flatMap (·.2)) ⟨bF s.env d .aa,s.o,s.nx⟩) fr ⟨d,op,none⟩ s:=propext Iff.rfl
@[go_sem] theorem YN {d:Option Nat} {op:Op} {g:Nat} {w:Bool} {l:List cI}:ra P KE KP pr (⟨d,op,some (g,w)⟩::l) fr s fp=
 kC w (NM P (fun v Δ rd=>ra P KE KP pr l (fr+1) ⟨bF s.env d v,put s.o Δ,s.nx⟩ (fp++[(rd,Δ.map (·.1))]))
  (fun v ws rd=>CQ P (KP v) pr l (fr+1) (fp++[(rd,[])]) [fp.length] (ws++fp.flatMap (·.2)) ⟨bF s.env d .aa,s.o,s.nx⟩) fr ⟨d,op,some (g,w)⟩ s)
   (ra P KE KP pr l (fr+1) ⟨bF s.env d (.cA []),s.o,s.nx⟩ (fp++[([],[])])) (s.env g):=propext Iff.rfl
end
attribute [go_sem] U5 gI lG gQ one lW bF S.ev CK
theorem ax{ι:Type}{b:Nat}{st:ι->S}{bU:ι->Prop}{pR:ι->Nat}{i:ι}{s:S}(j:ι)(h1:bU j)(h2:pR j<pR i)(h3:bE b s (st j)):Gk b st bU pR i s:=⟨j,h1,h2,h3⟩
attribute [irreducible] kS uj CO AE E4 tD nO CM Ld Le Gj tC CL lj Ir jA kC Lg nP sG sH CP vJ NM ra CQ sI yH sJ CV OX yI rb O4 Vb O5 vK Gk
end Go.Proofs.YtonbelhklnmjnaaGreat
namespace Go.Proofs.YtonbelhklnmjnaaGreat
section
variable (ρ:Nat->Option Nat)(o' o:Nat->ae)(nx:Nat)
end
section
variable {M M':Nat->Prop}{φ aS:Place}{H H':Hp}{w:World}{ρ:Nat->Option Nat}{nx:Nat}
end
end Go.Proofs.YtonbelhklnmjnaaGreat
