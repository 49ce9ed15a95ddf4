/-
  A PART OF THE PROOF. Conditions: none.
-/
import Derived.Test.YtlhemmpklhhgoaaGreatQo8
set_option linter.unusedSimpArgs false
set_option linter.unusedVariables false
namespace Go.Proofs.YtlhemmpklhhgoaaGreat
section
def tQ(P:Program)(g:FuncId)(ds:List D)(Kf Kb KX:V->Prop):Prop:=
 (∃rs,aW P g ds (.ret rs)/\(Kf (jf rs)\/(D.jZ rs=true/\Kb (jf rs))))\/(∃x,aW P g ds (.bN x)/\x.flat=true/\KX (.d x))\/(∃v,O4 P g ds v/\Kf v)
def jh(P:Program)(g:FuncId)(args:List V)(o:Nat->ad)(nx fr:Nat)(K:V->List (Nat×ad)->List Nat->Prop)(KX:V->List Nat->List Nat->Prop):Prop:=
 ∃rd Δ,rd.all (fun id=>decide (id<nx))=true/\((∃rs,BI P g args rd o (.ret rs) Δ/\K (jf rs) Δ rd)\/(∃x,BI P g args rd o (.bN x) Δ/\KX (.d x) (Δ.map (·.1)) rd)\/(∃v,BJ P g args rd o fr v Δ/\K v Δ rd))
def BM(P:Program)(s:S)(fr:Nat)(o:b7)(K:V->List (Nat×ad)->List Nat->Prop)(KX:V->List Nat->List Nat->Prop):Prop:=
 match o.op with
 | .call c=>match c.callee with
   | .value f=>match s.ev f with
     | .func (.func g) first cap=>match cm s.o (first++c.args.toList.map s.ev++cap)with
       |some ds=>tQ P g ds (fun v=>K v (bG s.o (V.bc (first++c.args.toList.map s.ev++cap))) (o9 s o.op)) (fun v=>K v [] (o9 s o.op)) (fun v=>KX v [] (o9 s o.op))\/jh P g (first++c.args.toList.map s.ev++cap) s.o s.nx fr K KX
       |none=>jh P g (first++c.args.toList.map s.ev++cap) s.o s.nx fr K KX
     |_=>False
   |_=>match gM P s fr o.op with
    |some (v,Δ,_)=>K v Δ (o9 s o.op)
    |none=>False
 |op=>match gM P s fr op with
  |some (v,Δ,_)=>K v Δ (o9 s o.op)
  |none=>False
abbrev Fp:=List (List Nat×List Nat)
def iJ(P:Program)(KB:List Nat->Fp->Prop)(pr:List (List Nat)):List b7->Nat->S->Fp->List Nat->List Nat->Prop
 |[],_,_,fp,_,ws=>KB ws fp
 |o::l,fr,s,fp,bad,ws=>if(pr.getD fp.length []).any (fun j=>bad.contains j)=true then iJ P KB pr l (fr+1) ⟨a8 s.env o.dst .ab,s.o,s.nx⟩ (fp++[([],[])]) (bad++[fp.length]) ws
  else match o.gd with
  |none=>BM P s fr o (fun v Δ rd=>iJ P KB pr l (fr+1) ⟨a8 s.env o.dst v,put s.o Δ,s.nx⟩ (fp++[(rd,Δ.map (·.1))]) bad (ws++Δ.map (·.1))) (fun _ _ _=>False)
  |some (d,want)=>match s.env d with
   | .d (.bool b)=>if b=want then BM P s fr o (fun v Δ rd=>iJ P KB pr l (fr+1) ⟨a8 s.env o.dst v,put s.o Δ,s.nx⟩ (fp++[(rd,Δ.map (·.1))]) bad (ws++Δ.map (·.1))) (fun _ _ _=>False)
    else iJ P KB pr l (fr+1) ⟨a8 s.env o.dst (.bY []),s.o,s.nx⟩ (fp++[([],[])]) bad ws
   | .bY []=>iJ P KB pr l (fr+1) ⟨a8 s.env o.dst (.bY []),s.o,s.nx⟩ (fp++[([],[])]) bad ws
   |_=>False
def lu(P:Program)(K:S->Fp->Prop)(KP:V->List Nat->Fp->Prop)(pr:List (List Nat)):List b7->Nat->S->Fp->Prop
 |[],_,s,fp=>K s fp
 |o::l,fr,s,fp=>match o.gd with
  |none=>BM P s fr o (fun v Δ rd=>lu P K KP pr l (fr+1) ⟨a8 s.env o.dst v,put s.o Δ,s.nx⟩ (fp++[(rd,Δ.map (·.1))]))
   (fun v ws rd=>iJ P (KP v) pr l (fr+1) ⟨a8 s.env o.dst .ab,s.o,s.nx⟩ (fp++[(rd,[])]) [fp.length] (ws++fp.flatMap (·.2)))
  |some (d,want)=>match s.env d with
   | .d (.bool b)=>if b=want then BM P s fr o (fun v Δ rd=>lu P K KP pr l (fr+1) ⟨a8 s.env o.dst v,put s.o Δ,s.nx⟩ (fp++[(rd,Δ.map (·.1))]))
         (fun v ws rd=>iJ P (KP v) pr l (fr+1) ⟨a8 s.env o.dst .ab,s.o,s.nx⟩ (fp++[(rd,[])]) [fp.length] (ws++fp.flatMap (·.2)))
    else lu P K KP pr l (fr+1) ⟨a8 s.env o.dst (.bY []),s.o,s.nx⟩ (fp++[([],[])])
   | .bY []=>lu P K KP pr l (fr+1) ⟨a8 s.env o.dst (.bY []),s.o,s.nx⟩ (fp++[([],[])])
   |_=>False
def Fk(pr:List (List Nat))(nx:Nat)(Q:fK->S->Prop)(s:S)(fp:Fp):Prop:=eV pr fp=true/\Q .normal ⟨s.env,s.o,nx⟩
def dstsOf(l:List b7):List Nat:=l.filterMap (·.dst)
def CX(pr:List (List Nat))(l:List b7)(s0:S)(Q:fK->S->Prop)(v:V)(wl:List Nat)(fp:Fp):Prop:=eV pr fp=true/\Q (.bN v) (vY (dstsOf l) wl l.length s0)
def nG:List b7->List fC->S->Nat->S
 |_,_,s,0=>s
 |o::l,x::xs,s,j+1=>nG l xs (xA o.dst x s) j
 |_,_,s,_=>s
def yX(ct:List fC):Fp:=ct.map fun x=>(xS x,lh x)
section
variable {P:Program}{n b:Nat}
theorem CY{s:S}{fr:Nat}{o:b7}{K:V->List (Nat×ad)->List Nat->Prop}{KX:V->List Nat->List Nat->Prop}(h:BM P s fr o K KX):(∃v Δ rd,yT P s fr o.op v Δ rd/\K v Δ rd)\/(∃v ws rd,CP P s o.op v ws rd/\KX v ws rd):=by
 have hs:∀ {op:Op},o.op=op->(match gM P s fr op with|some (v,Δ,_)=>K v Δ (o9 s o.op)|none=>False)->(∃v Δ rd,yT P s fr o.op v Δ rd/\K v Δ rd):=by
  intro op gy h
  split at h
  ·rename_i v Δ rd he;exact⟨v,Δ,_, .inl ⟨⟨rd,by rw[gy];exact he⟩,rfl⟩,h⟩
  ·exact h.elim
 unfold BM at h
 split at h
 ·rename_i c hc
  split at h
  ·rename_i f fi
   split at h
   ·rename_i g first cap hf
    split at h
    ·rename_i ds fj
     rcases h with(⟨rs,hP,h|⟨oV,h⟩⟩|⟨x,hP,oV,h⟩|⟨v,hP,h⟩)|⟨rd,Δ,mV,⟨rs,hH,h⟩|⟨x,hH,h⟩|⟨v,hH,h⟩⟩
     ·exact .inl ⟨_,_,_, .inr ⟨c,f,g,first,cap,hc,fi,hf, .inl ⟨ds,rs,fj,hP,rfl,rfl, .inl rfl⟩⟩,h⟩
     ·exact .inl ⟨_,_,_, .inr ⟨c,f,g,first,cap,hc,fi,hf, .inl ⟨ds,rs,fj,hP,rfl,rfl, .inr ⟨oV,rfl⟩⟩⟩,h⟩
     ·exact .inr ⟨_,_,_,⟨c,f,g,first,cap,hc,fi,hf, .inl ⟨ds,x,fj,hP,oV,rfl,rfl,rfl⟩⟩,h⟩
     ·exact .inl ⟨_,_,_, .inr ⟨c,f,g,first,cap,hc,fi,hf, .inr (.inr (.inl ⟨ds,fj,hP,rfl,rfl⟩))⟩,h⟩
     ·exact aaF
     ·exact aaI
     ·exact aaG
    ·obtain⟨rd,Δ,mV,⟨rs,hH,h⟩|⟨x,hH,h⟩|⟨v,hH,h⟩⟩:=h
     ·exact aaF
     ·exact aaI
     ·exact aaG
   ·exact h.elim
  ·rw[hc]at h;exact .inl (hs hc (by rw[hc];exact h))
 ·exact .inl (hs rfl h)
def Qf(P:Program)(KB:List Nat->Fp->Prop)(pr:List (List Nat))(l:List b7)(fr:Nat)(s:S)(fp:Fp)(bad ws:List Nat):Prop:=
    ∃ct:List fC,ct.length=l.length/\(∀j o x,l[j]? =some o->ct[j]? =some x->TH P (nG l ct s j) (fr+j) o x)/\
     (∀ (j:Nat),ct[j]? =some fC.eB->∃i∈pr.getD (fp.length+j) [],i∈bad\/∃j',j'<j/\i=fp.length+j'/\ct[j']? =some .eB)/\(∀x∈ct,x= .eB\/x.ok=true)/\
     ∃wl,KB wl (fp++yX ct)/\(∀id∈ws,id∈wl)/\∀x∈ct,∀id∈lh x,id∈wl
theorem CZ{KB:List Nat->Fp->Prop}{pr:List (List Nat)}:∀ (l:List b7) (fr:Nat) (s:S) (fp:Fp) (bad ws:List Nat),iJ P KB pr l fr s fp bad ws->Qf P KB pr l fr s fp bad ws
 |[],fr,s,fp,bad,ws,h=>⟨[],rfl,fun j o x hj=>by simp at hj,fun j hj=>by simp at hj,fun x hx=>by simp at hx,ws,by simpa[yX,iJ]using h,fun _ h=>h,fun x hx=>by simp at hx⟩
 |o::l,fr,s,fp,bad,ws,h=>by
  have step:∀ (x:fC) (Qg TK:List Nat),TH P s fr o x->iJ P KB pr l (fr+1) (xA o.dst x s) (fp++[(xS x,lh x)]) Qg TK->(x= .eB\/x.ok=true)->(x= .eB->∃i∈pr.getD fp.length [],i∈bad)->
   (∀i∈Qg,i∈bad\/(i=fp.length/\x= .eB))->(∀id∈ws,id∈TK)->(∀id∈lh x,id∈TK)->
   Qf P KB pr (o::l) fr s fp bad ws:=by
   intro x Qg TK aY hr Wk JC Wj Qe hW
   obtain⟨ct,h1,h2,h3,h4,wl,h5,h6,h7⟩:=CZ l (fr+1) _ _ Qg TK hr
   refine⟨x::ct,by simp[h1],fun j o' y hj hy=> ?_,fun j hj=> ?_,fun y hy=> ?_,wl,by simpa[yX]using h5,fun id aw=>h6 id (Qe id aw),fun y hy id aw=> ?_⟩
   ·cases j with
    |zero=>exact Ln
    |succ j=>
     have:=h2 j o' y m8 (by simpa using hy)
     exact V4
   ·cases j with
    |zero=>
     simp at hj
     obtain⟨i,i1,i2⟩:=JC hj
     exact⟨i,by simpa using i1, .inl i2⟩
    |succ j=>
     obtain⟨i,i1,i2⟩:=h3 j m8
     simp only[List.length_append,List.length_cons,List.length_nil]at i1 i2
     refine⟨i,by rw[show fp.length+(j+1)=fp.length+(0+1)+j by omega];exact i1, ?_⟩
     rcases i2 with i2|⟨j',j1,j2,j3⟩
     ·rcases Wj i i2 with hb|⟨e1,e2⟩
      ·exact .inl hb
      ·exact .inr ⟨0,af,af,by simp[e2]⟩
     ·exact .inr ⟨j'+1,af,af,by simpa using j3⟩
   ·rcases List.mem_cons.1 hy with rfl|hy
    ·exact Wk
    ·exact h4 y hy
   ·rcases List.mem_cons.1 hy with rfl|hy
    ·exact h6 id (hW id aw)
    ·exact h7 y hy id aw
  simp only[iJ]at h
  split at h
  ·rename_i hb
   obtain⟨j,hj1,Tq⟩:=List.any_eq_true.1 hb
   exact step .eB _ _ trivial h (.inl rfl) (fun _=>⟨j,hj1,by simpa using Tq⟩) (fun i hi=>by
    rcases List.mem_append.1 hi with hi|hi
    ·exact .inl hi
    ·exact .inr ⟨by simpa using hi,rfl⟩) (fun _ h=>h) (fun id aw=>by simp[lh]at aw)
  ·have wa:dZ s o.gd true->BM P s fr o (fun v Δ rd=>iJ P KB pr l (fr+1) ⟨a8 s.env o.dst v,put s.o Δ,s.nx⟩ (fp++[(rd,Δ.map (·.1))]) bad (ws++Δ.map (·.1))) (fun _ _ _=>False)->Qf P KB pr (o::l) fr s fp bad ws:=fun hg h=>by
    rcases CY h with⟨v,Δ,rd,ky,h⟩|⟨v,TK,rd,_,h⟩
    ·exact step (.val v Δ rd) bad (ws++Δ.map (·.1)) ⟨hg,ky⟩ h (.inr rfl) (fun h=>by cases h) (fun i hi=> .inl hi) (fun id aw=>List.mem_append.2 (.inl aw)) (fun id aw=>List.mem_append.2 (.inr aw))
    ·exact h.elim
   have skip:dZ s o.gd false->iJ P KB pr l (fr+1) ⟨a8 s.env o.dst (.bY []),s.o,s.nx⟩ (fp++[([],[])]) bad ws->Qf P KB pr (o::l) fr s fp bad ws:=fun hg h=>
    step .skip bad ws hg h (.inr rfl) (fun h=>by cases h) (fun i hi=> .inl hi) (fun id aw=>aw) (fun id aw=>by simp[lh]at aw)
   split at h
   ·rename_i hg;exact wa (by rw[hg];rfl) h
   ·rename_i d want hg
    split at h
    ·rename_i c hv
     split at h
     ·rename_i e;exact wa Gx h
     ·rename_i e;exact skip Gx h
    ·rename_i hv;exact skip (by rw[hg];simp[dZ,hv]) h
    ·exact h.elim
def Mu(P:Program)(K:S->Fp->Prop)(KP:V->List Nat->Fp->Prop)(pr:List (List Nat))(l:List b7)(fr:Nat)(s:S)(fp:Fp):Prop:=
 ∃ct:List fC,ct.length=l.length/\(∀j o x,l[j]? =some o->ct[j]? =some x->TH P (nG l ct s j) (fr+j) o x)/\
  (((∀x∈ct,x.ok=true)/\K (nG l ct s l.length) (fp++yX ct))\/
   ∃v wl,(∀ (j:Nat) (v':V) (ws rd:List Nat),ct[j]? =some (fC.bN v' ws rd)->v'=v/\∀id∈ws,id∈wl)/\(∃x∈ct,x.ok=false)/\
    (∀ (j:Nat),ct[j]? =some fC.eB->∃i∈pr.getD (fp.length+j) [],∃j',i=fp.length+j'/\∃y,ct[j']? =some y/\y.ok=false)/\KP v wl (fp++yX ct)/\(∀x∈ct,∀id∈lh x,id∈wl)/\∀id∈fp.flatMap (·.2),id∈wl)
theorem wb{K:S->Fp->Prop}{KP:V->List Nat->Fp->Prop}{pr:List (List Nat)}:∀ (l:List b7) (fr:Nat) (s:S) (fp:Fp),lu P K KP pr l fr s fp->Mu P K KP pr l fr s fp
 |[],fr,s,fp,h=>⟨[],rfl,fun j o x hj=>by simp at hj, .inl ⟨fun x hx=>by simp at hx,by simpa[nG,yX,lu]using h⟩⟩
 |o::l,fr,s,fp,h=>by
  have step:∀ (x:fC),x.ok=true->TH P s fr o x->lu P K KP pr l (fr+1) (xA o.dst x s) (fp++[(xS x,lh x)])->Mu P K KP pr (o::l) fr s fp:=by
   intro x KM aY hr
   obtain⟨ct,h1,h2,h3⟩:=wb l (fr+1) _ _ hr
   refine⟨x::ct,by simp[h1],fun j o' y hj hy=> ?_, ?_⟩
   ·cases j with
    |zero=>exact Ln
    |succ j=>
     have:=h2 j o' y m8 (by simpa using hy)
     exact V4
   ·rcases h3 with⟨h3,h4⟩|⟨v,wl,g1,g2,g3,g4,g5,g6⟩
    ·left
     refine⟨fun y hy=> ?_,by simpa[nG,yX]using h4⟩
     rcases List.mem_cons.1 hy with rfl|hy
     ·exact KM
     ·exact h3 y hy
    ·right
     refine⟨v,wl,fun j v' ws rd hj=> ?_, ?_,fun j hj=> ?_,by simpa[yX]using g4,fun y hy id aw=> ?_,fun id aw=>g6 id (by simp only[List.flatMap_append,List.mem_append];exact .inl aw)⟩
     ·cases j with
      |zero=>simp at hj;rw[hj]at KM;cases KM
      |succ j=>exact g1 j v' ws rd m8
     ·obtain⟨y,y1,y2⟩:=g2;exact⟨y,by simp[y1],y2⟩
     ·cases j with
      |zero=>simp at hj;rw[hj]at KM;cases KM
      |succ j=>
       obtain⟨i,i1,j',i2,y,i3,i4⟩:=g3 j m8
       simp only[List.length_append,List.length_cons,List.length_nil]at i1 i2
       exact⟨i,by rw[show fp.length+(j+1)=fp.length+(0+1)+j by omega];exact i1,j'+1,af,y,by simpa using i3,i4⟩
     ·rcases List.mem_cons.1 hy with rfl|hy
      ·exact g6 id (by simp only[List.flatMap_append,List.mem_append];exact .inr (by simpa using aw))
      ·exact g5 y hy id aw
  have bN:∀ (v:V) (ws rd:List Nat),TH P s fr o (.bN v ws rd)->iJ P (KP v) pr l (fr+1) ⟨a8 s.env o.dst .ab,s.o,s.nx⟩ (fp++[(rd,[])]) [fp.length] (ws++fp.flatMap (·.2))->Mu P K KP pr (o::l) fr s fp:=by
   intro v ws rd aY hr
   obtain⟨ct,h1,h2,h3,h4,wl,h5,h6,h7⟩:=CZ l (fr+1) _ _ _ _ hr
   refine⟨fC.bN v ws rd::ct,by simp[h1],fun j o' y hj hy=> ?_, .inr ⟨v,wl,fun j v' TK uH hj=> ?_,⟨fC.bN v ws rd,aE,rfl⟩,fun j hj=> ?_,by simpa[yX,xS,lh]using h5,fun y hy id aw=> ?_,fun id aw=>h6 id (List.mem_append.2 (.inr aw))⟩⟩
   ·cases j with
    |zero=>exact Ln
    |succ j=>
     have:=h2 j o' y m8 (by simpa using hy)
     exact V4
   ·cases j with
    |zero=>simp at hj;obtain⟨rfl,rfl,rfl⟩:=hj;exact⟨rfl,fun id aw=>h6 id (List.mem_append.2 (.inl aw))⟩
    |succ j=>
     have hm:=List.mem_of_getElem? (show ct[j]? =some (.bN v' TK uH) by simpa using hj)
     rcases h4 _ hm with h|h<;>cases h
   ·cases j with
    |zero=>simp at hj
    |succ j=>
     obtain⟨i,i1,i2⟩:=h3 j m8
     simp only[List.length_append,List.length_cons,List.length_nil]at i1 i2
     refine⟨i,by rw[show fp.length+(j+1)=fp.length+(0+1)+j by omega];exact i1, ?_⟩
     rcases i2 with i2|⟨j',j1,j2,j3⟩
     ·exact⟨0,by simpa using i2,_,rfl,rfl⟩
     ·exact⟨j'+1,af, .eB,by simpa using j3,rfl⟩
   ·rcases List.mem_cons.1 hy with rfl|hy
    ·simp[lh]at aw
    ·exact h7 y hy id aw
  have wa:dZ s o.gd true->BM P s fr o (fun v Δ rd=>lu P K KP pr l (fr+1) ⟨a8 s.env o.dst v,put s.o Δ,s.nx⟩ (fp++[(rd,Δ.map (·.1))]))
   (fun v ws rd=>iJ P (KP v) pr l (fr+1) ⟨a8 s.env o.dst .ab,s.o,s.nx⟩ (fp++[(rd,[])]) [fp.length] (ws++fp.flatMap (·.2)))->Mu P K KP pr (o::l) fr s fp:=fun hg h=>by
   rcases CY h with⟨v,Δ,rd,ky,h⟩|⟨v,ws,rd,ky,h⟩
   ·exact step (.val v Δ rd) rfl ⟨hg,ky⟩ h
   ·exact bN v ws rd ⟨hg,ky⟩ h
  have skip:dZ s o.gd false->lu P K KP pr l (fr+1) ⟨a8 s.env o.dst (.bY []),s.o,s.nx⟩ (fp++[([],[])])->Mu P K KP pr (o::l) fr s fp:=fun hg h=>step .skip rfl hg h
  simp only[lu]at h
  split at h
  ·rename_i hg;exact wa (by rw[hg];rfl) h
  ·rename_i d want hg
   split at h
   ·rename_i c hv
    split at h
    ·rename_i e;exact wa Gx h
    ·rename_i e;exact skip Gx h
   ·rename_i hv;exact skip (by rw[hg];simp[dZ,hv]) h
   ·exact h.elim
end
end
section
def pS(env:Nat->V):List Nat->List V->Nat->V
 |t::ps,v::vs=>pS (ay env t v) ps vs
 |_,_=>env
def Fl(pr:List (List Nat))(m:Nat):Bool:=(List.range pr.length).all fun k=>Nat.blt k m||Nat.beq ((eM pr []).getD k 0) (2^k - 1)
def Mv(P:Program)(l:List b7)(pr:List (List Nat))(Q:fK->S->Prop)(s:S):Prop:=
 ∃m,m<=l.length/\Fl pr m=true/\lu P (fun s' fp=>eV pr fp=true/\pQ P (fun v s=>Q (.bN v) s) (Q .normal) (l.drop m) ⟨s'.env,s'.o,s.nx+m⟩) (fun _ _ _=>False) pr (l.take m) s.nx s []
def uP(P:Program)(n b:Nat)(rd:Bool):IC->(fK->S->Prop)->S->Prop
 | .skip,Q,s=>Q .normal s
 | .ah l,Q,s=>pQ P (fun v s=>Q (.bN v) s) (Q .normal) l s
 | .dI l pr,Q,s=>lu P (Fk pr (s.nx+l.length) Q) (CX pr l s Q) pr l s.nx s []\/Mv P l pr Q s
 | .seq x y,Q,s=>uP P n b rd x (qO (uP P n b rd y Q) Q) s
 | .cond c x y,Q,s=>match s.ev c with
   | .d (.bool t)=>q8 t (uP P n b rd x Q s) (uP P n b rd y Q s)
   | .fH=>uP P n b rd x Q s/\uP P n b rd y Q s
   |_=>False
 | .block id x,Q,s=>uP P n b rd x (fL id Q) s
 | .loop x,Q,s=>Mo b (uP P n b rd x) Q s
 | .exit id,Q,s=>Q (.exit id) s
 | .ret,Q,s=>Q .ret s
 | .Ky g ps x y,Q,s=>rd=false/\ab1 P n b g ps x y Q s
 | .bad,_,_=>False
section
variable {P:Program}{n b:Nat}{rd:Bool}
theorem wc:∀ (l:List b7) (ct:List fC) (s:S) (k:Nat) (o:b7) (x:fC),l[k]? =some o->ct[k]? =some x->nG l ct s (k+1)=xA o.dst x (nG l ct s k)
 |[],_,_,_,_,_,h,_=>by simp at h
 |o::l,[],_,_,_,_,_,h=>by simp at h
 |o::l,x::xs,s,0,o',x',h,h'=>by simp at h h';subst h;subst h';cases l<;>cases xs<;>rfl
 |o::l,x::xs,s,k+1,o',x',h,h'=>by
  simp only[nG]
  exact wc l xs _ k o' x' (by simpa using h) (by simpa using h')
theorem yY(l:List b7)(ct:List fC)(s:S)(hl:ct.length=l.length):∀k,k<=l.length->eO (b9 l) (fun i=>ct.getD i default) (fun _=>true) s k=nG l ct s k:=by
 intro k
 induction k with
 |zero=>intro _;cases l<;>cases ct<;>rfl
 |succ k ih=>
  intro hk
  have h1:l[k]? =some (b9 l k):=by simp[b9,List.getD_eq_getElem?_getD,List.getElem?_eq_getElem (by omega:k<l.length)]
  have h2:ct[k]? =some (ct.getD k default):=by simp[List.getD_eq_getElem?_getD,List.getElem?_eq_getElem (by omega:k<ct.length)]
  simp only[eO,if_true,ih (by omega)]
  rw[wc l ct s k _ _ h1 h2]
theorem nH{ops:Array Oper}:∀ (l:List Oper) (l':List b7),lF n ops l=some l'->l'.length=l.length
 |[],_,h=>by simp[lF]at h;subst h;rfl
 |o::l,l',h=>by
  simp only[lF]at h
  split at h
  ·rename_i hx;injection h with h;subst h;simp[nH l _ hx]
  ·cases h
theorem JG(bf:P.follows .mixedOrders=true){id:Nat}{ops:Array Oper}{l:List b7}{Q Q':fK->S->Prop}{s:S}(hQ:∀e s,Q e s->Q' e s)(sL:lF n ops ops.toList=some l)(ht:zY l (gQ ops)=true)
 (hp:V6 (gQ ops)=true) (h:lu P (Fk (gQ ops) (s.nx+l.length) Q) (CX (gQ ops) l s Q) (gQ ops) l s.nx s []):jo P n b rd (.region id ops true) Q' s:=by
 intro M cP H0 w0 cx φ a w ro k hs
 obtain⟨ct,hl,aY,ly⟩:=wb l _ _ _ h
 have hlen:l.length=ops.size:=by rw[nH _ _ sL];simp
 have tG:∀k,k<ops.size->(gQ ops).getD k []=bH ops k:=by
  intro k hk;simp[gQ,List.getD_eq_getElem?_getD,List.getElem?_map,List.getElem?_range hk]
 have xM:(gQ ops).length=ops.size:=by simp[gQ]
 have ky:=yY l ct s hl
 have Kw:∀k,k<ops.size->l[k]? =some (b9 l k):=fun k hk=>by simp[b9,List.getD_eq_getElem?_getD,List.getElem?_eq_getElem (by omega:k<l.length)]
 have xz:∀k,k<ops.size->ct[k]? =some (ct.getD k default):=fun k hk=>by simp[List.getD_eq_getElem?_getD,List.getElem?_eq_getElem (by omega:k<ct.length)]
 have mW:∀k,k<ops.size->ct.getD k default∈ct:=fun k hk=>List.mem_of_getElem? (xz k hk)
 have PS:∀k,k<ops.size->(yX ct)[k]? =some (xS (ct.getD k default),lh (ct.getD k default)):=fun k hk=>by
  simp only[yX,List.getElem?_map,xz k hk,Option.map_some]
 have Wl:(yX ct).length=ops.size:=by simp[yX,hl,hlen]
 simp only[List.nil_append,List.length_nil,Nat.zero_add]at ly
 have vE:eV (gQ ops) (yX ct)=true:=by
  rcases ly with⟨_,h⟩|⟨v,wl,_,_,_,h,_⟩
  ·exact h.1
  ·exact h.1
 have JH:∀k,k<ops.size->∀j∈bH ops k,j<k:=fun k hk j hj=>by
  have:=List.all_eq_true.1 hp k (by simpa[xM]using hk)
  rw[tG k hk]at this
  simpa using List.all_eq_true.1 this j hj
 have Mw:∀k,k<(gQ ops).length->∀j∈(gQ ops).getD k [],j<k:=fun k hk j hj=>by
  rw[xM]at hk;rw[tG k hk]at hj;exact JH k hk j hj
 let po:Nat->Nat->Prop:=fun k j=>((eM (gQ ops) []).getD k 0).testBit j=true
 have He:∀E:Nat->Bool,(∀k,k<ops.size->E k=true->∀j∈bH ops k,E j=true)->∀k,k<ops.size->(∀j∈bH ops k,E j=true)->∀j,po k j->E j=true:=fun E hE k hk hj j hb=>
  qv Mw (fun k hk jn j hj=>by rw[xM]at hk;rw[tG k hk]at hj;exact hE k hk jn j hj) k (by rw[xM];exact hk) (by rw[tG k hk];exact hj) j hb
 have CV:∀k,k<ops.size->∀j,po k j->j<k:=fun k hk j hb=>B5 Mw k (by rw[xM];exact hk) j hb
 have AO:∀i j,i<j->j<ops.size-> ¬po j i->Compat (b9 l) (fun i=>ct.getD i default) (fun i=>xS (ct.getD i default)) i j:=by
  intro i j hij hj hn
  have PB:=List.all_eq_true.1 (List.all_eq_true.1 ht j (by simpa[hlen]using hj)) i (by simpa using hij)
  have yc:=List.all_eq_true.1 (List.all_eq_true.1 vE j (by simpa[Wl]using hj)) i (by simpa using hij)
  have hnc:((eM (gQ ops) []).getD j 0).testBit i=false:=by simpa[po]using hn
  rw[hnc,Bool.false_or]at PB yc
  simp only[Bool.and_eq_true]at PB yc
  have gi:=PS i af
  have gj:=PS j hj
  simp only[List.getD_eq_getElem?_getD (l:=yX ct),gi,gj,Option.getD_some]at yc
  have dj:∀ {xs ys:List Nat},kX xs ys=true->∀x∈xs,x∉ys:=fun h x hx=>by simpa using List.all_eq_true.1 h x hx
  have fo:∀ {x y:b7},sj x y=true->∀d,x.dst=some d->d∉fk y:=fun h d hd=>by simpa[sj,hd]using h
  exact aaM
 have TL:∀i,i<ops.size->TH P (eO (b9 l) (fun i=>ct.getD i default) (fun _=>true) s i) (s.nx+i) (b9 l i) (ct.getD i default):=fun i hi=>by
  rw[ky i (by omega)];exact aY i _ _ (Kw i hi) (xz i hi)
 have db:∀i,i<ops.size->∀t,(b9 l i).dst=some t->(dstsOf l).contains t=true:=fun i hi t ht=>by
  simp only[List.contains_iff_mem,dstsOf,List.mem_filterMap]
  exact⟨b9 l i,List.mem_of_getElem? (Kw i hi),ht⟩
 rcases ly with⟨ba,ly⟩|⟨v,wl,q1,q2,q3,q4,q5,q6⟩
 ·refine CU (ac:=fun i=>ct.getD i default) (dl:=dstsOf l) (wl:=(ct.flatMap lh)) bf sL JH hs TL (fun i hi hb=> ?_) He CV AO db (fun i hi id aw=> ?_) (fun i v ws uH hi hb=> ?_) (fun _ φ a w jR=> ?_) (fun i v ws uH hi hb=> ?_)
  ·have:=ba _ (mW i hi);rw[hb]at this;cases this
  ·simp only[List.contains_iff_mem,List.mem_flatMap];exact⟨_,mW i hi,aw⟩
  ·have:=ba _ (mW i hi);rw[hb]at this;cases this
  ·rw[ky ops.size (by omega), <- hlen]at jR
   exact⟨.normal,_,φ,hQ _ _ ly.2,jR,trivial⟩
  ·have:=ba _ (mW i hi);rw[hb]at this;cases this
 ·refine CU (ac:=fun i=>ct.getD i default) (dl:=dstsOf l) (wl:=wl) bf sL JH hs TL (fun i hi hb=> ?_) He CV AO db (fun i hi id aw=> ?_) (fun i v' ws uH hi hb=> ?_) (fun ba φ a w jR=> ?_) (fun i v' ws uH hi hb φ a w val jR hd=> ?_)
  ·obtain⟨j,j1,j',e,y,j3,j4⟩:=q3 i Lu
   rw[tG i hi,e]at j1
   refine⟨j',j1, ?_⟩
   simp only[List.getD_eq_getElem?_getD,j3,Option.getD_some,j4]
  ·simp only[List.contains_iff_mem];exact q5 _ (mW i hi) id aw
  ·intro id aw
   simp only[List.contains_iff_mem]
   exact(q1 i v' ws uH Lu).2 id aw
  ·obtain⟨x,x1,x2⟩:=q2
   obtain⟨i,PM,hi2⟩:=List.getElem_of_mem x1
   have hi:i<ops.size:=af
   have:=ba i hi
   have e:ct.getD i default=x:=by simp[List.getD_eq_getElem?_getD,List.getElem?_eq_getElem PM,hi2]
   rw[e,x2]at this;cases this
  ·have e:=(q1 i v' ws uH Lu).1
   subst e
   rw[<- hlen]at jR hd
   exact⟨.bN v',_,φ,hQ _ _ q4.2,jR,val,rfl,hd⟩
theorem yZ{ops:Array Oper}:∀ (l:List Oper) (l':List b7) (m:Nat),lF n ops l=some l'->lF n ops (l.drop m)=some (l'.drop m)
 |l,l',0,h=>h
 |[],l',m+1,h=>by simp[lF]at h;subst h;simp[lF]
 |o::l,l',m+1,h=>by
  simp only[lF]at h
  split at h
  ·rename_i x xs hx Af
   injection h with h;subst h
   exact yZ l xs m Af
  ·cases h
theorem Mx{l:List b7}{ac:Nat->fC}{E:Nat->Bool}{s:S}{m:Nat}:∀k,k<=m->eO (b9 l) ac E s k=eO (b9 (l.take m)) ac E s k:=by
 intro k
 induction k with
 |zero=>intro _;rfl
 |succ k ih=>
  intro hk
  have:b9 l k=b9 (l.take m) k:=by simp[b9,List.getD_eq_getElem?_getD,List.getElem?_take,(by omega:k<m)]
  simp only[eO,ih (by omega),this]
theorem Fo(bf:P.follows .mixedOrders=true){id:Nat}{ops:Array Oper}{l:List b7}{Q Q':fK->S->Prop}{s:S}(hQ:∀e s,Q e s->Q' e s)(sL:lF n ops ops.toList=some l)(ht:zY l (gQ ops)=true)
 (hp:V6 (gQ ops)=true) (h:Mv P l (gQ ops) Q s):jo P n b rd (.region id ops true) Q' s:=by
 intro M cP H0 w0 cx φ a w ro k hs
 obtain⟨m,KC,hto,h⟩:=h
 obtain⟨ct,hl,aY,ly⟩:=wb (l.take m) _ _ _ h
 have hlm:(l.take m).length=m:=by rw[List.length_take];omega
 have hlen:l.length=ops.size:=by rw[nH _ _ sL];simp
 have ly:=ly.resolve_right (fun⟨_,_,_,_,_,q4,_,_⟩=>q4)
 obtain⟨ba,ly⟩:=ly
 have L7:ct.length=m:=af
 have tG:∀k,k<ops.size->(gQ ops).getD k []=bH ops k:=by
  intro k hk;simp[gQ,List.getD_eq_getElem?_getD,List.getElem?_map,List.getElem?_range hk]
 have xM:(gQ ops).length=ops.size:=by simp[gQ]
 have ky:∀k,k<=m->eO (b9 l) (fun i=>ct.getD i default) (fun _=>true) s k=nG (l.take m) ct s k:=fun k hk=>by
  rw[Mx k hk];exact yY (l.take m) ct s hl k af
 have Kw:∀k,k<m->(l.take m)[k]? =some (b9 l k):=fun k hk=>by
  rw[List.getElem?_take,if_pos hk]
  simp[b9,List.getD_eq_getElem?_getD,List.getElem?_eq_getElem (by omega:k<l.length)]
 have xz:∀k,k<m->ct[k]? =some (ct.getD k default):=fun k hk=>by simp[List.getD_eq_getElem?_getD,List.getElem?_eq_getElem (by omega:k<ct.length)]
 have mW:∀k,k<m->ct.getD k default∈ct:=fun k hk=>List.mem_of_getElem? (xz k hk)
 have PS:∀k,k<m->(yX ct)[k]? =some (xS (ct.getD k default),lh (ct.getD k default)):=fun k hk=>by
  simp only[yX,List.getElem?_map,xz k hk,Option.map_some]
 have Wl:(yX ct).length=m:=by simp[yX,L7]
 simp only[List.nil_append]at ly
 obtain⟨vE,Qh⟩:=ly
 have JH:∀k,k<ops.size->∀j∈bH ops k,j<k:=fun k hk j hj=>by
  have:=List.all_eq_true.1 hp k (by simpa[xM]using hk)
  rw[tG k hk]at this
  simpa using List.all_eq_true.1 this j hj
 have Mw:∀k,k<(gQ ops).length->∀j∈(gQ ops).getD k [],j<k:=fun k hk j hj=>by
  rw[xM]at hk;rw[tG k hk]at hj;exact JH k hk j hj
 let po:Nat->Nat->Prop:=fun k j=>((eM (gQ ops) []).getD k 0).testBit j=true
 have He:∀E:Nat->Bool,(∀k,k<ops.size->E k=true->∀j∈bH ops k,E j=true)->∀k,k<ops.size->(∀j∈bH ops k,E j=true)->∀j,po k j->E j=true:=fun E hE k hk hj j hb=>
  qv Mw (fun k hk jn j hj=>by rw[xM]at hk;rw[tG k hk]at hj;exact hE k hk jn j hj) k (by rw[xM];exact hk) (by rw[tG k hk];exact hj) j hb
 have CV:∀k,k<ops.size->∀j,po k j->j<k:=fun k hk j hb=>B5 Mw k (by rw[xM];exact hk) j hb
 have AO:∀i j,i<j->j<m-> ¬po j i->Compat (b9 l) (fun i=>ct.getD i default) (fun i=>xS (ct.getD i default)) i j:=by
  intro i j hij hj hn
  have PB:=List.all_eq_true.1 (List.all_eq_true.1 ht j gL) i (by simpa using hij)
  have yc:=List.all_eq_true.1 (List.all_eq_true.1 vE j (by simpa[Wl]using hj)) i (by simpa using hij)
  have hnc:((eM (gQ ops) []).getD j 0).testBit i=false:=by simpa[po]using hn
  rw[hnc,Bool.false_or]at PB yc
  simp only[Bool.and_eq_true]at PB yc
  have gi:=PS i af
  have gj:=PS j hj
  simp only[List.getD_eq_getElem?_getD (l:=yX ct),gi,gj,Option.getD_some]at yc
  have dj:∀ {xs ys:List Nat},kX xs ys=true->∀x∈xs,x∉ys:=fun h x hx=>by simpa using List.all_eq_true.1 h x hx
  have fo:∀ {x y:b7},sj x y=true->∀d,x.dst=some d->d∉fk y:=fun h d hd=>by simpa[sj,hd]using h
  exact aaM
 have htl:∀k,m<=k->k<ops.size->∀j,j<k->po k j:=fun k l6 hk j hj=>by
  have:=List.all_eq_true.1 hto k (by simpa[xM]using hk)
  simp only[Bool.or_eq_true]at this
  rcases this with this|this
  ·exact absurd (Nat.blt_eq.mp this) af
  ·show((eM (gQ ops) []).getD k 0).testBit j=true
   rw[Nat.eq_of_beq_eq_true this,Nat.testBit_two_pow_sub_one]
   exact decide_eq_true hj
 refine Fj (ac:=fun i=>ct.getD i default) (m:=m) (X:=fun v s=>Q' (.bN v) s) (K:=Q' .normal) bf sL JH af hs (fun i hi=> ?_) (fun i hi=>ba _ (mW i hi)) He CV AO htl ?_ (fun s φ a w hk jR=>⟨.normal,s,φ,hk,jR,trivial⟩) (fun v s' aH a' w' val hx jR hd=>⟨.bN v,s',aH,hx,jR,val,rfl,hd⟩)
 ·rw[ky i (by omega)];exact aY i _ _ (Kw i hi) (xz i hi)
 ·rw[ky m (Nat.le_refl _)]
  rw[hlm]at Qh
  exact jB (fun s hs=>hQ _ _ hs) (fun v s hs=>hQ _ _ hs) _ _ _ (yZ _ _ m sL) Qh
theorem sM{g:V}{ps:List Nat}{x y:IC}{Q Q':fK->S->Prop}{s:S}(hQ:∀e s,Q e s->Q' e s)(h:CG P n g ps x y Q s):CG P n g ps x y Q' s:=by
 obtain⟨env,h1,h2⟩:=h
 refine⟨env,h1, ?_⟩
 split at h2
 ·refine pa.mono (fun v o n h=> ?_) (fun v o n h=>hQ _ _ h) h2
  obtain⟨nf,m,e,p,c,d,st,pd,k1,k2,k3⟩:=h
  refine⟨nf,m,e,p,c,d,st,pd,k1,k2, ?_⟩
  cases pd with
  |none=>exact hQ _ _ k3
  |some j=>cases j<;>exact hQ _ _ k3
 ·exact h2
theorem iK(bf:P.follows .mixedOrders=true):∀ (c:Code) (Q Q':fK->S->Prop) (s:S),(∀e s,Q e s->Q' e s)->uP P n b rd (low n c) Q s->jo P n b rd c Q' s:=by
 intro c
 induction c with
 |skip=>exact fun Q Q' s hQ h=>hQ _ _ h
 |scope x ih=>exact fun Q Q' s hQ h=>ih Q Q' s hQ h
 |label l=>exact fun Q Q' s hQ h=>hQ _ _ h
 |exit id=>exact fun Q Q' s hQ h=>hQ _ _ h
 |ret=>exact fun Q Q' s hQ h=>hQ _ _ h
 |goto l=>exact fun Q Q' s hQ h=>h.elim
 |refuse y=>exact fun Q Q' s hQ h=>h.elim
 |rangeFunc f p x y=>
  intro Q Q' s hQ h
  obtain⟨h1,s',hle,h2⟩:=h
  exact⟨h1,s',hle,sM hQ h2⟩
 |region id ops draw=>
  intro Q Q' s hQ h
  cases draw with
  |true=>
   simp only[low]at h
   split at h
   ·rename_i l hl
    split at h
    ·rename_i hc
     simp only[Bool.and_eq_true]at hc
     rcases h with h|h
     ·exact JG bf hQ hl hc.1 hc.2 h
     ·exact Fo bf hQ hl hc.1 hc.2 h
    ·exact h.elim
   ·exact h.elim
  |false=>
   simp only[low]at h
   split at h
   ·rename_i l hl;exact jB (fun s hs=>hQ _ _ hs) (fun v s hs=>hQ _ _ hs) _ l s hl h
   ·exact h.elim
 |seq x y Qa Qb=>
  intro Q Q' s hQ h
  refine Qa _ _ s (fun e s he=> ?_) h
  cases e<;>first|exact Qb Q Q' s hQ he|exact hQ _ _ he
 |cond c x y Qa Qb=>
  intro Q Q' s hQ h
  simp only[low,uP]at h
  simp only[jo]
  split at h
  ·rename_i t hc
   simp only[hc]
   exact⟨fun ht=>Qa Q Q' s hQ (h.1 ht),fun ht=>Qb Q Q' s hQ (h.2 ht)⟩
  ·rename_i hc
   simp only[hc]
   exact⟨Qa Q Q' s hQ h.1,Qb Q Q' s hQ h.2⟩
  ·exact h.elim
 |block id x ih=>
  intro Q Q' s hQ h
  refine ih _ _ s (fun e s he=> ?_) h
  cases e<;>simp only[fL]at he|- <;>first
   |exact hQ _ _ he
   |(split at he<;>rename_i e
     ·rw[if_pos e];exact hQ _ _ he
     ·rw[if_neg e];exact hQ _ _ he)
 |loop x ih=>
  intro Q Q' s hQ h
  obtain⟨J,h0,hr⟩:=h
  refine⟨J,h0,fun m s0 hJ=>ih _ _ s0 (fun e s he=> ?_) (hr m s0 hJ)⟩
  cases e<;>first|exact hQ _ _ he|exact he
structure aO (P:Program) (f:FuncId) (n:Nat) (ic:IC) (rs:List ResultVar):Prop where
 get:∃fn,P.funcs[f]? =some fn/\(fn.name== "runtime.NumGoroutine")=false/\fn.ntmps=n/\fn.results.toList=rs/\∃c,fn.body=some c/\low n c=ic
theorem bP.we (bf:P.follows .mixedOrders=true){f:FuncId}{ic:IC}{rs:List ResultVar}(hf:aO P f n ic rs){args:List V}{o:Nat->ad}{nx:Nat}{K X:V->(Nat->ad)->Nat->Prop}(hl:args.length<=n)(h:uP P n nx false ic (mo P rs K X) ⟨cC args,o,nx⟩):bP P f args o nx K X:=by
 obtain⟨fn,h1,h2,rfl,rfl,c,h3,rfl⟩:=hf.get
 exact bP.G8 h1 h2 h3 hl (iK bf c _ _ _ (fun _ _ h=>h) h)
theorem aW.we (bf:P.follows .mixedOrders=true){f:FuncId}{ic:IC}{rs:List ResultVar}(hf:aO P f n ic rs){ds:List D}{out:R}(hl:ds.length<=n)(h:uP P n 0 false ic (Aq P rs out) ⟨cC (ds.map .d),fun _=> .no,0⟩):aW P f ds out:=by
 obtain⟨fn,h1,h2,rfl,rfl,c,h3,rfl⟩:=hf.get
 exact aW.la (bP.G8 h1 h2 h3 (by simpa using hl) (iK bf c _ _ _ (fun e s h=>Jw e s h) h))
end
end
end Go.Proofs.YtlhemmpklhhgoaaGreat
