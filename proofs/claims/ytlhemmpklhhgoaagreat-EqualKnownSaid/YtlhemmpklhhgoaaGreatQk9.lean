/-
  A PART OF THE PROOF. Conditions: none.
-/
import Derived.Test.YtlhemmpklhhgoaaGreatQk8
set_option linter.unusedSimpArgs false
set_option linter.unusedVariables false
namespace Go.Proofs.YtlhemmpklhhgoaaGreat
section
def m4(P:Program)(g:FuncId)(ds:List D)(Kf Kb KX:V->Prop):Prop:=
 (∃rs,bt P g ds (.ret rs)/\(Kf (fE rs)\/(D.eT rs=true/\Kb (fE rs))))\/(∃x,bt P g ds (.aJ x)/\x.flat=true/\KX (.d x))\/(∃v,DC P g ds v/\Kf v)
def ga(P:Program)(g:FuncId)(args:List V)(o:Nat->aa)(nx fr:Nat)(K:V->List (Nat×aa)->List Nat->Prop)(KX:V->List Nat->List Nat->Prop):Prop:=
 ∃rd Δ,rd.all (fun id=>decide (id<nx))=true/\((∃rs,uk P g args rd o (.ret rs) Δ/\K (fE rs) Δ rd)\/(∃x,uk P g args rd o (.aJ x) Δ/\KX (.d x) (Δ.map (·.1)) rd)\/(∃v,qB P g args rd o fr v Δ/\K v Δ rd))
def tg(P:Program)(s:S)(fr:Nat)(o:aP)(K:V->List (Nat×aa)->List Nat->Prop)(KX:V->List Nat->List Nat->Prop):Prop:=
 match o.op with
 | .call c=>match c.callee with
   | .value f=>match s.ev f with
     | .func (.func g) first cap=>match aT s.o (first++c.args.toList.map s.ev++cap)with
       |some ds=>m4 P g ds (fun v=>K v (bH s.o (V.aC (first++c.args.toList.map s.ev++cap))) (gK s o.op)) (fun v=>K v [] (gK s o.op)) (fun v=>KX v [] (gK s o.op))\/ga P g (first++c.args.toList.map s.ev++cap) s.o s.nx fr K KX
       |none=>ga P g (first++c.args.toList.map s.ev++cap) s.o s.nx fr K KX
     |_=>False
   |_=>match dw P s fr o.op with
    |some (v,Δ,_)=>K v Δ (gK s o.op)
    |none=>False
 |op=>match dw P s fr op with
  |some (v,Δ,_)=>K v Δ (gK s o.op)
  |none=>False
abbrev Fp:=List (List Nat×List Nat)
def eg(P:Program)(KB:List Nat->Fp->Prop)(pr:List (List Nat)):List aP->Nat->S->Fp->List Nat->List Nat->Prop
 |[],_,_,fp,_,ws=>KB ws fp
 |o::l,fr,s,fp,bad,ws=>if(pr.getD fp.length []).any (fun j=>bad.contains j)=true then eg P KB pr l (fr+1) ⟨az s.env o.dst .bT,s.o,s.nx⟩ (fp++[([],[])]) (bad++[fp.length]) ws
  else match o.gd with
  |none=>tg P s fr o (fun v Δ rd=>eg P KB pr l (fr+1) ⟨az s.env o.dst v,put s.o Δ,s.nx⟩ (fp++[(rd,Δ.map (·.1))]) bad (ws++Δ.map (·.1))) (fun _ _ _=>False)
  |some (d,want)=>match s.env d with
   | .d (.bool b)=>if b=want then tg P s fr o (fun v Δ rd=>eg P KB pr l (fr+1) ⟨az s.env o.dst v,put s.o Δ,s.nx⟩ (fp++[(rd,Δ.map (·.1))]) bad (ws++Δ.map (·.1))) (fun _ _ _=>False)
    else eg P KB pr l (fr+1) ⟨az s.env o.dst (.a7 []),s.o,s.nx⟩ (fp++[([],[])]) bad ws
   | .a7 []=>eg P KB pr l (fr+1) ⟨az s.env o.dst (.a7 []),s.o,s.nx⟩ (fp++[([],[])]) bad ws
   |_=>False
def fw(P:Program)(K:S->Fp->Prop)(KP:V->List Nat->Fp->Prop)(pr:List (List Nat)):List aP->Nat->S->Fp->Prop
 |[],_,s,fp=>K s fp
 |o::l,fr,s,fp=>match o.gd with
  |none=>tg P s fr o (fun v Δ rd=>fw P K KP pr l (fr+1) ⟨az s.env o.dst v,put s.o Δ,s.nx⟩ (fp++[(rd,Δ.map (·.1))]))
   (fun v ws rd=>eg P (KP v) pr l (fr+1) ⟨az s.env o.dst .bT,s.o,s.nx⟩ (fp++[(rd,[])]) [fp.length] (ws++fp.flatMap (·.2)))
  |some (d,want)=>match s.env d with
   | .d (.bool b)=>if b=want then tg P s fr o (fun v Δ rd=>fw P K KP pr l (fr+1) ⟨az s.env o.dst v,put s.o Δ,s.nx⟩ (fp++[(rd,Δ.map (·.1))]))
         (fun v ws rd=>eg P (KP v) pr l (fr+1) ⟨az s.env o.dst .bT,s.o,s.nx⟩ (fp++[(rd,[])]) [fp.length] (ws++fp.flatMap (·.2)))
    else fw P K KP pr l (fr+1) ⟨az s.env o.dst (.a7 []),s.o,s.nx⟩ (fp++[([],[])])
   | .a7 []=>fw P K KP pr l (fr+1) ⟨az s.env o.dst (.a7 []),s.o,s.nx⟩ (fp++[([],[])])
   |_=>False
def qJ(pr:List (List Nat))(nx:Nat)(Q:dM->S->Prop)(s:S)(fp:Fp):Prop:=e8 pr fp=true/\Q .normal ⟨s.env,s.o,nx⟩
def dstsOf(l:List aP):List Nat:=l.filterMap (·.dst)
def pE(pr:List (List Nat))(l:List aP)(s0:S)(Q:dM->S->Prop)(v:V)(wl:List Nat)(fp:Fp):Prop:=e8 pr fp=true/\Q (.aJ v) (lC (dstsOf l) wl l.length s0)
def gb:List aP->List cJ->S->Nat->S
 |_,_,s,0=>s
 |o::l,x::xs,s,j+1=>gb l xs (l6 o.dst x s) j
 |_,_,s,_=>s
def m5(aR:List cJ):Fp:=aR.map fun x=>(ml x,eJ x)
section
variable {P:Program}{n b:Nat}
theorem pF{s:S}{fr:Nat}{o:aP}{K:V->List (Nat×aa)->List Nat->Prop}{KX:V->List Nat->List Nat->Prop}(h:tg P s fr o K KX):(∃v Δ rd,mW P s fr o.op v Δ rd/\K v Δ rd)\/(∃v ws rd,py P s o.op v ws rd/\KX v ws rd):=by
 have hs:∀ {op:Op},o.op=op->(match dw P s fr op with|some (v,Δ,_)=>K v Δ (gK s o.op)|none=>False)->(∃v Δ rd,mW P s fr o.op v Δ rd/\K v Δ rd):=by
  intro op dg h
  split at h
  ·rename_i v Δ rd he;exact⟨v,Δ,_, .inl ⟨⟨rd,by rw[dg];exact he⟩,rfl⟩,h⟩
  ·exact h.elim
 unfold tg at h
 split at h
 ·rename_i c hc
  split at h
  ·rename_i f cE
   split at h
   ·rename_i g first cap hf
    split at h
    ·rename_i ds dh
     rcases h with(⟨rs,hP,h|⟨jk,h⟩⟩|⟨x,hP,jk,h⟩|⟨v,hP,h⟩)|⟨rd,Δ,gQ,⟨rs,hH,h⟩|⟨x,hH,h⟩|⟨v,hH,h⟩⟩
     ·exact .inl ⟨_,_,_, .inr ⟨c,f,g,first,cap,hc,cE,hf, .inl ⟨ds,rs,dh,hP,rfl,rfl, .inl rfl⟩⟩,h⟩
     ·exact .inl ⟨_,_,_, .inr ⟨c,f,g,first,cap,hc,cE,hf, .inl ⟨ds,rs,dh,hP,rfl,rfl, .inr ⟨jk,rfl⟩⟩⟩,h⟩
     ·exact .inr ⟨_,_,_,⟨c,f,g,first,cap,hc,cE,hf, .inl ⟨ds,x,dh,hP,jk,rfl,rfl,rfl⟩⟩,h⟩
     ·exact .inl ⟨_,_,_, .inr ⟨c,f,g,first,cap,hc,cE,hf, .inr (.inr (.inl ⟨ds,dh,hP,rfl,rfl⟩))⟩,h⟩
     ·exact Cg
     ·exact Cj
     ·exact Ch
    ·obtain⟨rd,Δ,gQ,⟨rs,hH,h⟩|⟨x,hH,h⟩|⟨v,hH,h⟩⟩:=h
     ·exact Cg
     ·exact Cj
     ·exact Ch
   ·exact h.elim
  ·rw[hc]at h;exact .inl (hs hc (by rw[hc];exact h))
 ·exact .inl (hs rfl h)
def wo(P:Program)(KB:List Nat->Fp->Prop)(pr:List (List Nat))(l:List aP)(fr:Nat)(s:S)(fp:Fp)(bad ws:List Nat):Prop:=
    ∃aR:List cJ,aR.length=l.length/\(∀j o x,l[j]? =some o->aR[j]? =some x->xT P (gb l aR s j) (fr+j) o x)/\
     (∀ (j:Nat),aR[j]? =some cJ.cM->∃i∈pr.getD (fp.length+j) [],i∈bad\/∃j',j'<j/\i=fp.length+j'/\aR[j']? =some .cM)/\(∀x∈aR,x= .cM\/x.ok=true)/\
     ∃wl,KB wl (fp++m5 aR)/\(∀id∈ws,id∈wl)/\∀x∈aR,∀id∈eJ x,id∈wl
theorem pG{KB:List Nat->Fp->Prop}{pr:List (List Nat)}:∀ (l:List aP) (fr:Nat) (s:S) (fp:Fp) (bad ws:List Nat),eg P KB pr l fr s fp bad ws->wo P KB pr l fr s fp bad ws
 |[],fr,s,fp,bad,ws,h=>⟨[],rfl,fun j o x hj=>by simp at hj,fun j hj=>by simp at hj,fun x hx=>by simp at hx,ws,by simpa[m5,eg]using h,fun _ h=>h,fun x hx=>by simp at hx⟩
 |o::l,fr,s,fp,bad,ws,h=>by
  have step:∀ (x:cJ) (wq xW:List Nat),xT P s fr o x->eg P KB pr l (fr+1) (l6 o.dst x s) (fp++[(ml x,eJ x)]) wq xW->(x= .cM\/x.ok=true)->(x= .cM->∃i∈pr.getD fp.length [],i∈bad)->
   (∀i∈wq,i∈bad\/(i=fp.length/\x= .cM))->(∀id∈ws,id∈xW)->(∀id∈eJ x,id∈xW)->
   wo P KB pr (o::l) fr s fp bad ws:=by
   intro x wq xW aI hr Nf zp zu wm hW
   obtain⟨aR,h1,h2,h3,h4,wl,h5,h6,h7⟩:=pG l (fr+1) _ _ wq xW hr
   refine⟨x::aR,by simp[h1],fun j o' y hj hy=> ?_,fun j hj=> ?_,fun y hy=> ?_,wl,by simpa[m5]using h5,fun id aj=>h6 id (wm id aj),fun y hy id aj=> ?_⟩
   ·cases j with
    |zero=>exact yM
    |succ j=>
     have:=h2 j o' y fG (by simpa using hy)
     exact y6
   ·cases j with
    |zero=>
     simp at hj
     obtain⟨i,i1,i2⟩:=zp hj
     exact⟨i,by simpa using i1, .inl i2⟩
    |succ j=>
     obtain⟨i,i1,i2⟩:=h3 j fG
     simp only[List.length_append,List.length_cons,List.length_nil]at i1 i2
     refine⟨i,by rw[show fp.length+(j+1)=fp.length+(0+1)+j by omega];exact i1, ?_⟩
     rcases i2 with i2|⟨j',j1,j2,j3⟩
     ·rcases zu i i2 with hb|⟨e1,e2⟩
      ·exact .inl hb
      ·exact .inr ⟨0,aN,aN,by simp[e2]⟩
     ·exact .inr ⟨j'+1,aN,aN,by simpa using j3⟩
   ·rcases List.mem_cons.1 hy with rfl|hy
    ·exact Nf
    ·exact h4 y hy
   ·rcases List.mem_cons.1 hy with rfl|hy
    ·exact h6 id (hW id aj)
    ·exact h7 y hy id aj
  simp only[eg]at h
  split at h
  ·rename_i hb
   obtain⟨j,Ng,IZ⟩:=List.any_eq_true.1 hb
   exact step .cM _ _ trivial h (.inl rfl) (fun _=>⟨j,Ng,by simpa using IZ⟩) (fun i hi=>by
    rcases List.mem_append.1 hi with hi|hi
    ·exact .inl hi
    ·exact .inr ⟨by simpa using hi,rfl⟩) (fun _ h=>h) (fun id aj=>by simp[eJ]at aj)
  ·have lF:bS s o.gd true->tg P s fr o (fun v Δ rd=>eg P KB pr l (fr+1) ⟨az s.env o.dst v,put s.o Δ,s.nx⟩ (fp++[(rd,Δ.map (·.1))]) bad (ws++Δ.map (·.1))) (fun _ _ _=>False)->wo P KB pr (o::l) fr s fp bad ws:=fun hg h=>by
    rcases pF h with⟨v,Δ,rd,jq,h⟩|⟨v,xW,rd,_,h⟩
    ·exact step (.val v Δ rd) bad (ws++Δ.map (·.1)) ⟨hg,jq⟩ h (.inr rfl) (fun h=>by cases h) (fun i hi=> .inl hi) (fun id aj=>List.mem_append.2 (.inl aj)) (fun id aj=>List.mem_append.2 (.inr aj))
    ·exact h.elim
   have skip:bS s o.gd false->eg P KB pr l (fr+1) ⟨az s.env o.dst (.a7 []),s.o,s.nx⟩ (fp++[([],[])]) bad ws->wo P KB pr (o::l) fr s fp bad ws:=fun hg h=>
    step .skip bad ws hg h (.inr rfl) (fun h=>by cases h) (fun i hi=> .inl hi) (fun id aj=>aj) (fun id aj=>by simp[eJ]at aj)
   split at h
   ·rename_i hg;exact lF (by rw[hg];rfl) h
   ·rename_i d want hg
    split at h
    ·rename_i c hv
     split at h
     ·rename_i e;exact lF vC h
     ·rename_i e;exact skip vC h
    ·rename_i hv;exact skip (by rw[hg];simp[bS,hv]) h
    ·exact h.elim
def uv(P:Program)(K:S->Fp->Prop)(KP:V->List Nat->Fp->Prop)(pr:List (List Nat))(l:List aP)(fr:Nat)(s:S)(fp:Fp):Prop:=
 ∃aR:List cJ,aR.length=l.length/\(∀j o x,l[j]? =some o->aR[j]? =some x->xT P (gb l aR s j) (fr+j) o x)/\
  (((∀x∈aR,x.ok=true)/\K (gb l aR s l.length) (fp++m5 aR))\/
   ∃v wl,(∀ (j:Nat) (v':V) (ws rd:List Nat),aR[j]? =some (cJ.aJ v' ws rd)->v'=v/\∀id∈ws,id∈wl)/\(∃x∈aR,x.ok=false)/\
    (∀ (j:Nat),aR[j]? =some cJ.cM->∃i∈pr.getD (fp.length+j) [],∃j',i=fp.length+j'/\∃y,aR[j']? =some y/\y.ok=false)/\KP v wl (fp++m5 aR)/\(∀x∈aR,∀id∈eJ x,id∈wl)/\∀id∈fp.flatMap (·.2),id∈wl)
theorem lG{K:S->Fp->Prop}{KP:V->List Nat->Fp->Prop}{pr:List (List Nat)}:∀ (l:List aP) (fr:Nat) (s:S) (fp:Fp),fw P K KP pr l fr s fp->uv P K KP pr l fr s fp
 |[],fr,s,fp,h=>⟨[],rfl,fun j o x hj=>by simp at hj, .inl ⟨fun x hx=>by simp at hx,by simpa[gb,m5,fw]using h⟩⟩
 |o::l,fr,s,fp,h=>by
  have step:∀ (x:cJ),x.ok=true->xT P s fr o x->fw P K KP pr l (fr+1) (l6 o.dst x s) (fp++[(ml x,eJ x)])->uv P K KP pr (o::l) fr s fp:=by
   intro x DI aI hr
   obtain⟨aR,h1,h2,h3⟩:=lG l (fr+1) _ _ hr
   refine⟨x::aR,by simp[h1],fun j o' y hj hy=> ?_, ?_⟩
   ·cases j with
    |zero=>exact yM
    |succ j=>
     have:=h2 j o' y fG (by simpa using hy)
     exact y6
   ·rcases h3 with⟨h3,h4⟩|⟨v,wl,g1,g2,g3,g4,g5,g6⟩
    ·left
     refine⟨fun y hy=> ?_,by simpa[gb,m5]using h4⟩
     rcases List.mem_cons.1 hy with rfl|hy
     ·exact DI
     ·exact h3 y hy
    ·right
     refine⟨v,wl,fun j v' ws rd hj=> ?_, ?_,fun j hj=> ?_,by simpa[m5]using g4,fun y hy id aj=> ?_,fun id aj=>g6 id (by simp only[List.flatMap_append,List.mem_append];exact .inl aj)⟩
     ·cases j with
      |zero=>simp at hj;rw[hj]at DI;cases DI
      |succ j=>exact g1 j v' ws rd fG
     ·obtain⟨y,y1,y2⟩:=g2;exact⟨y,by simp[y1],y2⟩
     ·cases j with
      |zero=>simp at hj;rw[hj]at DI;cases DI
      |succ j=>
       obtain⟨i,i1,j',i2,y,i3,i4⟩:=g3 j fG
       simp only[List.length_append,List.length_cons,List.length_nil]at i1 i2
       exact⟨i,by rw[show fp.length+(j+1)=fp.length+(0+1)+j by omega];exact i1,j'+1,aN,y,by simpa using i3,i4⟩
     ·rcases List.mem_cons.1 hy with rfl|hy
      ·exact g6 id (by simp only[List.flatMap_append,List.mem_append];exact .inr (by simpa using aj))
      ·exact g5 y hy id aj
  have aJ:∀ (v:V) (ws rd:List Nat),xT P s fr o (.aJ v ws rd)->eg P (KP v) pr l (fr+1) ⟨az s.env o.dst .bT,s.o,s.nx⟩ (fp++[(rd,[])]) [fp.length] (ws++fp.flatMap (·.2))->uv P K KP pr (o::l) fr s fp:=by
   intro v ws rd aI hr
   obtain⟨aR,h1,h2,h3,h4,wl,h5,h6,h7⟩:=pG l (fr+1) _ _ _ _ hr
   refine⟨cJ.aJ v ws rd::aR,by simp[h1],fun j o' y hj hy=> ?_, .inr ⟨v,wl,fun j v' xW om hj=> ?_,⟨cJ.aJ v ws rd,aU,rfl⟩,fun j hj=> ?_,by simpa[m5,ml,eJ]using h5,fun y hy id aj=> ?_,fun id aj=>h6 id (List.mem_append.2 (.inr aj))⟩⟩
   ·cases j with
    |zero=>exact yM
    |succ j=>
     have:=h2 j o' y fG (by simpa using hy)
     exact y6
   ·cases j with
    |zero=>simp at hj;obtain⟨rfl,rfl,rfl⟩:=hj;exact⟨rfl,fun id aj=>h6 id (List.mem_append.2 (.inl aj))⟩
    |succ j=>
     have hm:=List.mem_of_getElem? (show aR[j]? =some (.aJ v' xW om) by simpa using hj)
     rcases h4 _ hm with h|h<;>cases h
   ·cases j with
    |zero=>simp at hj
    |succ j=>
     obtain⟨i,i1,i2⟩:=h3 j fG
     simp only[List.length_append,List.length_cons,List.length_nil]at i1 i2
     refine⟨i,by rw[show fp.length+(j+1)=fp.length+(0+1)+j by omega];exact i1, ?_⟩
     rcases i2 with i2|⟨j',j1,j2,j3⟩
     ·exact⟨0,by simpa using i2,_,rfl,rfl⟩
     ·exact⟨j'+1,aN, .cM,by simpa using j3,rfl⟩
   ·rcases List.mem_cons.1 hy with rfl|hy
    ·simp[eJ]at aj
    ·exact h7 y hy id aj
  have lF:bS s o.gd true->tg P s fr o (fun v Δ rd=>fw P K KP pr l (fr+1) ⟨az s.env o.dst v,put s.o Δ,s.nx⟩ (fp++[(rd,Δ.map (·.1))]))
   (fun v ws rd=>eg P (KP v) pr l (fr+1) ⟨az s.env o.dst .bT,s.o,s.nx⟩ (fp++[(rd,[])]) [fp.length] (ws++fp.flatMap (·.2)))->uv P K KP pr (o::l) fr s fp:=fun hg h=>by
   rcases pF h with⟨v,Δ,rd,jq,h⟩|⟨v,ws,rd,jq,h⟩
   ·exact step (.val v Δ rd) rfl ⟨hg,jq⟩ h
   ·exact aJ v ws rd ⟨hg,jq⟩ h
  have skip:bS s o.gd false->fw P K KP pr l (fr+1) ⟨az s.env o.dst (.a7 []),s.o,s.nx⟩ (fp++[([],[])])->uv P K KP pr (o::l) fr s fp:=fun hg h=>step .skip rfl hg h
  simp only[fw]at h
  split at h
  ·rename_i hg;exact lF (by rw[hg];rfl) h
  ·rename_i d want hg
   split at h
   ·rename_i c hv
    split at h
    ·rename_i e;exact lF vC h
    ·rename_i e;exact skip vC h
   ·rename_i hv;exact skip (by rw[hg];simp[bS,hv]) h
   ·exact h.elim
end
end
section
def sU(env:Nat->V):List Nat->List V->Nat->V
 |t::ps,v::vs=>sU (cn env t v) ps vs
 |_,_=>env
def qK(pr:List (List Nat))(m:Nat):Bool:=(List.range pr.length).all fun k=>Nat.blt k m||Nat.beq ((cj pr []).getD k 0) (2^k - 1)
def uw(P:Program)(l:List aP)(pr:List (List Nat))(Q:dM->S->Prop)(s:S):Prop:=
 ∃m,m<=l.length/\qK pr m=true/\fw P (fun s' fp=>e8 pr fp=true/\jH P (fun v s=>Q (.aJ v) s) (Q .normal) (l.drop m) ⟨s'.env,s'.o,s.nx+m⟩) (fun _ _ _=>False) pr (l.take m) s.nx s []
def l7(P:Program)(n b:Nat)(rd:Bool):IC->(dM->S->Prop)->S->Prop
 | .skip,Q,s=>Q .normal s
 | .ab l,Q,s=>jH P (fun v s=>Q (.aJ v) s) (Q .normal) l s
 | .b9 l pr,Q,s=>fw P (qJ pr (s.nx+l.length) Q) (pE pr l s Q) pr l s.nx s []\/uw P l pr Q s
 | .seq x y,Q,s=>l7 P n b rd x (jX (l7 P n b rd y Q) Q) s
 | .cond c x y,Q,s=>match s.ev c with
   | .d (.bool t)=>jf t (l7 P n b rd x Q s) (l7 P n b rd y Q s)
   | .c7=>l7 P n b rd x Q s/\l7 P n b rd y Q s
   |_=>False
 | .block id x,Q,s=>l7 P n b rd x (cV id Q) s
 | .loop x,Q,s=>uj b (l7 P n b rd x) Q s
 | .exit id,Q,s=>Q (.exit id) s
 | .ret,Q,s=>Q .ret s
 | .tq g ps x y,Q,s=>rd=false/\Dx P n b g ps x y Q s
 | .bad,_,_=>False
section
variable {P:Program}{n b:Nat}{rd:Bool}
theorem lH:∀ (l:List aP) (aR:List cJ) (s:S) (k:Nat) (o:aP) (x:cJ),l[k]? =some o->aR[k]? =some x->gb l aR s (k+1)=l6 o.dst x (gb l aR s k)
 |[],_,_,_,_,_,h,_=>by simp at h
 |o::l,[],_,_,_,_,_,h=>by simp at h
 |o::l,x::xs,s,0,o',x',h,h'=>by simp at h h';subst h;subst h';cases l<;>cases xs<;>rfl
 |o::l,x::xs,s,k+1,o',x',h,h'=>by
  simp only[gb]
  exact lH l xs _ k o' x' (by simpa using h) (by simpa using h')
theorem m6(l:List aP)(aR:List cJ)(s:S)(hl:aR.length=l.length):∀k,k<=l.length->ck (aO l) (fun i=>aR.getD i default) (fun _=>true) s k=gb l aR s k:=by
 intro k
 induction k with
 |zero=>intro _;cases l<;>cases aR<;>rfl
 |succ k ih=>
  intro hk
  have h1:l[k]? =some (aO l k):=by simp[aO,List.getD_eq_getElem?_getD,List.getElem?_eq_getElem (by omega:k<l.length)]
  have h2:aR[k]? =some (aR.getD k default):=by simp[List.getD_eq_getElem?_getD,List.getElem?_eq_getElem (by omega:k<aR.length)]
  simp only[ck,if_true,ih (by omega)]
  rw[lH l aR s k _ _ h1 h2]
theorem gf{ops:Array Oper}:∀ (l:List Oper) (l':List aP),eN n ops l=some l'->l'.length=l.length
 |[],_,h=>by simp[eN]at h;subst h;rfl
 |o::l,l',h=>by
  simp only[eN]at h
  split at h
  ·rename_i hx;injection h with h;subst h;simp[gf l _ hx]
  ·cases h
theorem sV(aD:P.follows .mixedOrders=true){id:Nat}{ops:Array Oper}{l:List aP}{Q Q':dM->S->Prop}{s:S}(hQ:∀e s,Q e s->Q' e s)(jI:eN n ops ops.toList=some l)(ht:nn l (c5 ops)=true)
 (hp:y7 (c5 ops)=true) (h:fw P (qJ (c5 ops) (s.nx+l.length) Q) (pE (c5 ops) l s Q) (c5 ops) l s.nx s []):dN P n b rd (.region id ops true) Q' s:=by
 intro M aZ H0 w0 cx φ a w ro k hs
 obtain⟨aR,hl,aI,kE⟩:=lG l _ _ _ h
 have hlen:l.length=ops.size:=by rw[gf _ _ jI];simp
 have kJ:∀k,k<ops.size->(c5 ops).getD k []=aE ops k:=by
  intro k hk;simp[c5,List.getD_eq_getElem?_getD,List.getElem?_map,List.getElem?_range hk]
 have pZ:(c5 ops).length=ops.size:=by simp[c5]
 have jq:=m6 l aR s hl
 have HG:∀k,k<ops.size->l[k]? =some (aO l k):=fun k hk=>by simp[aO,List.getD_eq_getElem?_getD,List.getElem?_eq_getElem (by omega:k<l.length)]
 have l4:∀k,k<ops.size->aR[k]? =some (aR.getD k default):=fun k hk=>by simp[List.getD_eq_getElem?_getD,List.getElem?_eq_getElem (by omega:k<aR.length)]
 have lh:∀k,k<ops.size->aR.getD k default∈aR:=fun k hk=>List.mem_of_getElem? (l4 k hk)
 have vU:∀k,k<ops.size->(m5 aR)[k]? =some (ml (aR.getD k default),eJ (aR.getD k default)):=fun k hk=>by
  simp only[m5,List.getElem?_map,l4 k hk,Option.map_some]
 have zw:(m5 aR).length=ops.size:=by simp[m5,hl,hlen]
 simp only[List.nil_append,List.length_nil,Nat.zero_add]at kE
 have nu:e8 (c5 ops) (m5 aR)=true:=by
  rcases kE with⟨_,h⟩|⟨v,wl,_,_,_,h,_⟩
  ·exact h.1
  ·exact h.1
 have sW:∀k,k<ops.size->∀j∈aE ops k,j<k:=fun k hk j hj=>by
  have:=List.all_eq_true.1 hp k (by simpa[pZ]using hk)
  rw[kJ k hk]at this
  simpa using List.all_eq_true.1 this j hj
 have ux:∀k,k<(c5 ops).length->∀j∈(c5 ops).getD k [],j<k:=fun k hk j hj=>by
  rw[pZ]at hk;rw[kJ k hk]at hj;exact sW k hk j hj
 let po:Nat->Nat->Prop:=fun k j=>((cj (c5 ops) []).getD k 0).testBit j=true
 have rB:∀E:Nat->Bool,(∀k,k<ops.size->E k=true->∀j∈aE ops k,E j=true)->∀k,k<ops.size->(∀j∈aE ops k,E j=true)->∀j,po k j->E j=true:=fun E hE k hk hj j hb=>
  im ux (fun k hk dK j hj=>by rw[pZ]at hk;rw[kJ k hk]at hj;exact hE k hk dK j hj) k (by rw[pZ];exact hk) (by rw[kJ k hk];exact hj) j hb
 have pD:∀k,k<ops.size->∀j,po k j->j<k:=fun k hk j hb=>oC ux k (by rw[pZ];exact hk) j hb
 have nZ:∀i j,i<j->j<ops.size-> ¬po j i->Compat (aO l) (fun i=>aR.getD i default) (fun i=>ml (aR.getD i default)) i j:=by
  intro i j DJ hj hn
  have vy:=List.all_eq_true.1 (List.all_eq_true.1 ht j (by simpa[hlen]using hj)) i (by simpa using DJ)
  have mm:=List.all_eq_true.1 (List.all_eq_true.1 nu j (by simpa[zw]using hj)) i (by simpa using DJ)
  have Jq:((cj (c5 ops) []).getD j 0).testBit i=false:=by simpa[po]using hn
  rw[Jq,Bool.false_or]at vy mm
  simp only[Bool.and_eq_true]at vy mm
  have gi:=vU i aN
  have gj:=vU j hj
  simp only[List.getD_eq_getElem?_getD (l:=m5 aR),gi,gj,Option.getD_some]at mm
  have dj:∀ {xs ys:List Nat},gH xs ys=true->∀x∈xs,x∉ys:=fun h x hx=>by simpa using List.all_eq_true.1 h x hx
  have fo:∀ {x y:aP},jr x y=true->∀d,x.dst=some d->d∉cF y:=fun h d hd=>by simpa[jr,hd]using h
  exact Ck
 have xX:∀i,i<ops.size->xT P (ck (aO l) (fun i=>aR.getD i default) (fun _=>true) s i) (s.nx+i) (aO l i) (aR.getD i default):=fun i hi=>by
  rw[jq i (by omega)];exact aI i _ _ (HG i hi) (l4 i hi)
 have ba:∀i,i<ops.size->∀t,(aO l i).dst=some t->(dstsOf l).contains t=true:=fun i hi t ht=>by
  simp only[List.contains_iff_mem,dstsOf,List.mem_filterMap]
  exact⟨aO l i,List.mem_of_getElem? (HG i hi),ht⟩
 rcases kE with⟨aV,kE⟩|⟨v,wl,q1,q2,q3,q4,q5,q6⟩
 ·refine pC (ac:=fun i=>aR.getD i default) (dl:=dstsOf l) (wl:=(aR.flatMap eJ)) aD jI sW hs xX (fun i hi hb=> ?_) rB pD nZ ba (fun i hi id aj=> ?_) (fun i v ws om hi hb=> ?_) (fun _ φ a w eM=> ?_) (fun i v ws om hi hb=> ?_)
  ·have:=aV _ (lh i hi);rw[hb]at this;cases this
  ·simp only[List.contains_iff_mem,List.mem_flatMap];exact⟨_,lh i hi,aj⟩
  ·have:=aV _ (lh i hi);rw[hb]at this;cases this
  ·rw[jq ops.size (by omega), <- hlen]at eM
   exact⟨.normal,_,φ,hQ _ _ kE.2,eM,trivial⟩
  ·have:=aV _ (lh i hi);rw[hb]at this;cases this
 ·refine pC (ac:=fun i=>aR.getD i default) (dl:=dstsOf l) (wl:=wl) aD jI sW hs xX (fun i hi hb=> ?_) rB pD nZ ba (fun i hi id aj=> ?_) (fun i v' ws om hi hb=> ?_) (fun aV φ a w eM=> ?_) (fun i v' ws om hi hb φ a w val eM hd=> ?_)
  ·obtain⟨j,j1,j',e,y,j3,j4⟩:=q3 i yR
   rw[kJ i hi,e]at j1
   refine⟨j',j1, ?_⟩
   simp only[List.getD_eq_getElem?_getD,j3,Option.getD_some,j4]
  ·simp only[List.contains_iff_mem];exact q5 _ (lh i hi) id aj
  ·intro id aj
   simp only[List.contains_iff_mem]
   exact(q1 i v' ws om yR).2 id aj
  ·obtain⟨x,x1,x2⟩:=q2
   obtain⟨i,vO,Dc⟩:=List.getElem_of_mem x1
   have hi:i<ops.size:=aN
   have:=aV i hi
   have e:aR.getD i default=x:=by simp[List.getD_eq_getElem?_getD,List.getElem?_eq_getElem vO,Dc]
   rw[e,x2]at this;cases this
  ·have e:=(q1 i v' ws om yR).1
   subst e
   rw[<- hlen]at eM hd
   exact⟨.aJ v',_,φ,hQ _ _ q4.2,eM,val,rfl,hd⟩
theorem m7{ops:Array Oper}:∀ (l:List Oper) (l':List aP) (m:Nat),eN n ops l=some l'->eN n ops (l.drop m)=some (l'.drop m)
 |l,l',0,h=>h
 |[],l',m+1,h=>by simp[eN]at h;subst h;simp[eN]
 |o::l,l',m+1,h=>by
  simp only[eN]at h
  split at h
  ·rename_i x xs hx xy
   injection h with h;subst h
   exact m7 l xs m xy
  ·cases h
theorem uy{l:List aP}{ac:Nat->cJ}{E:Nat->Bool}{s:S}{m:Nat}:∀k,k<=m->ck (aO l) ac E s k=ck (aO (l.take m)) ac E s k:=by
 intro k
 induction k with
 |zero=>intro _;rfl
 |succ k ih=>
  intro hk
  have:aO l k=aO (l.take m) k:=by simp[aO,List.getD_eq_getElem?_getD,List.getElem?_take,(by omega:k<m)]
  simp only[ck,ih (by omega),this]
theorem qL(aD:P.follows .mixedOrders=true){id:Nat}{ops:Array Oper}{l:List aP}{Q Q':dM->S->Prop}{s:S}(hQ:∀e s,Q e s->Q' e s)(jI:eN n ops ops.toList=some l)(ht:nn l (c5 ops)=true)
 (hp:y7 (c5 ops)=true) (h:uw P l (c5 ops) Q s):dN P n b rd (.region id ops true) Q' s:=by
 intro M aZ H0 w0 cx φ a w ro k hs
 obtain⟨m,vW,Nh,h⟩:=h
 obtain⟨aR,hl,aI,kE⟩:=lG (l.take m) _ _ _ h
 have Ni:(l.take m).length=m:=by rw[List.length_take];omega
 have hlen:l.length=ops.size:=by rw[gf _ _ jI];simp
 have kE:=kE.resolve_right (fun⟨_,_,_,_,_,q4,_,_⟩=>q4)
 obtain⟨aV,kE⟩:=kE
 have ze:aR.length=m:=aN
 have kJ:∀k,k<ops.size->(c5 ops).getD k []=aE ops k:=by
  intro k hk;simp[c5,List.getD_eq_getElem?_getD,List.getElem?_map,List.getElem?_range hk]
 have pZ:(c5 ops).length=ops.size:=by simp[c5]
 have jq:∀k,k<=m->ck (aO l) (fun i=>aR.getD i default) (fun _=>true) s k=gb (l.take m) aR s k:=fun k hk=>by
  rw[uy k hk];exact m6 (l.take m) aR s hl k aN
 have HG:∀k,k<m->(l.take m)[k]? =some (aO l k):=fun k hk=>by
  rw[List.getElem?_take,if_pos hk]
  simp[aO,List.getD_eq_getElem?_getD,List.getElem?_eq_getElem (by omega:k<l.length)]
 have l4:∀k,k<m->aR[k]? =some (aR.getD k default):=fun k hk=>by simp[List.getD_eq_getElem?_getD,List.getElem?_eq_getElem (by omega:k<aR.length)]
 have lh:∀k,k<m->aR.getD k default∈aR:=fun k hk=>List.mem_of_getElem? (l4 k hk)
 have vU:∀k,k<m->(m5 aR)[k]? =some (ml (aR.getD k default),eJ (aR.getD k default)):=fun k hk=>by
  simp only[m5,List.getElem?_map,l4 k hk,Option.map_some]
 have zw:(m5 aR).length=m:=by simp[m5,ze]
 simp only[List.nil_append]at kE
 obtain⟨nu,wu⟩:=kE
 have sW:∀k,k<ops.size->∀j∈aE ops k,j<k:=fun k hk j hj=>by
  have:=List.all_eq_true.1 hp k (by simpa[pZ]using hk)
  rw[kJ k hk]at this
  simpa using List.all_eq_true.1 this j hj
 have ux:∀k,k<(c5 ops).length->∀j∈(c5 ops).getD k [],j<k:=fun k hk j hj=>by
  rw[pZ]at hk;rw[kJ k hk]at hj;exact sW k hk j hj
 let po:Nat->Nat->Prop:=fun k j=>((cj (c5 ops) []).getD k 0).testBit j=true
 have rB:∀E:Nat->Bool,(∀k,k<ops.size->E k=true->∀j∈aE ops k,E j=true)->∀k,k<ops.size->(∀j∈aE ops k,E j=true)->∀j,po k j->E j=true:=fun E hE k hk hj j hb=>
  im ux (fun k hk dK j hj=>by rw[pZ]at hk;rw[kJ k hk]at hj;exact hE k hk dK j hj) k (by rw[pZ];exact hk) (by rw[kJ k hk];exact hj) j hb
 have pD:∀k,k<ops.size->∀j,po k j->j<k:=fun k hk j hb=>oC ux k (by rw[pZ];exact hk) j hb
 have nZ:∀i j,i<j->j<m-> ¬po j i->Compat (aO l) (fun i=>aR.getD i default) (fun i=>ml (aR.getD i default)) i j:=by
  intro i j DJ hj hn
  have vy:=List.all_eq_true.1 (List.all_eq_true.1 ht j sa) i (by simpa using DJ)
  have mm:=List.all_eq_true.1 (List.all_eq_true.1 nu j (by simpa[zw]using hj)) i (by simpa using DJ)
  have Jq:((cj (c5 ops) []).getD j 0).testBit i=false:=by simpa[po]using hn
  rw[Jq,Bool.false_or]at vy mm
  simp only[Bool.and_eq_true]at vy mm
  have gi:=vU i aN
  have gj:=vU j hj
  simp only[List.getD_eq_getElem?_getD (l:=m5 aR),gi,gj,Option.getD_some]at mm
  have dj:∀ {xs ys:List Nat},gH xs ys=true->∀x∈xs,x∉ys:=fun h x hx=>by simpa using List.all_eq_true.1 h x hx
  have fo:∀ {x y:aP},jr x y=true->∀d,x.dst=some d->d∉cF y:=fun h d hd=>by simpa[jr,hd]using h
  exact Ck
 have Nj:∀k,m<=k->k<ops.size->∀j,j<k->po k j:=fun k NJ hk j hj=>by
  have:=List.all_eq_true.1 Nh k (by simpa[pZ]using hk)
  simp only[Bool.or_eq_true]at this
  rcases this with this|this
  ·exact absurd (Nat.blt_eq.mp this) aN
  ·show((cj (c5 ops) []).getD k 0).testBit j=true
   rw[Nat.eq_of_beq_eq_true this,Nat.testBit_two_pow_sub_one]
   exact decide_eq_true hj
 refine qI (ac:=fun i=>aR.getD i default) (m:=m) (X:=fun v s=>Q' (.aJ v) s) (K:=Q' .normal) aD jI sW aN hs (fun i hi=> ?_) (fun i hi=>aV _ (lh i hi)) rB pD nZ Nj ?_ (fun s φ a w hk eM=>⟨.normal,s,φ,hk,eM,trivial⟩) (fun v s' ao a' w' val hx eM hd=>⟨.aJ v,s',ao,hx,eM,val,rfl,hd⟩)
 ·rw[jq i (by omega)];exact aI i _ _ (HG i hi) (l4 i hi)
 ·rw[jq m (Nat.le_refl _)]
  rw[Ni]at wu
  exact dT (fun s hs=>hQ _ _ hs) (fun v s hs=>hQ _ _ hs) _ _ _ (m7 _ _ m jI) wu
theorem sX{g:V}{ps:List Nat}{x y:IC}{Q Q':dM->S->Prop}{s:S}(hQ:∀e s,Q e s->Q' e s)(h:qq P n g ps x y Q s):qq P n g ps x y Q' s:=by
 obtain⟨env,h1,h2⟩:=h
 refine⟨env,h1, ?_⟩
 split at h2
 ·refine jL.mono (fun v o n h=> ?_) (fun v o n h=>hQ _ _ h) h2
  obtain⟨nf,m,e,p,c,d,st,pd,k1,k2,k3⟩:=h
  refine⟨nf,m,e,p,c,d,st,pd,k1,k2, ?_⟩
  cases pd with
  |none=>exact hQ _ _ k3
  |some j=>cases j<;>exact hQ _ _ k3
 ·exact h2
theorem dz(aD:P.follows .mixedOrders=true):∀ (c:Code) (Q Q':dM->S->Prop) (s:S),(∀e s,Q e s->Q' e s)->l7 P n b rd (low n c) Q s->dN P n b rd c Q' s:=by
 intro c
 induction c with
 |skip=>exact fun Q Q' s hQ h=>hQ _ _ h
 |scope x ih=>exact fun Q Q' s hQ h=>ih Q Q' s hQ h
 |label l=>exact fun Q Q' s hQ h=>hQ _ _ h
 |exit id=>exact fun Q Q' s hQ h=>hQ _ _ h
 |ret=>exact fun Q Q' s hQ h=>hQ _ _ h
 |goto l=>exact fun Q Q' s hQ h=>h.elim
 |refuse y=>exact fun Q Q' s hQ h=>h.elim
 |rangeFunc f p x y=>
  intro Q Q' s hQ h
  obtain⟨h1,s',hle,h2⟩:=h
  exact⟨h1,s',hle,sX hQ h2⟩
 |region id ops draw=>
  intro Q Q' s hQ h
  cases draw with
  |true=>
   simp only[low]at h
   split at h
   ·rename_i l hl
    split at h
    ·rename_i hc
     simp only[Bool.and_eq_true]at hc
     rcases h with h|h
     ·exact sV aD hQ hl hc.1 hc.2 h
     ·exact qL aD hQ hl hc.1 hc.2 h
    ·exact h.elim
   ·exact h.elim
  |false=>
   simp only[low]at h
   split at h
   ·rename_i l hl;exact dT (fun s hs=>hQ _ _ hs) (fun v s hs=>hQ _ _ hs) _ l s hl h
   ·exact h.elim
 |seq x y we wg=>
  intro Q Q' s hQ h
  refine we _ _ s (fun e s he=> ?_) h
  cases e<;>first|exact wg Q Q' s hQ he|exact hQ _ _ he
 |cond c x y we wg=>
  intro Q Q' s hQ h
  simp only[low,l7]at h
  simp only[dN]
  split at h
  ·rename_i t hc
   simp only[hc]
   exact⟨fun ht=>we Q Q' s hQ (h.1 ht),fun ht=>wg Q Q' s hQ (h.2 ht)⟩
  ·rename_i hc
   simp only[hc]
   exact⟨we Q Q' s hQ h.1,wg Q Q' s hQ h.2⟩
  ·exact h.elim
 |block id x ih=>
  intro Q Q' s hQ h
  refine ih _ _ s (fun e s he=> ?_) h
  cases e<;>simp only[cV]at he|- <;>first
   |exact hQ _ _ he
   |(split at he<;>rename_i e
     ·rw[if_pos e];exact hQ _ _ he
     ·rw[if_neg e];exact hQ _ _ he)
 |loop x ih=>
  intro Q Q' s hQ h
  obtain⟨J,h0,hr⟩:=h
  refine⟨J,h0,fun m s0 hJ=>ih _ _ s0 (fun e s he=> ?_) (hr m s0 hJ)⟩
  cases e<;>first|exact hQ _ _ he|exact he
structure ay (P:Program) (f:FuncId) (n:Nat) (ic:IC) (rs:List ResultVar):Prop where
 get:∃fn,P.funcs[f]? =some fn/\(fn.name== "runtime.NumGoroutine")=false/\fn.ntmps=n/\fn.results.toList=rs/\∃c,fn.body=some c/\low n c=ic
theorem gI.rD (aD:P.follows .mixedOrders=true){f:FuncId}{ic:IC}{rs:List ResultVar}(hf:ay P f n ic rs){args:List V}{o:Nat->aa}{nx:Nat}{K X:V->(Nat->aa)->Nat->Prop}(hl:args.length<=n)(h:l7 P n nx false ic (fq P rs K X) ⟨br args,o,nx⟩):gI P f args o nx K X:=by
 obtain⟨fn,h1,h2,rfl,rfl,c,h3,rfl⟩:=hf.get
 exact gI.ru h1 h2 h3 hl (dz aD c _ _ _ (fun _ _ h=>h) h)
theorem bt.rD (aD:P.follows .mixedOrders=true){f:FuncId}{ic:IC}{rs:List ResultVar}(hf:ay P f n ic rs){ds:List D}{out:R}(hl:ds.length<=n)(h:l7 P n 0 false ic (sF P rs out) ⟨br (ds.map .d),fun _=> .no,0⟩):bt P f ds out:=by
 obtain⟨fn,h1,h2,rfl,rfl,c,h3,rfl⟩:=hf.get
 exact bt.ig (gI.ru h1 h2 h3 (by simpa using hl) (dz aD c _ _ _ (fun e s h=>sL e s h) h))
end
end
section
def uz(id:Nat)(K X:V->(Nat->aa)->Nat->Prop)(e:dM)(s:S):Prop:=
 match e with
 | .normal=>∃nf m en p c d st pd,s.o id= .loop nf m en p c d st pd/\K (.d (.bool true)) (cn s.o id (.loop nf m en p c d .ready none)) s.nx
 | .ret=>∃nf m en p c d st pd,s.o id= .loop nf m en p c d st pd/\K (.d (.bool false)) (cn s.o id (.loop nf m en p c d .done (some .ret))) s.nx
 | .exit j=>∃nf m en p c d st pd,s.o id= .loop nf m en p c d st pd/\K (.d (.bool false)) (cn s.o id (.loop nf m en p c d .done (some (.exit j)))) s.nx
 | .aJ v=>X v s.o s.nx
def zx(P:Program)(n b id:Nat)(eY:IC)(K X:V->(Nat->aa)->Nat->Prop)(e:dM)(s:S):Prop:=
 match e with
 | .normal=>∃nf m en p c d pd,s.o id= .loop nf m en p c d .ready pd/\l7 P n b true eY (uz id K X) ⟨s.env,cn s.o id (.loop nf m en p c d .busy pd),s.nx⟩
 | .aJ v=>X v s.o s.nx
 |_=>False
section
variable {P:Program}{M:Nat->Prop}{φ aZ:Place}{H0:Hp}{w w0:World}{n:Nat}{s:S}{a:Act}{cx:Cx}
theorem pH{id:Nat}{x:aa}{s:S}(cm:id<s.nx)(j:Nat)(hu:(s.H.put [(id,x)]).us j):j<s.nx:=by
 simp only[bW]at hu
 rcases hu with hu|hu
 ·exact hu
 ·subst hu;exact cm
theorem lI{B:Nat->Prop}{H:Hp}{n:Nat}:∀ (ps:List Nat) (vs:List V) (us:List Value) (env:Nat->V) (tmps:Array Value),tmps.size=n->ps.length=vs.length->V.ai B φ H w vs us->ps.all (fun t=>decide (t<n))=true->(∀i,V.den B φ H w (env i) (tmps.getD i undef))->
 ((ps.zip us).foldl (fun tmps p=>tmps.setIfInBounds p.1 p.2) tmps).size=n/\∀i,V.den B φ H w (sU env ps vs i) (((ps.zip us).foldl (fun tmps p=>tmps.setIfInBounds p.1 p.2) tmps).getD i undef)
 |[],[],us,env,tmps,cg,_,hd,_,he=>by simp only[V.ai]at hd;subst hd;exact⟨cg,he⟩
 |[],v::vs,us,env,tmps,_,h,_,_,_=>by simp at h
 |t::ps,[],us,env,tmps,_,h,_,_,_=>by simp at h
 |t::ps,v::vs,us,env,tmps,cg,hl,hd,hp,he=>by
  obtain⟨u,us,rfl,h1,h2⟩:=hd
  simp only[List.all_cons,Bool.and_eq_true,decide_eq_true_eq]at hp
  simp only[List.zip_cons_cons,List.foldl_cons,sU]
  refine lI ps vs us (cn env t v) (tmps.setIfInBounds t u) (by simp[cg]) (by simpa using hl) h2 hp.2 (fun i=> ?_)
  simp only[aq]
  by_cases hi:i=t
  ·subst hi
   have:(tmps.setIfInBounds i u).getD i undef=u:=by simp[Array.getD,cg,hp.1]
   rw[if_pos rfl,this];exact h1
  ·have:(tmps.setIfInBounds t u).getD i undef=tmps.getD i undef:=by
    exact yY
   rw[if_neg hi,this];exact he i
theorem ee.rD (aD:P.follows .mixedOrders=true){id:Nat}{args:List V}{o:Nat->aa}{nx:Nat}{K X:V->(Nat->aa)->Nat->Prop}{env:List V}{ps:List Nat}{gU eY:IC}{st:LoopState}{pd:Option kf}
 (ho:o id= .loop P.funcs.size n env ps gU eY st pd) (cm:id<nx) (Jr:ps.all (fun t=>decide (t<n))=true) (hl:args.length=ps.length)
 (h:l7 P n nx true gU (zx P n nx id eY K X) ⟨sU (gS env) ps args,o,nx⟩):ee P id args o nx K X:=by
 refine⟨by rw[ho];rfl,fun M φ w vals b hH hd cL=> ?_⟩
 have aI:=hH.ok id
 simp only[au,hp,ho]at aI
 obtain⟨b',r,h1,h2,h0,h3,h4,h5,h6,h7,h8,h9⟩:=aI
 rw[cL]at h1;simp at h1;subst h1
 have hlen:=V.ah _ _ hd
 have cg:vals.size=r.params.size:=by
  have:r.params.toList.length=ps.length:=by rw[h5]
  simp at hlen this;omega
 let tm:Array Value:=(ps.zip vals.toList).foldl (fun tmps p=>tmps.setIfInBounds p.1 p.2) r.tmps
 have DK:(r.params.zip vals).foldl (fun tmps (p:Tmp×Value)=>tmps.setIfInBounds p.1 p.2) r.tmps=tm:=by
  rw[<- Array.foldl_toList,Array.toList_zip,h5]
 obtain⟨p1,p2⟩:=lI (B:=ae M φ (hp o nx)) (H:=hp o nx) (φ:=φ) (w:=w) ps args vals.toList (gS env) r.tmps h6 hl.symm hd Jr h9
 refine⟨r.fn,tm,r.assign,r.body, ?_,fun k=> ?_⟩
 ·simp only[Instr.yield,Sem.run_bind,eE h2,Result.andThen_ok,cg,ne_eq,not_true_eq_false,if_false,Sem.run_pure]
  rw[<- DK]
 ·
   let s0:S:=⟨sU (gS env) ps args,o,nx⟩
   let a0:Act:={tmps:=tm,defers:=[]}
   have wh:aQ M φ (hp o nx) w n ⟨[],true⟩ φ s0 a0 w:=⟨hH,Trans.refl _ _ _,p1,⟨[],rfl,List.nodup_nil,fun _=>rfl,fun r hr=>by cases hr⟩,p2⟩
   have lJ:∀ {ao s' a' w'},aQ M φ (hp o nx) w n ⟨[],true⟩ ao s' a' w'->a'.defers=[]:=by
    intro ao s' a' w' hs
    obtain⟨ms,g1,_,g3,_⟩:=hs.defers
    rw[g3 rfl]at g1;exact g1
   have DL:∀ {ao s' a' w'} {nf m:Nat} {en:List V} {p:List Nat} {c d:IC} {st:LoopState} {pd:Option kf} (st':LoopState) (pd':Option kf),aQ M φ (hp o nx) w n ⟨[],true⟩ ao s' a' w'->s'.o id= .loop nf m en p c d st pd->
    ∃r',w'.heap[b]? =some (.loop r')/\r'.state=st/\r'.pending=pd.map kf.code/\
     aQ M φ (hp o nx) w n ⟨[],true⟩ ao ⟨s'.env,cn s'.o id (.loop nf m en p c d st' pd'),s'.nx⟩ a' {w' with heap:=w'.heap.setIfInBounds b (.loop {r' with state:=st',pending:=pd'.map kf.code})}:=by
    intro ao s' a' w' nf m en p c d st pd st' pd' hs kK
    have zk:ao id= .pointer (some ⟨b,0,none⟩):=by
     have:=(hs.tr.rel.row id cm (by show(s'.o id).aY=true;rw[kK];rfl)).2
     rw[this];exact cL
    have DM:id<s'.nx:=hs.tr.rel.us id cm
    obtain⟨r',r1,r2,r3,r4,r5⟩:=mQ (st':=st') (pd':=pd') hs.heap DM (show s'.H.o id=_ from kK) zk
    exact⟨r',r1,r2,r3,ct hs r4 r5 rfl (pH DM)⟩
   have ha:=dz (P:=P) (n:=n) (b:=nx) (rd:=true) aD r.assign _ _ s0 (fun _ _ h=>h) (by rw[h7];exact h)
   refine lu h0 (dc (dt (P:=P) (H0:=hp o nx) (b:=nx) (cx:=⟨[],true⟩) (ro:=some b) (fun id hu=>hu) (fun h=>by cases h) r.assign _ s0 φ a0 w ha wh) ?_)
   rintro e a1 w1 ⟨x,s1,dH,hq,mS,hm⟩
   cases e<;>cases x<;>first|(exact hm.elim)|skip
   ·
     obtain⟨nf,m,en,p,c,d,Js,q1,q2⟩:=hq
     obtain⟨r',r1,r2,r3,vu⟩:=DL .busy Js mS q1
     have zy:(Instr.beginRound b).run P w1= .ok () {w1 with heap:=w1.heap.setIfInBounds b (.loop {r' with state:= .busy,pending:=Js.map kf.code})}:=by
      have e1:({r' with state:= .busy}:Loop)={r' with state:= .busy,pending:=Js.map kf.code}:=by rw[<- r3]
      simp only[Instr.beginRound,Sem.run_bind,eE r1,Result.andThen_ok,dJ _ r1,r2,Sem.run_pure,e1]
     refine⟨_,zy, ?_⟩
     have aF:=vu.heap.ok id
     simp only[au,S.H,aq,if_true]at aF
     obtain⟨b2,NK,_,_,_,_,_,_,_,_,_,_⟩:=aF
     have hb:=dz (P:=P) (n:=n) (b:=nx) (rd:=true) aD r.body _ _ _ (fun _ _ h=>h) (by rw[h8];exact q2)
     refine dc (dt (P:=P) (H0:=hp o nx) (b:=nx) (cx:=⟨[],true⟩) (ro:=some b) (fun id hu=>hu) (fun h=>by cases h) r.body _ _ dH a1 _ hb vu) ?_
     rintro e a2 w2 ⟨x,s2,sI,Bg,rr,HB⟩
     have fin:∀ {nf m:Nat} {en:List V} {p:List Nat} {c d:IC} {st:LoopState} {pd:Option kf} (jump:Option kf) (t:Bool) (st':LoopState),t=jump.isNone->st'=(if jump.isNone then .ready else .done)->s2.o id= .loop nf m en p c d st pd->K (.d (.bool t)) (cn s2.o id (.loop nf m en p c d st' jump)) s2.nx->
      ∃v w',(Instr.endRound b (jump.map kf.code)).run P w2= .ok v w'/\fQ M φ (hp o nx) w K X (.returned v) w':=by
      intro nf m en p c d st pd jump t st' ht jq Nk hK
      obtain⟨NL,g1,g2,g3,Bh⟩:=DL st' jump rr Nk
      refine⟨.bool t,_, ?_,sI,_,_,_,Bh.heap,Bh.tr,by simp only[V.den,D.den],hK⟩
      subst ht;subst jq
      simp only[Instr.endRound,Sem.run_bind,eE g1,Result.andThen_ok,dJ _ g1,Sem.run_pure,Option.isNone_map]
     cases e<;>cases x<;>first|(exact HB.elim)|skip
     ·obtain⟨nf,m,en,p,c,d,st,pd,k1,k2⟩:=Bg
      exact fin none true .ready rfl rfl k1 k2
     ·rename_i j
      subst HB
      obtain⟨nf,m,en,p,c,d,st,pd,k1,k2⟩:=Bg
      exact fin (some (.exit _)) false .done rfl rfl k1 k2
     ·obtain⟨nf,m,en,p,c,d,st,pd,k1,k2⟩:=Bg
      exact fin (some .ret) false .done rfl rfl k1 k2
     ·obtain⟨val,rfl,k2⟩:=HB
      exact⟨lJ rr,sI,_,_,_,rr.heap,rr.tr,val,rfl,k2,Bg⟩
   ·exact hq.elim
   ·exact hq.elim
   ·obtain⟨val,rfl,k2⟩:=hm
    exact⟨lJ mS,dH,_,_,_,mS.heap,mS.tr,val,rfl,k2,hq⟩
end
end
section
def zA(ops:Array Oper)(t t1:Nat):Prop:=
 (∃o1 o2,ops=#[o1,o2]/\o1.op= .call ⟨.builtin .recover,#[],#[]⟩/\o1.dst=some t/\o1.guard=none/\o2.op= .assign (.tmp t)/\o2.dst=some t1/\o2.guard=none)\/
 (∃o1,ops=#[o1]/\t1=t/\o1.op= .call ⟨.builtin .recover,#[],#[]⟩/\o1.dst=some t/\o1.guard=none)
structure rE (P:Program) (g:FuncId) (n t t1:Nat) (ic:IC):Prop where
 get:∃fn id ops c,P.funcs[g]? =some fn/\(fn.name== "runtime.NumGoroutine")=false/\fn.ntmps=n/\fn.results=#[]/\fn.body=some (.seq (.region id ops false) c)/\
  zA ops t t1/\t<n/\t1<n/\low n c=ic
structure uA (P:Program) (f:FuncId) (n:Nat) (gU eY:IC) (g:FuncId) (t:Nat) (gJ:List Operand) (rs:List ResultVar):Prop where
 get:∃fn id o1 o2 a b d,P.funcs[f]? =some fn/\(fn.name== "runtime.NumGoroutine")=false/\fn.ntmps=n/\fn.results.toList=rs/\fn.body=some (.seq a d)/\(d= .seq (.region id #[o1,o2] false) b\/d= .scope (.seq (.region id #[o1,o2] false) b))/\
  o1.op= .makeFunc (.func g) #[] gJ.toArray/\o1.dst=some t/\o1.guard=none/\o2.op= .defer ⟨.value (.tmp t),#[],#[]⟩/\o2.dst=none/\o2.guard=none/\t<n/\low n a=gU/\low n b=eY
def Jt(K:(Nat->aa)->Nat->Prop)(e:dM)(s:S):Prop:=match e with| .normal| .ret=>K s.o s.nx|_=>False
def sY(P:Program)(n t t1:Nat)(ic:IC)(gJ:List V)(u:V)(o:Nat->aa)(nx:Nat)(K:(Nat->aa)->Nat->Prop):Prop:=
 gJ.length<=n/\l7 P n nx true ic (Jt K) ⟨cn (cn (br gJ) t u) t1 u,o,nx⟩
def qM(P:Program)(n t t1:Nat)(ic:IC)(gJ:List V)(rs:List ResultVar)(K X:V->(Nat->aa)->Nat->Prop)(e:dM)(s:S):Prop:=
 match e with
 | .normal| .ret=>sY P n t t1 ic gJ (.d .dk) s.o s.nx fun o nx=>fq P rs K X .ret ⟨s.env,o,nx⟩
 | .aJ v=>sY P n t t1 ic gJ v s.o s.nx fun o nx=>fq P rs K X .ret ⟨s.env,o,nx⟩
 | .exit _=>False
def uB(P:Program)(n t:Nat)(eY:IC)(dP:List Operand)(g:FuncId)(D:List V->dM->S->Prop)(e:dM)(s:S):Prop:=
 match e with
 | .normal=>l7 P n s.nx false eY (D (dP.map s.ev)) ⟨cn s.env t (.func (.func g) [] (dP.map s.ev)),s.o,s.nx⟩
 |_=>False
section
variable {P:Program}{M:Nat->Prop}{φ aZ:Place}{H H0:Hp}{w w0:World}{n:Nat}{s:S}{a:Act}{cx:Cx}{k:Nat}
theorem sZ(aD:P.follows .mixedOrders=true){g:FuncId}{t t1:Nat}{ic:IC}(hg:rE P g n t t1 ic){gJ:List V}{u:V}{o:Nat->aa}{nx:Nat}{K:(Nat->aa)->Nat->Prop}(h:sY P n t t1 ic gJ u o nx K)
 {vals:Array Value} {val:Value} {m:FrameMode} (hH:ag M φ (hp o nx) w) (hd:V.ai (ae M φ (hp o nx)) φ (hp o nx) w gJ vals.toList) (hv:V.den (ae M φ (hp o nx)) φ (hp o nx) w u val)
 (hm:(m= .returning/\val= .nilIface)\/m= .panicking [{v:=val,recovered:=false}]):
 CallsDIn (bQ none) k P g vals m w fun e u' w'=>∃v ao o' nx',e= .returned v/\settle u'= .returning/\ag M ao (hp o' nx') w'/\Trans φ (hp o nx) w ao (hp o' nx') w'/\K o' nx':=by
 obtain⟨fn,id,ops,c,hf,xY,Nl,pa,iZ,tn,ht,p4,jI⟩:=hg.get
 have cm:g<P.funcs.size:=(Array.getElem?_eq_some_iff.1 hf).1
 obtain⟨ku,h⟩:=h
 have hlen:=V.ah _ _ hd
 refine⟨trivial,fun ik cs uC xz=> ?_⟩
 let b:Frame:={(default:Frame)with fn:=g,kind:= .deferred,roundOf:=none}
 let kO:Array Value:=vals++Array.replicate (fn.ntmps - vals.size) undef
 have Ju:kO.size=n:=by simp only[kO,Array.size_append,Array.size_replicate];simp at hlen;omega
 have fm:Frame.enter P g vals .deferred=b.atR {tmps:=kO,defers:=[]} [.code (.seq (.region id ops false) c)]:=by
  simp[Frame.enter,Frame.atR,hf,iZ,b,kO]
 obtain⟨m',Lo,aF⟩:∃m',settle m'= .returning/\((recoverD (ik::cs)=none/\m'=m/\val= .nilIface)\/recoverD (ik::cs)=some (val,{ik with mode:=m'}::cs)):=by
  rcases hm with⟨rfl,rfl⟩|rfl
  ·exact⟨.returning,rfl, .inl ⟨by simp[recoverD,uC],rfl,rfl⟩⟩
  ·exact⟨.panicking [{v:=val,recovered:=true}],rfl, .inr (by simp[recoverD,uC])⟩
 have Hz:({ik with mode:=m}:Frame)=ik:=by subst uC;rfl
 let a1:Act:={tmps:=(kO.setIfInBounds t val).setIfInBounds t1 val,defers:=[]}
 have wu:(Code.region id ops false).wpSIn (bQ none) k P (fun e a' cs' w'=>e= .normal/\a'=a1/\cs'={ik with mode:=m'}::cs/\w'=w) {tmps:=kO,defers:=[]} (ik::cs) w:=by
  rcases tn with⟨o1,o2,rfl,e1,e2,e3,e4,e5,e6⟩|⟨o1,rfl,rfl,e1,e2,e3⟩
  ·refine wpSIn_region ?_
   have hr:List.range (#[o1,o2]:Array Oper).size=[0,1]:=rfl
   have g0:(#[o1,o2]:Array Oper)[0]? =some o1:=rfl
   have g1:(#[o1,o2]:Array Oper)[1]? =some o2:=rfl
   rw[hr]
   have x1:∀ (ρ:Operand->Value) (w:World),(execOp ρ o1).run P w= .ok .recover w:=by
    intro ρ w
    simp[execOp,e1,resolve,invoke,builtin]
   have x2:∀ (ρ:Operand->Value) (w:World),(execOp ρ o2).run P w= .ok (.value (ρ (.tmp t))) w:=by
    intro ρ w
    simp[execOp,e4]
   have last:∀cs',cs'={ik with mode:=m'}::cs->wpOpsSIn (bQ none) k P #[o1,o2] (fun e a' cs' w'=>e= .normal/\a'=a1/\cs'={ik with mode:=m'}::cs/\w'=w) [1] (({tmps:=kO,defers:=[]}:Act).put (some t) val) cs' w:=by
    rintro cs' rfl
    have hw:Region.wanted o2 (yielded #[o1,o2] (({tmps:=kO,defers:=[]}:Act).put (some t) val).tmps)=true:=by simp[Region.wanted,e6]
    have bC:(({tmps:=kO,defers:=[]}:Act).put (some t) val).eval (.tmp t)=val:=by
     have:t<kO.size:=aN
     simp[Act.put,Act.eval,Array.getD,this]
    simp only[wpOpsSIn,g1,hw,if_true,x2,bC,e5]
    refine⟨fun _ _=>trivial, ?_⟩
    simp[a1,Act.put]
   have hw:Region.wanted o1 (yielded #[o1,o2] kO)=true:=by simp[Region.wanted,e3]
   rw[wpOpsSIn,g0]
   refine⟨fun _ _=>trivial, ?_⟩
   simp only[hw,if_true,x1,e2]
   rcases aF with⟨hr,rfl,rfl⟩|hr
   ·simp only[hr]
    exact last _ (by rw[Hz])
   ·simp only[hr]
    exact last _ rfl
  ·refine wpSIn_region ?_
   have hr:List.range (#[o1]:Array Oper).size=[0]:=rfl
   have g0:(#[o1]:Array Oper)[0]? =some o1:=rfl
   rw[hr]
   have x1:∀ (ρ:Operand->Value) (w:World),(execOp ρ o1).run P w= .ok .recover w:=by
    intro ρ w
    simp[execOp,e1,resolve,invoke,builtin]
   have same:a1=({tmps:=kO,defers:=[]}:Act).put (some t1) val:=by
    simp only[a1,Act.put]
    congr 1
    apply Array.ext_getElem?
    intro j
    simp only[Array.getElem?_setIfInBounds]
    by_cases hj:t1=j
    ·subst hj;simp
    ·simp[hj]
   have last:∀cs',cs'={ik with mode:=m'}::cs->wpOpsSIn (bQ none) k P #[o1] (fun e a' cs' w'=>e= .normal/\a'=a1/\cs'={ik with mode:=m'}::cs/\w'=w) [] (({tmps:=kO,defers:=[]}:Act).put (some t1) val) cs' w:=by
    rintro cs' rfl
    simp only[wpOpsSIn]
    exact⟨trivial,same.symm,trivial,trivial⟩
   have hw:Region.wanted o1 (yielded #[o1] kO)=true:=by simp[Region.wanted,e3]
   rw[wpOpsSIn,g0]
   refine⟨fun _ _=>trivial, ?_⟩
   simp only[hw,if_true,x1,e2]
   rcases aF with⟨hr,rfl,rfl⟩|hr
   ·simp only[hr]
    exact last _ (by rw[Hz])
   ·simp only[hr]
    exact last _ rfl
 obtain⟨er,ar,NM,wr,hl,⟨rfl,rfl,rfl,It⟩,bw⟩:=wu b [.code c] rfl rfl trivial (fun d hd=>by simp[bQ]at hd)
 rw[It]at bw
 let s0:S:=⟨cn (cn (br gJ) t u) t1 u,o,nx⟩
 have wh:aQ M φ (hp o nx) w n ⟨[],true⟩ φ s0 a1 w:=by
  refine⟨hH,Trans.refl _ _ _,by simp[a1,Ju],⟨[],rfl,List.nodup_nil,fun _=>rfl,fun r hr=>by cases hr⟩,fun i=> ?_⟩
  have b5:=oB (m:=fn.ntmps - vals.size) hd i
  simp only[s0,a1,aq]
  have HD:t<kO.size:=aN
  have Jv:t1<kO.size:=aN
  by_cases h1:i=t1
  ·subst h1
   simp only[if_true]
   have:((kO.setIfInBounds t val).setIfInBounds i val).getD i undef=val:=by simp[Array.getD,Jv]
   rw[this];exact hv
  ·simp only[h1,if_false]
   have e1:((kO.setIfInBounds t val).setIfInBounds t1 val).getD i undef=(kO.setIfInBounds t val).getD i undef:=by
    exact CZ
   rw[e1]
   by_cases h2:i=t
   ·subst h2
    simp only[if_true]
    have:(kO.setIfInBounds i val).getD i undef=val:=by simp[Array.getD,HD]
    rw[this];exact hv
   ·simp only[h2,if_false]
    have e1:(kO.setIfInBounds t val).getD i undef=kO.getD i undef:=by
     simp only[Array.getD_eq_getD_getElem?]
     rw[Array.getElem?_setIfInBounds_ne (Ne.symm h2)]
    rw[e1];exact b5
 have Nn:=dz (P:=P) (n:=n) (b:=nx) (rd:=true) aD c _ _ s0 (fun _ _ h=>h) (by rw[jI];exact h)
 obtain⟨e,a',w',⟨x,s',ao,hq,eM,hx⟩,rq⟩:=dt (P:=P) (H0:=hp o nx) (b:=nx) (cx:=⟨[],true⟩) (ro:=none) (fun id hu=>hu) (fun h=>by cases h) c _ s0 φ a1 w Nn wh b [] ({ik with mode:=m'}::cs) rfl cm
 have i0:(lone (b.atR {tmps:=kO,defers:=[]} [.code (.seq (.region id ops false) c)]) (ik::cs) w).fenced P (bQ none):=fenced_calm (n:=0) trivial db rfl
 have xZ:StepsIn (Machine.fenced P (bQ none)) P (lone (b.atR {tmps:=kO,defers:=[]} [.code (.seq (.region id ops false) c)]) (ik::cs) w) (lone (b.atR a1 [.code c]) ({ik with mode:=m'}::cs) w):= .head i0 stepR_seq bw
 have lJ:a'.defers=[]:=by
  obtain⟨ms,g1,_,g3,_⟩:=eM.defers
  rw[g3 rfl]at g1;exact g1
 have DN:∀tm:Array Value,∃v,(results fn tm).run P w'= .ok v w':=by
  intro tm
  refine⟨_,fV (vals:=[]) ?_⟩
  rw[pa];rfl
 rw[fm]
 obtain⟨v,jn⟩:=DN a'.tmps
 cases e<;>cases x<;>first|(exact hx.elim)|(exact hq.elim)|skip
 ·exact⟨.returned v,m',w',_,⟨v,ao,s'.o,s'.nx,rfl,Lo,eM.heap,eM.tr,hq⟩,StepsIn.trans xZ (StepsIn.trans rq (.one (fenced_calm (n:=0) (fr:=b.atR a' []) trivial db rfl) (stepR_end rfl))),rfl,rfl,rfl,lJ,fn,hf,jn⟩
 ·obtain⟨todo,hs⟩:=rq.1 rfl
  exact⟨.returned v,m',w',_,⟨v,ao,s'.o,s'.nx,rfl,Lo,eM.heap,eM.tr,hq⟩,StepsIn.trans xZ hs,rfl,rfl,rfl,lJ,fn,hf,jn⟩
theorem pI{d c:Code}{ro:Option Nat}{Q:Exit->Act->World->Prop}{a:Act}{w:World}(h:d=c\/d= .scope c)(hg:∀l a w, ¬Q (.goto l) a w)(hc:c.kx P ro Q a w):d.kx P ro Q a w:=by
 rcases h with rfl|rfl
 ·exact hc
 ·exact mO hc hg
theorem gI.uD (aD:P.follows .mixedOrders=true){f g:FuncId}{gU eY pJ:IC}{t m r r1:Nat}{dP:List Operand}{rs:List ResultVar}(hf:uA P f n gU eY g t dP rs)(hg:rE P g m r r1 pJ)
 {args:List V} {o:Nat->aa} {nx:Nat} {K X:V->(Nat->aa)->Nat->Prop} (hl:args.length<=n)
 (h:l7 P n nx true gU (uB P n t eY dP g fun gJ=>qM P m r r1 pJ gJ rs K X) ⟨br args,o,nx⟩):gI P f args o nx K X:=by
 obtain⟨fn,id,o1,o2,ca,cb,cd,s7,xY,Nl,pa,iZ,Np,e1,e2,e3,e4,e5,e6,ht,Nq,Be⟩:=hf.get
 obtain⟨gn,_,_,gc,Nr,zB,_,_,zD,_⟩:=hg.get
 refine⟨⟨fn,s7,xY,by rw[iZ];rfl⟩,fun M φ w vals hH hd=> ?_⟩
 have hlen:=V.ah _ _ hd
 let s0:S:=⟨br args,o,nx⟩
 let a0:Act:={tmps:=vals++Array.replicate (fn.ntmps - vals.size) undef,defers:=[]}
 have wh:aQ M φ (hp o nx) w n ⟨[],true⟩ φ s0 a0 w:=by
  exact CN
 have ha:=dz (P:=P) (n:=n) (b:=nx) (rd:=true) aD ca _ _ s0 (fun _ _ h=>h) (by rw[Nq];exact h)
 refine pb (ro:=none) (k:=0) (fW s7 iZ (nI (dc (dt (P:=P) (H0:=hp o nx) (b:=nx) (cx:=⟨[],true⟩) (ro:=none) (fun id hu=>hu) (fun h=>by cases h) ca _ s0 φ a0 w ha wh) ?_)))
 rintro e a1 w1 ⟨x,s1,dH,hq,mS,hm⟩
 cases e<;>cases x<;>first|(exact hm.elim)|(exact hq.elim)|skip
 have lJ:a1.defers=[]:=by
  obtain⟨ms,g1,_,g3,_⟩:=mS.defers
  rw[g3 rfl]at g1;exact g1
 let cv:Array Value:=(dP.map a1.eval).toArray
 let fv:Value:= .func (.func g) #[] cv
 let dd:Deferred:={target:= .fn (.func g) cv,args:=#[]}
 let a2:Act:={tmps:=a1.tmps.setIfInBounds t fv,defers:=[dd]}
 have x3:V.ai (ae M dH s1.H) dH s1.H w1 (dP.map s1.ev) cv.toList:=by
  simpa[cv]using ey (M:=M) (φ:=dH) (H:=s1.H) (w:=w1) s1 a1 mS.env dP
 refine pI Np (fun l a w h=> ?_) ?_
 ·exact h.elim
 refine nI (dc (Q:=fun e a w=>e= .normal/\a=a2/\w=w1) (ib (k:=0) (wpIn_region_list ?_)) ?_)
 ·have y1:Region.wanted o1 (yielded #[o1,o2] a1.tmps)=true:=by simp[Region.wanted,e3]
  have y2:∀tm,Region.wanted o2 (yielded #[o1,o2] tm)=true:=by intro tm;simp[Region.wanted,e6]
  have bC:(a1.put (some t) fv).eval (.tmp t)=fv:=by
   have:t<a1.tmps.size:=by rw[mS.size];exact ht
   simp[Act.put,Act.eval,Array.getD,this]
  show wpListIn (bQ none) 0 P #[o1,o2] _ [o1,o2] a1 w1
  unfold wpListIn
  rw[if_pos y1]
  have x1:(execOp a1.eval o1).run P w1= .ok (.value fv) w1:=by simp[execOp,e1,fv,cv,Instr.makeFunc]
  refine eC (fun c hc=>by rw[e1]at hc;cases hc) ?_
  rw[x1]
  show wpListIn (bQ none) 0 P #[o1,o2] _ [o2] (a1.put o1.dst fv) w1
  rw[e2]
  unfold wpListIn
  rw[if_pos (y2 _)]
  have x2:(execOp (a1.put (some t) fv).eval o2).run P w1= .ok (.defer dd) w1:=by
   simp[execOp,e4,resolve,bC,Deferred.ofValue,fv,dd]
  refine⟨fun _ _=>trivial, ?_⟩
  have:(o2.semAt (bQ none).round (a1.put (some t) fv).eval)=execOp (a1.put (some t) fv).eval o2:=rfl
  rw[this,x2]
  unfold Oper.uponIn
  simp only[e5,wpListIn,Act.put,lJ,a2,and_self]
 rintro e a w2 ⟨rfl,rfl,rfl⟩
 have p4:t<a1.tmps.size:=by rw[mS.size];exact ht
 let s2:S:=⟨cn s1.env t (.func (.func g) [] (dP.map s1.ev)),s1.o,s1.nx⟩
 have vu:aQ M dH s1.H w2 n ⟨[dd],false⟩ dH s2 a2 w2:=by
  refine⟨mS.heap,Trans.refl _ _ _,by simp[a2,mS.size],⟨[],rfl,List.nodup_nil,fun _=>rfl,fun r hr=>by cases hr⟩,fun i=> ?_⟩
  simp only[s2,a2,aq]
  by_cases h1:i=t
  ·subst h1
   have:(a1.tmps.setIfInBounds i fv).getD i undef=fv:=by simp[Array.getD,p4]
   simp only[if_true];rw[this]
   exact⟨#[],cv,rfl,rfl,x3⟩
  ·have:(a1.tmps.setIfInBounds t fv).getD i undef=a1.tmps.getD i undef:=by
    exact CZ
   simp only[h1,if_false];rw[this]
   exact mS.env i
 have hb:=dz (P:=P) (n:=n) (b:=s1.nx) (rd:=false) aD cb _ _ s2 (fun _ _ h=>h) (by rw[Be];exact hq)
 refine dc (dt (P:=P) (H0:=s1.H) (b:=s1.nx) (cx:=⟨[dd],false⟩) (ro:=none) (fun id hu=>hu) (fun _=>rfl) cb _ s2 dH a2 w2 hb vu) ?_
 rintro e a3 w3 ⟨x,s3,DO,HH,rr,ot⟩
 obtain⟨ms,g1,g2,_,g4⟩:=rr.defers
 have hinv:(invoke dd.target dd.args).run P=fun w=> .ok (.enter g cv) w:=by
  funext w
  have:=eX (w:=w) ⟨gn,Nr,zB,by rw[zD];rfl⟩ cv
  simpa[dd,invoke]using this
 have last:∀ {w4:World} {tm:Array Value} {u:V} {val:Value} {m0:FrameMode},m0≠ .run->nK M dH s1.H w2 DO s3 a3.tmps w4->V.den (ae M DO s3.H) DO s3.H w4 u val->
  ((m0= .returning/\val= .nilIface)\/m0= .panicking [{v:=val,recovered:=false}])->
  (sY P m r r1 pJ (dP.map s1.ev) u s3.o s3.nx fun o nx=>fq P rs K X .ret ⟨s3.env,o,nx⟩)->
  LeavesInM (bQ none) 0 P fn a3.tmps (fQ M φ (hp o nx) w K X) [dd] m0 w4:=by
  intro w4 tm u val m0 cI hB tD Ns aF
  have zE:=V.aw hB.tr _ _ x3
  refine⟨cI, .inr ⟨fun h=>by simp[bQ]at h, .func g,cv,g,cv,rfl,by rw[hinv],fun _ _=>trivial,CallsDIn.mono (sZ (k:=0 - 1) aD hg aF (m:=m0) hB.heap zE tD Ns) ?_⟩⟩
  rintro e u' w5 ⟨v,Jw,o5,HI,rfl,Jx,k1,k2,k3⟩
  show LeavesInM (bQ none) 0 P fn a3.tmps (fQ M φ (hp o nx) w K X) [] (settle u') w5
  rw[Jx]
  obtain⟨vs,h1,h2⟩:=pj k3
  rw[<- pa]at h1
  have DP:∀i,V.den (ae M Jw (hp o5 HI)) Jw (hp o5 HI) w5 (s3.env i) (a3.tmps.getD i undef):=fun i=>V.ax k2 _ _ (hB.env i)
  obtain⟨Lp,h3,h4⟩:=kN (P:=P) (s:=⟨s3.env,o5,HI⟩) (a:=a3) k1 DP _ _ h1
  exact⟨_,fV h3,Jw,o5,HI,_,k1,mS.tr.trans (hB.tr.trans k2),pk h4,h2⟩
 have done:sY P m r r1 pJ (dP.map s1.ev) (.d .dk) s3.o s3.nx (fun o nx=>fq P rs K X .ret ⟨s3.env,o,nx⟩)->LeavesInM (bQ none) 0 P fn a3.tmps (fQ M φ (hp o nx) w K X) a3.defers .returning w3:=by
  intro aF
  rw[g1]
  exact de (P:=P) (k:=0) (fn:=fn) (R:=fQ M φ (hp o nx) w K X) (u:= .returning) aU (ds:=[dd]) (fun w4 hB=>last (tm:=a3.tmps) aU hB (u:= .d .dk) (val:= .nilIface) (by simp[V.den,D.den]) (.inl ⟨rfl,rfl⟩) aF) ms w3 g2 g4 rr.Ll
 cases e<;>cases x<;>first|(exact ot.elim)|skip
 ·exact done HH
 ·exact HH.elim
 ·exact done HH
 ·rename_i v
  obtain⟨val,rfl,Jg⟩:=ot
  show LeavesInM (bQ none) 0 P fn a3.tmps (fQ M φ (hp o nx) w K X) a3.defers _ w3
  rw[g1]
  let DS:Nat->V:=fun i=>match i with|0=>v|i+1=>s3.env i
  have DT:(#[val]++a3.tmps).getD 0 undef=val:=by simp[Array.getD]
  have DU:∀i,(#[val]++a3.tmps).getD (i+1) undef=a3.tmps.getD i undef:=by
   intro i
   simp only[Array.getD_eq_getD_getElem?]
   rw[Array.getElem?_append_right (by simp)]
   simp
  have Dy:nK M dH s1.H w2 DO ⟨DS,s3.o,s3.nx⟩ (#[val]++a3.tmps) w3:=⟨rr.heap,rr.tr,fun i=>by
   cases i with
   |zero=>rw[DT];exact Jg
   |succ i=>rw[DU];exact rr.env i⟩
  have DV:∀w4,nK M dH s1.H w2 DO ⟨DS,s3.o,s3.nx⟩ (#[val]++a3.tmps) w4->LeavesInM (bQ none) 0 P fn a3.tmps (fQ M φ (hp o nx) w K X) [dd] (.panicking [{v:=val,recovered:=false}]) w4:=by
   intro w4 hB
   have Lq:=hB.env 0
   rw[DT]at Lq
   refine last (tm:=a3.tmps) aU ⟨hB.heap,hB.tr,fun i=> ?_⟩ Lq (.inr rfl) HH
   have hs:=hB.env (i+1)
   rw[DU]at hs
   exact hs
  exact de (P:=P) (k:=0) (fn:=fn) (R:=fQ M φ (hp o nx) w K X) (u:= .panicking [{v:=val,recovered:=false}]) aU (ds:=[dd]) DV ms w3 g2 g4 Dy
end
end
theorem qB.zG {P:Program}{g:FuncId}{ds:List D}{o:Nat->aa}{fr:Nat}{ty:TypeId}{sz:Nat}{es:List D}
 (h:gI P g (ds.map .d) (fun _=> .no) 0 (fun v o1 _=>(∃j ep,v= .osl j ep/\o1 j= .arr ep ty sz es)\/(v= .cG/\es=[]/\0<sz)) (fun _ _ _=>False)):
 qB P g (ds.map .d) [] o fr (.osl fr 0) [(fr, .arr 0 ty sz es)]:=by
 refine⟨h.1,fun o' us M φ w vals _ cq hH hd=> ?_⟩
 let aZ:Place:=fun _=> .nilFunc
 have p5:∀b, ¬b4 aZ (hp (fun _=> .no) 0) b:=by rintro b ⟨id,hl,_⟩;simp[hp,aa.live]at hl
 have hM:∀b,ae M φ ⟨o',us⟩ b->b<w.heap.size:=fun b hb=>hb.elim (hH.pY b) fun hl=>(hH.ours b hl).2
 have mz:=(V.aW _ _).1 hd
 refine(h.2 (ae M φ ⟨o',us⟩) aZ w vals (gD aZ hM) ((V.aW _ _).2 (D.aw (w:=w) (w':=w) (B:=ae M φ ⟨o',us⟩) (fun b _ hB=>⟨rfl,fun h=>h.elim hB (p5 b)⟩) _ _ mz))).mono ?_
 rintro e w' ⟨dH,o1,n1,v,k1,k2,k3⟩
 have hk:cc (fun _=>False) w w':=⟨k2.keep.os,k2.keep.tape,k2.keep.output,k2.keep.size,fun k hk _=>k2.keep.block k hk (p5 k)⟩
 have s8:(⟨o',us⟩:Hp).put [(fr, .arr 0 ty sz es)]=⟨put o' [(fr, .arr 0 ty sz es)],fun id=>us id\/id=fr⟩:=by
  simp only[Hp.put]
  congr 1
  funext id
  simp
 have fin:∀ (val:Value) (xs:List Value),(∀b,cM val=some b->w.heap.size<=b/\b<w'.heap.size)->0<sz->w'.ownsRow 0 ty sz val es.length xs->
  (cu (ae M (cn φ fr val) ((⟨o',us⟩:Hp).put [(fr, .arr 0 ty sz es)])) w' sz es xs)->
  val.oneCell'=true->
  ∃ao,ag M ao ⟨put o' [(fr, .arr 0 ty sz es)],fun id=>us id\/id=fr⟩ w'/\Trans φ ⟨o',us⟩ w ao ⟨put o' [(fr, .arr 0 ty sz es)],fun id=>us id\/id=fr⟩ w'/\
   ∃uE,Ending.returned val= .returned uE/\V.den (ae M ao ⟨put o' [(fr, .arr 0 ty sz es)],fun id=>us id\/id=fr⟩) ao ⟨put o' [(fr, .arr 0 ty sz es)],fun id=>us id\/id=fr⟩ w' (.osl fr 0) uE:=by
  intro val xs eb cg bX bZ Jy
  have iY:=dC hH hk cq (.arr 0 ty sz es) val eb (by
   unfold au
   rw[show((⟨o',us⟩:Hp).put [(fr, .arr 0 ty sz es)]).o fr= .arr 0 ty sz es by simp]
   refine⟨cg,xs, ?_,bZ⟩
   rw[show cn φ fr val fr=val by simp]
   exact bX)
  have DW:=bN (φ:=φ) (H:=⟨o',us⟩) hk cq (.arr 0 ty sz es) val (fun b hb=>(eb b hb).1)
  rw[s8]at iY DW
  refine⟨cn φ fr val,iY,DW,val,rfl,Jy, .inr rfl,fun e he=> ?_⟩
  have vq:0=e:=by
   have:(put o' [(fr,aa.arr 0 ty sz es)] fr).bz=some 0:=by simp[put,aa.bz]
   exact CD
  exact⟨aN,fun _=>aU⟩
 cases e with
 |outgrown=>exact k3.elim
 |panicked ch=>obtain⟨_,_,_,h⟩:=k3;exact h.elim
 |returned val=>
  obtain⟨g1,⟨j,ep,rfl,hj⟩|⟨rfl,rfl,cg⟩⟩:=k3
  ·obtain⟨v0,v1,v2⟩:=g1
   have dI:val=dH j:=(v2 ep (by show(o1 j).bz=some ep;rw[hj];rfl)).2 rfl
   have cA:∀b,cM val=some b->b4 dH (hp o1 n1) b:=fun b hb=>⟨j,by show(o1 j).live=true;rw[hj];rfl,by rw[<- dI];exact hb⟩
   have eb:∀b,cM val=some b->w.heap.size<=b/\b<w'.heap.size:=fun b hb=>⟨(k2.grow b (cA b hb)).resolve_left (p5 b),(k1.ours b (cA b hb)).2⟩
   have zH:=k1.ok j
   unfold au at zH
   rw[show(hp o1 n1).o j= .arr ep ty sz es from hj]at zH
   obtain⟨cg,xs,bX,bZ⟩:=zH
   have Nt:∀b,ae M (cn φ fr val) ((⟨o',us⟩:Hp).put [(fr, .arr 0 ty sz es)]) b->ae (ae M φ ⟨o',us⟩) dH (hp o1 n1) b:=by
    rintro b (hb|⟨id,hl,hb⟩)
    ·exact .inl (.inl hb)
    ·by_cases e:id=fr
     ·subst e
      simp at hb
      exact .inr (cA b hb)
     ·simp[e]at hl hb
      exact .inl (.inr ⟨id,hl,hb⟩)
   exact fin val xs eb cg (by rw[dI];exact bX) (bZ.mono (w:=w') (w':=w') (fun b _ hB=>⟨rfl,fun h=>hB (Nt b h)⟩)) v0
  ·have g1:val= .slice none 0 0:=g1
   subst g1
   exact Cm
theorem qB.wv {P:Program}{g:FuncId}{args:List V}{ds:List D}{o:Nat->aa}{fr:Nat}{ty:TypeId}{sz:Nat}{es:List D}
 (dh:aT o args=some ds) (jk:D.eT es=true) (h:gI P g (ds.map .d) (fun _=> .no) 0 (fun v o1 _=>(∃j ep,v= .osl j ep/\o1 j= .arr ep ty sz es)\/(v= .cG/\es=[]/\0<sz)) (fun _ _ _=>False)):
 qB P g args (V.aC args) o fr (.osl fr 0) [(fr, .arr 0 ty sz es)]:=by
 refine⟨h.1,fun o' us M φ w vals Lr cq hH hd=> ?_⟩
 obtain⟨f1,f2,f3,f4,f5⟩:=bK hH (V.aC args) (fun id aj=>(Lr id aj).2)
 generalize NN:(⟨o',us⟩:Hp).put (bH (⟨o',us⟩:Hp).o (V.aC args))=HF at f1 f2 f3
 let aZ:Place:=fun _=> .nilFunc
 have p5:∀b, ¬b4 aZ (hp (fun _=> .no) 0) b:=by rintro b ⟨id,hl,_⟩;simp[hp,aa.live]at hl
 have hM:∀b,ae M φ HF b->b<w.heap.size:=fun b hb=>hb.elim (f1.pY b) fun hl=>(f1.ours b hl).2
 have mz:D.ai (ae M φ HF) w ds vals.toList:=bD f1 args ds _ (fun id aj=>by rw[f3 id aj];show(o' id).fz=(o id).fz;rw[(Lr id aj).1]) dh (V.aw f2 _ _ hd)
 refine(h.2 (ae M φ HF) aZ w vals (gD aZ hM) ((V.aW _ _).2 (D.aw (w:=w) (w':=w) (B:=ae M φ HF) (fun b _ hB=>⟨rfl,fun h=>h.elim hB (p5 b)⟩) _ _ mz))).mono ?_
 rintro e w' ⟨dH,o1,n1,v,k1,k2,k3⟩
 have hk:cc (fun _=>False) w w':=⟨k2.keep.os,k2.keep.tape,k2.keep.output,k2.keep.size,fun k hk _=>k2.keep.block k hk (p5 k)⟩
 have s8:(⟨o',us⟩:Hp).put [(fr, .arr 0 ty sz es)]=⟨put o' [(fr, .arr 0 ty sz es)],fun id=>us id\/id=fr⟩:=by
  simp only[Hp.put]
  congr 1
  funext id
  simp
 have fin:∀ (val:Value) (xs:List Value),(∀b,cM val=some b->w.heap.size<=b/\b<w'.heap.size)->0<sz->w'.ownsRow 0 ty sz val es.length xs->
  (cu (ae M (cn φ fr val) ((⟨o',us⟩:Hp).put [(fr, .arr 0 ty sz es)])) w' sz es xs)->
  val.oneCell'=true->
  ∃ao,ag M ao ⟨put o' [(fr, .arr 0 ty sz es)],fun id=>us id\/id=fr⟩ w'/\Trans φ ⟨o',us⟩ w ao ⟨put o' [(fr, .arr 0 ty sz es)],fun id=>us id\/id=fr⟩ w'/\
   ∃uE,Ending.returned val= .returned uE/\V.den (ae M ao ⟨put o' [(fr, .arr 0 ty sz es)],fun id=>us id\/id=fr⟩) ao ⟨put o' [(fr, .arr 0 ty sz es)],fun id=>us id\/id=fr⟩ w' (.osl fr 0) uE:=by
  intro val xs eb cg bX bZ Jy
  have iY:=dC hH hk cq (.arr 0 ty sz es) val eb (by
   unfold au
   rw[show((⟨o',us⟩:Hp).put [(fr, .arr 0 ty sz es)]).o fr= .arr 0 ty sz es by simp]
   refine⟨cg,xs, ?_,bZ⟩
   rw[show cn φ fr val fr=val by simp]
   exact bX)
  have DW:=bN (φ:=φ) (H:=⟨o',us⟩) hk cq (.arr 0 ty sz es) val (fun b hb=>(eb b hb).1)
  rw[s8]at iY DW
  refine⟨cn φ fr val,iY,DW,val,rfl,Jy, .inr rfl,fun e he=> ?_⟩
  have vq:0=e:=by
   have:(put o' [(fr,aa.arr 0 ty sz es)] fr).bz=some 0:=by simp[put,aa.bz]
   exact CD
  exact⟨aN,fun _=>aU⟩
 cases e with
 |outgrown=>exact k3.elim
 |panicked ch=>obtain⟨_,_,_,h⟩:=k3;exact h.elim
 |returned val=>
  obtain⟨g1,⟨j,ep,rfl,hj⟩|⟨rfl,rfl,cg⟩⟩:=k3
  ·obtain⟨v0,v1,v2⟩:=g1
   have dI:val=dH j:=(v2 ep (by show(o1 j).bz=some ep;rw[hj];rfl)).2 rfl
   have cA:∀b,cM val=some b->b4 dH (hp o1 n1) b:=fun b hb=>⟨j,by show(o1 j).live=true;rw[hj];rfl,by rw[<- dI];exact hb⟩
   have eb:∀b,cM val=some b->w.heap.size<=b/\b<w'.heap.size:=fun b hb=>⟨(k2.grow b (cA b hb)).resolve_left (p5 b),(k1.ours b (cA b hb)).2⟩
   have zH:=k1.ok j
   unfold au at zH
   rw[show(hp o1 n1).o j= .arr ep ty sz es from hj]at zH
   obtain⟨cg,xs,bX,bZ⟩:=zH
   obtain⟨evs,e1,e2,e3⟩:=bZ
   exact fin val xs eb cg (by rw[dI];exact bX) ⟨evs,e1,e2,D.fj _ _ jk e3⟩ v0
  ·have g1:val= .slice none 0 0:=g1
   subst g1
   exact Cm
theorem qB.wx {P:Program}{g:FuncId}{args:List V}{ds:List D}{o0 o:Nat->aa}{rd:List Nat}{fr:Nat}{v:V}{Δ:List (Nat×aa)}(aj:V.aC args=[])(dh:aT o0 args=some ds)
 (h:qB P g (ds.map .d) rd o fr v Δ):qB P g args rd o fr v Δ:=
 ⟨h.1,fun o' us M φ w vals h1 h2 hH hd=>h.2 o' us M φ w vals h1 h2 hH ((V.aW _ _).2 (bD hH args ds _ (by rw[aj];intro id h;cases h) dh hd))⟩
def rF(P:Program)(f:FuncId):Prop:=
 Enters P f/\∀ (w:World) (b:Nat) (es:Array MapEntry) (clock:Nat),w.heap[b]? =some (.map es clock)->
  Calls P f #[.map (some b)] w fun e w'=>e= .returned (.map (some w.heap.size))/\w'=w.alloc (.map es clock)
theorem gI.zI {P:Program}{f:FuncId}(h:rF P f){o:Nat->aa}{nx id:Nat}{kt vt:TypeId}{l:List (D×D)}(ho:o id= .map kt vt l){K X:V->(Nat->aa)->Nat->Prop}
 (hK:K (.mp nx) (cn o nx (.map kt vt l)) (nx+1)):gI P f [.mp id] o nx K X:=by
 refine⟨h.1,fun M φ w vals hH hd=> ?_⟩
 have hlen:=V.ah _ _ hd
 obtain⟨v,rfl⟩:∃v,vals=#[v]:=by
  match vals,hlen with
  |⟨[v]⟩,_=>exact⟨v,rfl⟩
 obtain⟨v',jn,tD⟩:=V.bA _ _ 0 (.mp id) hd rfl
 simp only[List.getElem?_cons_zero,Option.some.injEq]at jn
 subst jn
 have aI:=hH.ok id
 have mm:(hp o nx).o id= .map kt vt l:=ho
 simp only[au,mm]at aI
 obtain⟨b,es,clock,e1,e2,e3,e4⟩:=aI
 have hv:v=φ id:=tD.2.2 (by rw[mm];rfl)
 rw[hv,e1]
 refine(h.2 w b es clock e2).mono fun e w' ⟨he,hw⟩=> ?_
 subst he;subst hw
 have cq: ¬ (hp o nx).us nx:=fun h=>Nat.lt_irrefl _ h
 have s8:(hp o nx).put [(nx, .map kt vt l)]=hp (cn o nx (.map kt vt l)) (nx+1):=by
  simp only[Hp.put,hp]
  congr 1
  funext j
  simp only[List.map_cons,List.map_nil,List.mem_singleton,eq_iff_iff]
  omega
 have Hs:∀c,cM (.map (some w.heap.size))=some c->w.heap.size<=c/\c<(w.alloc (.map es clock)).heap.size:=by
  intro c hc;simp[cM]at hc;subst hc;simp
 have ht:=bN (φ:=φ) (H:=hp o nx) (aS w (.map es clock)) cq (.map kt vt l) (.map (some w.heap.size)) fun c hc=>(Hs c hc).1
 refine⟨cn φ nx (.map (some w.heap.size)),cn o nx (.map kt vt l),nx+1, .mp nx, ?_, ?_, ?_,hK⟩
 ·exact CL
 ·rw[<- s8];exact ht
 ·rw[<- s8];exact⟨rfl,aU,fun _=>aU⟩
theorem gI.wy {P:Program}{f:FuncId}(h:rF P f){o:Nat->aa}{nx id:Nat}{kt vt:TypeId}{l:List (D×D)}(ho:o id= .dm l){K X:V->(Nat->aa)->Nat->Prop}
 (hK:K (.mp nx) (cn o nx (.map kt vt l)) (nx+1)):gI P f [.mp id] o nx K X:=by
 refine⟨h.1,fun M φ w vals hH hd=> ?_⟩
 have hlen:=V.ah _ _ hd
 obtain⟨v,rfl⟩:∃v,vals=#[v]:=by
  match vals,hlen with
  |⟨[v]⟩,_=>exact⟨v,rfl⟩
 obtain⟨v',jn,tD⟩:=V.bA _ _ 0 (.mp id) hd rfl
 simp only[List.getElem?_cons_zero,Option.some.injEq]at jn
 subst jn
 have aI:=hH.ok id
 have mm:(hp o nx).o id= .dm l:=ho
 simp only[au,mm]at aI
 obtain⟨b,es,clock,e1,e2,_,e3,e4⟩:=aI
 have hv:v=φ id:=tD.2.2 (by rw[mm];rfl)
 rw[hv,e1]
 refine(h.2 w b es clock e2).mono fun e w' ⟨he,hw⟩=> ?_
 subst he;subst hw
 have cq: ¬ (hp o nx).us nx:=fun h=>Nat.lt_irrefl _ h
 have s8:(hp o nx).put [(nx, .map kt vt l)]=hp (cn o nx (.map kt vt l)) (nx+1):=by
  simp only[Hp.put,hp]
  congr 1
  funext j
  simp only[List.map_cons,List.map_nil,List.mem_singleton,eq_iff_iff]
  omega
 have Hs:∀c,cM (.map (some w.heap.size))=some c->w.heap.size<=c/\c<(w.alloc (.map es clock)).heap.size:=by
  intro c hc;simp[cM]at hc;subst hc;simp
 have ht:=bN (φ:=φ) (H:=hp o nx) (aS w (.map es clock)) cq (.map kt vt l) (.map (some w.heap.size)) fun c hc=>(Hs c hc).1
 refine⟨cn φ nx (.map (some w.heap.size)),cn o nx (.map kt vt l),nx+1, .mp nx, ?_, ?_, ?_,hK⟩
 ·exact CL
 ·rw[<- s8];exact ht
 ·rw[<- s8];exact⟨rfl,aU,fun _=>aU⟩
end Go.Proofs.YtlhemmpklhhgoaaGreat
