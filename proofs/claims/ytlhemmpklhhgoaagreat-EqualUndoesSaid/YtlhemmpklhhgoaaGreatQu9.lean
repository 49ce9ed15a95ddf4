/-
  A PART OF THE PROOF. Conditions: none.
-/
import Derived.Test.YtlhemmpklhhgoaaGreatQu8
set_option linter.unusedSimpArgs false
set_option linter.unusedVariables false
namespace Go.Proofs.YtlhemmpklhhgoaaGreat
section
def ta(P:Program)(g:FuncId)(ds:List D)(Kf Kb KX:V->Prop):Prop:=
 (∃rs,aW P g ds (.ret rs)/\(Kf (iR rs)\/(D.jF rs=true/\Kb (iR rs))))\/(∃x,aW P g ds (.bJ x)/\x.flat=true/\KX (.d x))\/(∃v,Ng P g ds v/\Kf v)
def iT(P:Program)(g:FuncId)(args:List V)(o:Nat->ad)(nx fr:Nat)(K:V->List (Nat×ad)->List Nat->Prop)(KX:V->List Nat->List Nat->Prop):Prop:=
 ∃rd Δ,rd.all (fun id=>decide (id<nx))=true/\((∃rs,AY P g args rd o (.ret rs) Δ/\K (iR rs) Δ rd)\/(∃x,AY P g args rd o (.bJ x) Δ/\KX (.d x) (Δ.map (·.1)) rd)\/(∃v,AZ P g args rd o fr v Δ/\K v Δ rd))
def A1(P:Program)(s:S)(fr:Nat)(o:bT)(K:V->List (Nat×ad)->List Nat->Prop)(KX:V->List Nat->List Nat->Prop):Prop:=
 match o.op with
 | .call c=>match c.callee with
   | .value f=>match s.ev f with
     | .func (.func g) first cap=>match cc s.o (first++c.args.toList.map s.ev++cap)with
       |some ds=>ta P g ds (fun v=>K v (bw s.o (V.ba (first++c.args.toList.map s.ev++cap))) (oJ s o.op)) (fun v=>K v [] (oJ s o.op)) (fun v=>KX v [] (oJ s o.op))\/iT P g (first++c.args.toList.map s.ev++cap) s.o s.nx fr K KX
       |none=>iT P g (first++c.args.toList.map s.ev++cap) s.o s.nx fr K KX
     |_=>False
   |_=>match gA P s fr o.op with
    |some (v,Δ,_)=>K v Δ (oJ s o.op)
    |none=>False
 |op=>match gA P s fr op with
  |some (v,Δ,_)=>K v Δ (oJ s o.op)
  |none=>False
abbrev Fp:=List (List Nat×List Nat)
def ij(P:Program)(KB:List Nat->Fp->Prop)(pr:List (List Nat)):List bT->Nat->S->Fp->List Nat->List Nat->Prop
 |[],_,_,fp,_,ws=>KB ws fp
 |o::l,fr,s,fp,bad,ws=>if(pr.getD fp.length []).any (fun j=>bad.contains j)=true then ij P KB pr l (fr+1) ⟨aX s.env o.dst .aa,s.o,s.nx⟩ (fp++[([],[])]) (bad++[fp.length]) ws
  else match o.gd with
  |none=>A1 P s fr o (fun v Δ rd=>ij P KB pr l (fr+1) ⟨aX s.env o.dst v,put s.o Δ,s.nx⟩ (fp++[(rd,Δ.map (·.1))]) bad (ws++Δ.map (·.1))) (fun _ _ _=>False)
  |some (d,want)=>match s.env d with
   | .d (.bool b)=>if b=want then A1 P s fr o (fun v Δ rd=>ij P KB pr l (fr+1) ⟨aX s.env o.dst v,put s.o Δ,s.nx⟩ (fp++[(rd,Δ.map (·.1))]) bad (ws++Δ.map (·.1))) (fun _ _ _=>False)
    else ij P KB pr l (fr+1) ⟨aX s.env o.dst (.bP []),s.o,s.nx⟩ (fp++[([],[])]) bad ws
   | .bP []=>ij P KB pr l (fr+1) ⟨aX s.env o.dst (.bP []),s.o,s.nx⟩ (fp++[([],[])]) bad ws
   |_=>False
def kJ(P:Program)(K:S->Fp->Prop)(KP:V->List Nat->Fp->Prop)(pr:List (List Nat)):List bT->Nat->S->Fp->Prop
 |[],_,s,fp=>K s fp
 |o::l,fr,s,fp=>match o.gd with
  |none=>A1 P s fr o (fun v Δ rd=>kJ P K KP pr l (fr+1) ⟨aX s.env o.dst v,put s.o Δ,s.nx⟩ (fp++[(rd,Δ.map (·.1))]))
   (fun v ws rd=>ij P (KP v) pr l (fr+1) ⟨aX s.env o.dst .aa,s.o,s.nx⟩ (fp++[(rd,[])]) [fp.length] (ws++fp.flatMap (·.2)))
  |some (d,want)=>match s.env d with
   | .d (.bool b)=>if b=want then A1 P s fr o (fun v Δ rd=>kJ P K KP pr l (fr+1) ⟨aX s.env o.dst v,put s.o Δ,s.nx⟩ (fp++[(rd,Δ.map (·.1))]))
         (fun v ws rd=>ij P (KP v) pr l (fr+1) ⟨aX s.env o.dst .aa,s.o,s.nx⟩ (fp++[(rd,[])]) [fp.length] (ws++fp.flatMap (·.2)))
    else kJ P K KP pr l (fr+1) ⟨aX s.env o.dst (.bP []),s.o,s.nx⟩ (fp++[([],[])])
   | .bP []=>kJ P K KP pr l (fr+1) ⟨aX s.env o.dst (.bP []),s.o,s.nx⟩ (fp++[([],[])])
   |_=>False
def Et(pr:List (List Nat))(nx:Nat)(Q:fH->S->Prop)(s:S)(fp:Fp):Prop:=eO pr fp=true/\Q .normal ⟨s.env,s.o,nx⟩
def dstsOf(l:List bT):List Nat:=l.filterMap (·.dst)
def B8(pr:List (List Nat))(l:List bT)(s0:S)(Q:fH->S->Prop)(v:V)(wl:List Nat)(fp:Fp):Prop:=eO pr fp=true/\Q (.bJ v) (u9 (dstsOf l) wl l.length s0)
def np:List bT->List fi->S->Nat->S
 |_,_,s,0=>s
 |o::l,x::xs,s,j+1=>np l xs (wJ o.dst x s) j
 |_,_,s,_=>s
def x7(cj:List fi):Fp:=cj.map fun x=>(wZ x,kH x)
section
variable {P:Program}{n b:Nat}
theorem B9{s:S}{fr:Nat}{o:bT}{K:V->List (Nat×ad)->List Nat->Prop}{KX:V->List Nat->List Nat->Prop}(h:A1 P s fr o K KX):(∃v Δ rd,xZ P s fr o.op v Δ rd/\K v Δ rd)\/(∃v ws rd,B1 P s o.op v ws rd/\KX v ws rd):=by
 have hs:∀ {op:Op},o.op=op->(match gA P s fr op with|some (v,Δ,_)=>K v Δ (oJ s o.op)|none=>False)->(∃v Δ rd,xZ P s fr o.op v Δ rd/\K v Δ rd):=by
  intro op fV h
  split at h
  ·rename_i v Δ rd he;exact⟨v,Δ,_, .inl ⟨⟨rd,by rw[fV];exact he⟩,rfl⟩,h⟩
  ·exact h.elim
 unfold A1 at h
 split at h
 ·rename_i c hc
  split at h
  ·rename_i f eZ
   split at h
   ·rename_i g first cap hf
    split at h
    ·rename_i ds e7
     rcases h with(⟨rs,hP,h|⟨pR,h⟩⟩|⟨x,hP,pR,h⟩|⟨v,hP,h⟩)|⟨rd,Δ,mC,⟨rs,hH,h⟩|⟨x,hH,h⟩|⟨v,hH,h⟩⟩
     ·exact .inl ⟨_,_,_, .inr ⟨c,f,g,first,cap,hc,eZ,hf, .inl ⟨ds,rs,e7,hP,rfl,rfl, .inl rfl⟩⟩,h⟩
     ·exact .inl ⟨_,_,_, .inr ⟨c,f,g,first,cap,hc,eZ,hf, .inl ⟨ds,rs,e7,hP,rfl,rfl, .inr ⟨pR,rfl⟩⟩⟩,h⟩
     ·exact .inr ⟨_,_,_,⟨c,f,g,first,cap,hc,eZ,hf, .inl ⟨ds,x,e7,hP,pR,rfl,rfl,rfl⟩⟩,h⟩
     ·exact .inl ⟨_,_,_, .inr ⟨c,f,g,first,cap,hc,eZ,hf, .inr (.inr (.inl ⟨ds,e7,hP,rfl,rfl⟩))⟩,h⟩
     ·exact YL
     ·exact YO
     ·exact YM
    ·obtain⟨rd,Δ,mC,⟨rs,hH,h⟩|⟨x,hH,h⟩|⟨v,hH,h⟩⟩:=h
     ·exact YL
     ·exact YO
     ·exact YM
   ·exact h.elim
  ·rw[hc]at h;exact .inl (hs hc (by rw[hc];exact h))
 ·exact .inl (hs rfl h)
def N7(P:Program)(KB:List Nat->Fp->Prop)(pr:List (List Nat))(l:List bT)(fr:Nat)(s:S)(fp:Fp)(bad ws:List Nat):Prop:=
    ∃cj:List fi,cj.length=l.length/\(∀j o x,l[j]? =some o->cj[j]? =some x->Rh P (np l cj s j) (fr+j) o x)/\
     (∀ (j:Nat),cj[j]? =some fi.eg->∃i∈pr.getD (fp.length+j) [],i∈bad\/∃j',j'<j/\i=fp.length+j'/\cj[j']? =some .eg)/\(∀x∈cj,x= .eg\/x.ok=true)/\
     ∃wl,KB wl (fp++x7 cj)/\(∀id∈ws,id∈wl)/\∀x∈cj,∀id∈kH x,id∈wl
theorem Ca{KB:List Nat->Fp->Prop}{pr:List (List Nat)}:∀ (l:List bT) (fr:Nat) (s:S) (fp:Fp) (bad ws:List Nat),ij P KB pr l fr s fp bad ws->N7 P KB pr l fr s fp bad ws
 |[],fr,s,fp,bad,ws,h=>⟨[],rfl,fun j o x hj=>by simp at hj,fun j hj=>by simp at hj,fun x hx=>by simp at hx,ws,by simpa[x7,ij]using h,fun _ h=>h,fun x hx=>by simp at hx⟩
 |o::l,fr,s,fp,bad,ws,h=>by
  have step:∀ (x:fi) (N8 Rk:List Nat),Rh P s fr o x->ij P KB pr l (fr+1) (wJ o.dst x s) (fp++[(wZ x,kH x)]) N8 Rk->(x= .eg\/x.ok=true)->(x= .eg->∃i∈pr.getD fp.length [],i∈bad)->
   (∀i∈N8,i∈bad\/(i=fp.length/\x= .eg))->(∀id∈ws,id∈Rk)->(∀id∈kH x,id∈Rk)->
   N7 P KB pr (o::l) fr s fp bad ws:=by
   intro x N8 Rk aV hr T6 Ik T5 N6 hW
   obtain⟨cj,h1,h2,h3,h4,wl,h5,h6,h7⟩:=Ca l (fr+1) _ _ N8 Rk hr
   refine⟨x::cj,by simp[h1],fun j o' y hj hy=> ?_,fun j hj=> ?_,fun y hy=> ?_,wl,by simpa[x7]using h5,fun id ax=>h6 id (N6 id ax),fun y hy id ax=> ?_⟩
   ·cases j with
    |zero=>exact JO
    |succ j=>
     have:=h2 j o' y mL (by simpa using hy)
     exact TP
   ·cases j with
    |zero=>
     simp at hj
     obtain⟨i,i1,i2⟩:=Ik hj
     exact⟨i,by simpa using i1, .inl i2⟩
    |succ j=>
     obtain⟨i,i1,i2⟩:=h3 j mL
     simp only[List.length_append,List.length_cons,List.length_nil]at i1 i2
     refine⟨i,by rw[show fp.length+(j+1)=fp.length+(0+1)+j by omega];exact i1, ?_⟩
     rcases i2 with i2|⟨j',j1,j2,j3⟩
     ·rcases T5 i i2 with hb|⟨e1,e2⟩
      ·exact .inl hb
      ·exact .inr ⟨0,af,af,by simp[e2]⟩
     ·exact .inr ⟨j'+1,af,af,by simpa using j3⟩
   ·rcases List.mem_cons.1 hy with rfl|hy
    ·exact T6
    ·exact h4 y hy
   ·rcases List.mem_cons.1 hy with rfl|hy
    ·exact h6 id (hW id ax)
    ·exact h7 y hy id ax
  simp only[ij]at h
  split at h
  ·rename_i hb
   obtain⟨j,hj1,Q1⟩:=List.any_eq_true.1 hb
   exact step .eg _ _ trivial h (.inl rfl) (fun _=>⟨j,hj1,by simpa using Q1⟩) (fun i hi=>by
    rcases List.mem_append.1 hi with hi|hi
    ·exact .inl hi
    ·exact .inr ⟨by simpa using hi,rfl⟩) (fun _ h=>h) (fun id ax=>by simp[kH]at ax)
  ·have vg:dS s o.gd true->A1 P s fr o (fun v Δ rd=>ij P KB pr l (fr+1) ⟨aX s.env o.dst v,put s.o Δ,s.nx⟩ (fp++[(rd,Δ.map (·.1))]) bad (ws++Δ.map (·.1))) (fun _ _ _=>False)->N7 P KB pr (o::l) fr s fp bad ws:=fun hg h=>by
    rcases B9 h with⟨v,Δ,rd,jT,h⟩|⟨v,Rk,rd,_,h⟩
    ·exact step (.val v Δ rd) bad (ws++Δ.map (·.1)) ⟨hg,jT⟩ h (.inr rfl) (fun h=>by cases h) (fun i hi=> .inl hi) (fun id ax=>List.mem_append.2 (.inl ax)) (fun id ax=>List.mem_append.2 (.inr ax))
    ·exact h.elim
   have skip:dS s o.gd false->ij P KB pr l (fr+1) ⟨aX s.env o.dst (.bP []),s.o,s.nx⟩ (fp++[([],[])]) bad ws->N7 P KB pr (o::l) fr s fp bad ws:=fun hg h=>
    step .skip bad ws hg h (.inr rfl) (fun h=>by cases h) (fun i hi=> .inl hi) (fun id ax=>ax) (fun id ax=>by simp[kH]at ax)
   split at h
   ·rename_i hg;exact vg (by rw[hg];rfl) h
   ·rename_i d want hg
    split at h
    ·rename_i c hv
     split at h
     ·rename_i e;exact vg Fy h
     ·rename_i e;exact skip Fy h
    ·rename_i hv;exact skip (by rw[hg];simp[dS,hv]) h
    ·exact h.elim
def KY(P:Program)(K:S->Fp->Prop)(KP:V->List Nat->Fp->Prop)(pr:List (List Nat))(l:List bT)(fr:Nat)(s:S)(fp:Fp):Prop:=
 ∃cj:List fi,cj.length=l.length/\(∀j o x,l[j]? =some o->cj[j]? =some x->Rh P (np l cj s j) (fr+j) o x)/\
  (((∀x∈cj,x.ok=true)/\K (np l cj s l.length) (fp++x7 cj))\/
   ∃v wl,(∀ (j:Nat) (v':V) (ws rd:List Nat),cj[j]? =some (fi.bJ v' ws rd)->v'=v/\∀id∈ws,id∈wl)/\(∃x∈cj,x.ok=false)/\
    (∀ (j:Nat),cj[j]? =some fi.eg->∃i∈pr.getD (fp.length+j) [],∃j',i=fp.length+j'/\∃y,cj[j']? =some y/\y.ok=false)/\KP v wl (fp++x7 cj)/\(∀x∈cj,∀id∈kH x,id∈wl)/\∀id∈fp.flatMap (·.2),id∈wl)
theorem vh{K:S->Fp->Prop}{KP:V->List Nat->Fp->Prop}{pr:List (List Nat)}:∀ (l:List bT) (fr:Nat) (s:S) (fp:Fp),kJ P K KP pr l fr s fp->KY P K KP pr l fr s fp
 |[],fr,s,fp,h=>⟨[],rfl,fun j o x hj=>by simp at hj, .inl ⟨fun x hx=>by simp at hx,by simpa[np,x7,kJ]using h⟩⟩
 |o::l,fr,s,fp,h=>by
  have step:∀ (x:fi),x.ok=true->Rh P s fr o x->kJ P K KP pr l (fr+1) (wJ o.dst x s) (fp++[(wZ x,kH x)])->KY P K KP pr (o::l) fr s fp:=by
   intro x Rl aV hr
   obtain⟨cj,h1,h2,h3⟩:=vh l (fr+1) _ _ hr
   refine⟨x::cj,by simp[h1],fun j o' y hj hy=> ?_, ?_⟩
   ·cases j with
    |zero=>exact JO
    |succ j=>
     have:=h2 j o' y mL (by simpa using hy)
     exact TP
   ·rcases h3 with⟨h3,h4⟩|⟨v,wl,g1,g2,g3,g4,g5,g6⟩
    ·left
     refine⟨fun y hy=> ?_,by simpa[np,x7]using h4⟩
     rcases List.mem_cons.1 hy with rfl|hy
     ·exact Rl
     ·exact h3 y hy
    ·right
     refine⟨v,wl,fun j v' ws rd hj=> ?_, ?_,fun j hj=> ?_,by simpa[x7]using g4,fun y hy id ax=> ?_,fun id ax=>g6 id (by simp only[List.flatMap_append,List.mem_append];exact .inl ax)⟩
     ·cases j with
      |zero=>simp at hj;rw[hj]at Rl;cases Rl
      |succ j=>exact g1 j v' ws rd mL
     ·obtain⟨y,y1,y2⟩:=g2;exact⟨y,by simp[y1],y2⟩
     ·cases j with
      |zero=>simp at hj;rw[hj]at Rl;cases Rl
      |succ j=>
       obtain⟨i,i1,j',i2,y,i3,i4⟩:=g3 j mL
       simp only[List.length_append,List.length_cons,List.length_nil]at i1 i2
       exact⟨i,by rw[show fp.length+(j+1)=fp.length+(0+1)+j by omega];exact i1,j'+1,af,y,by simpa using i3,i4⟩
     ·rcases List.mem_cons.1 hy with rfl|hy
      ·exact g6 id (by simp only[List.flatMap_append,List.mem_append];exact .inr (by simpa using ax))
      ·exact g5 y hy id ax
  have bJ:∀ (v:V) (ws rd:List Nat),Rh P s fr o (.bJ v ws rd)->ij P (KP v) pr l (fr+1) ⟨aX s.env o.dst .aa,s.o,s.nx⟩ (fp++[(rd,[])]) [fp.length] (ws++fp.flatMap (·.2))->KY P K KP pr (o::l) fr s fp:=by
   intro v ws rd aV hr
   obtain⟨cj,h1,h2,h3,h4,wl,h5,h6,h7⟩:=Ca l (fr+1) _ _ _ _ hr
   refine⟨fi.bJ v ws rd::cj,by simp[h1],fun j o' y hj hy=> ?_, .inr ⟨v,wl,fun j v' Rk tO hj=> ?_,⟨fi.bJ v ws rd,aE,rfl⟩,fun j hj=> ?_,by simpa[x7,wZ,kH]using h5,fun y hy id ax=> ?_,fun id ax=>h6 id (List.mem_append.2 (.inr ax))⟩⟩
   ·cases j with
    |zero=>exact JO
    |succ j=>
     have:=h2 j o' y mL (by simpa using hy)
     exact TP
   ·cases j with
    |zero=>simp at hj;obtain⟨rfl,rfl,rfl⟩:=hj;exact⟨rfl,fun id ax=>h6 id (List.mem_append.2 (.inl ax))⟩
    |succ j=>
     have hm:=List.mem_of_getElem? (show cj[j]? =some (.bJ v' Rk tO) by simpa using hj)
     rcases h4 _ hm with h|h<;>cases h
   ·cases j with
    |zero=>simp at hj
    |succ j=>
     obtain⟨i,i1,i2⟩:=h3 j mL
     simp only[List.length_append,List.length_cons,List.length_nil]at i1 i2
     refine⟨i,by rw[show fp.length+(j+1)=fp.length+(0+1)+j by omega];exact i1, ?_⟩
     rcases i2 with i2|⟨j',j1,j2,j3⟩
     ·exact⟨0,by simpa using i2,_,rfl,rfl⟩
     ·exact⟨j'+1,af, .eg,by simpa using j3,rfl⟩
   ·rcases List.mem_cons.1 hy with rfl|hy
    ·simp[kH]at ax
    ·exact h7 y hy id ax
  have vg:dS s o.gd true->A1 P s fr o (fun v Δ rd=>kJ P K KP pr l (fr+1) ⟨aX s.env o.dst v,put s.o Δ,s.nx⟩ (fp++[(rd,Δ.map (·.1))]))
   (fun v ws rd=>ij P (KP v) pr l (fr+1) ⟨aX s.env o.dst .aa,s.o,s.nx⟩ (fp++[(rd,[])]) [fp.length] (ws++fp.flatMap (·.2)))->KY P K KP pr (o::l) fr s fp:=fun hg h=>by
   rcases B9 h with⟨v,Δ,rd,jT,h⟩|⟨v,ws,rd,jT,h⟩
   ·exact step (.val v Δ rd) rfl ⟨hg,jT⟩ h
   ·exact bJ v ws rd ⟨hg,jT⟩ h
  have skip:dS s o.gd false->kJ P K KP pr l (fr+1) ⟨aX s.env o.dst (.bP []),s.o,s.nx⟩ (fp++[([],[])])->KY P K KP pr (o::l) fr s fp:=fun hg h=>step .skip rfl hg h
  simp only[kJ]at h
  split at h
  ·rename_i hg;exact vg (by rw[hg];rfl) h
  ·rename_i d want hg
   split at h
   ·rename_i c hv
    split at h
    ·rename_i e;exact vg Fy h
    ·rename_i e;exact skip Fy h
   ·rename_i hv;exact skip (by rw[hg];simp[dS,hv]) h
   ·exact h.elim
end
end
section
def px(env:Nat->V):List Nat->List V->Nat->V
 |t::ps,v::vs=>px (ay env t v) ps vs
 |_,_=>env
def Eu(pr:List (List Nat))(m:Nat):Bool:=(List.range pr.length).all fun k=>Nat.blt k m||Nat.beq ((eG pr []).getD k 0) (2^k - 1)
def KZ(P:Program)(l:List bT)(pr:List (List Nat))(Q:fH->S->Prop)(s:S):Prop:=
 ∃m,m<=l.length/\Eu pr m=true/\kJ P (fun s' fp=>eO pr fp=true/\pv P (fun v s=>Q (.bJ v) s) (Q .normal) (l.drop m) ⟨s'.env,s'.o,s.nx+m⟩) (fun _ _ _=>False) pr (l.take m) s.nx s []
def tV(P:Program)(n b:Nat)(rd:Bool):IC->(fH->S->Prop)->S->Prop
 | .skip,Q,s=>Q .normal s
 | .ag l,Q,s=>pv P (fun v s=>Q (.bJ v) s) (Q .normal) l s
 | .dO l pr,Q,s=>kJ P (Et pr (s.nx+l.length) Q) (B8 pr l s Q) pr l s.nx s []\/KZ P l pr Q s
 | .seq x y,Q,s=>tV P n b rd x (qq (tV P n b rd y Q) Q) s
 | .cond c x y,Q,s=>match s.ev c with
   | .d (.bool t)=>qE t (tV P n b rd x Q s) (tV P n b rd y Q s)
   | .fw=>tV P n b rd x Q s/\tV P n b rd y Q s
   |_=>False
 | .block id x,Q,s=>tV P n b rd x (fC id Q) s
 | .loop x,Q,s=>KN b (tV P n b rd x) Q s
 | .exit id,Q,s=>Q (.exit id) s
 | .ret,Q,s=>Q .ret s
 | .Ji g ps x y,Q,s=>rd=false/\aac P n b g ps x y Q s
 | .bad,_,_=>False
section
variable {P:Program}{n b:Nat}{rd:Bool}
theorem vi:∀ (l:List bT) (cj:List fi) (s:S) (k:Nat) (o:bT) (x:fi),l[k]? =some o->cj[k]? =some x->np l cj s (k+1)=wJ o.dst x (np l cj s k)
 |[],_,_,_,_,_,h,_=>by simp at h
 |o::l,[],_,_,_,_,_,h=>by simp at h
 |o::l,x::xs,s,0,o',x',h,h'=>by simp at h h';subst h;subst h';cases l<;>cases xs<;>rfl
 |o::l,x::xs,s,k+1,o',x',h,h'=>by
  simp only[np]
  exact vi l xs _ k o' x' (by simpa using h) (by simpa using h')
theorem x8(l:List bT)(cj:List fi)(s:S)(hl:cj.length=l.length):∀k,k<=l.length->eI (bZ l) (fun i=>cj.getD i default) (fun _=>true) s k=np l cj s k:=by
 intro k
 induction k with
 |zero=>intro _;cases l<;>cases cj<;>rfl
 |succ k ih=>
  intro hk
  have h1:l[k]? =some (bZ l k):=by simp[bZ,List.getD_eq_getElem?_getD,List.getElem?_eq_getElem (by omega:k<l.length)]
  have h2:cj[k]? =some (cj.getD k default):=by simp[List.getD_eq_getElem?_getD,List.getElem?_eq_getElem (by omega:k<cj.length)]
  simp only[eI,if_true,ih (by omega)]
  rw[vi l cj s k _ _ h1 h2]
theorem nq{ops:Array Oper}:∀ (l:List Oper) (l':List bT),kS n ops l=some l'->l'.length=l.length
 |[],_,h=>by simp[kS]at h;subst h;rfl
 |o::l,l',h=>by
  simp only[kS]at h
  split at h
  ·rename_i hx;injection h with h;subst h;simp[nq l _ hx]
  ·cases h
theorem Ip(bc:P.follows .mixedOrders=true){id:Nat}{ops:Array Oper}{l:List bT}{Q Q':fH->S->Prop}{s:S}(hQ:∀e s,Q e s->Q' e s)(rY:kS n ops ops.toList=some l)(ht:yV l (gD ops)=true)
 (hp:TS (gD ops)=true) (h:kJ P (Et (gD ops) (s.nx+l.length) Q) (B8 (gD ops) l s Q) (gD ops) l s.nx s []):ja P n b rd (.region id ops true) Q' s:=by
 intro M cL H0 w0 cx φ a w ro k hs
 obtain⟨cj,hl,aV,kK⟩:=vh l _ _ _ h
 have hlen:l.length=ops.size:=by rw[nq _ _ rY];simp
 have sU:∀k,k<ops.size->(gD ops).getD k []=bC ops k:=by
  intro k hk;simp[gD,List.getD_eq_getElem?_getD,List.getElem?_map,List.getElem?_range hk]
 have ze:(gD ops).length=ops.size:=by simp[gD]
 have jT:=x8 l cj s hl
 have Jg:∀k,k<ops.size->l[k]? =some (bZ l k):=fun k hk=>by simp[bZ,List.getD_eq_getElem?_getD,List.getElem?_eq_getElem (by omega:k<l.length)]
 have wI:∀k,k<ops.size->cj[k]? =some (cj.getD k default):=fun k hk=>by simp[List.getD_eq_getElem?_getD,List.getElem?_eq_getElem (by omega:k<cj.length)]
 have mD:∀k,k<ops.size->cj.getD k default∈cj:=fun k hk=>List.mem_of_getElem? (wI k hk)
 have NS:∀k,k<ops.size->(x7 cj)[k]? =some (wZ (cj.getD k default),kH (cj.getD k default)):=fun k hk=>by
  simp only[x7,List.getElem?_map,wI k hk,Option.map_some]
 have T7:(x7 cj).length=ops.size:=by simp[x7,hl,hlen]
 simp only[List.nil_append,List.length_nil,Nat.zero_add]at kK
 have uH:eO (gD ops) (x7 cj)=true:=by
  rcases kK with⟨_,h⟩|⟨v,wl,_,_,_,h,_⟩
  ·exact h.1
  ·exact h.1
 have Iq:∀k,k<ops.size->∀j∈bC ops k,j<k:=fun k hk j hj=>by
  have:=List.all_eq_true.1 hp k (by simpa[ze]using hk)
  rw[sU k hk]at this
  simpa using List.all_eq_true.1 this j hj
 have K0:∀k,k<(gD ops).length->∀j∈(gD ops).getD k [],j<k:=fun k hk j hj=>by
  rw[ze]at hk;rw[sU k hk]at hj;exact Iq k hk j hj
 let po:Nat->Nat->Prop:=fun k j=>((eG (gD ops) []).getD k 0).testBit j=true
 have Gf:∀E:Nat->Bool,(∀k,k<ops.size->E k=true->∀j∈bC ops k,E j=true)->∀k,k<ops.size->(∀j∈bC ops k,E j=true)->∀j,po k j->E j=true:=fun E hE k hk hj j hb=>
  pY K0 (fun k hk iY j hj=>by rw[ze]at hk;rw[sU k hk]at hj;exact hE k hk iY j hj) k (by rw[ze];exact hk) (by rw[sU k hk];exact hj) j hb
 have B6:∀k,k<ops.size->∀j,po k j->j<k:=fun k hk j hb=>Bh K0 k (by rw[ze];exact hk) j hb
 have zQ:∀i j,i<j->j<ops.size-> ¬po j i->Compat (bZ l) (fun i=>cj.getD i default) (fun i=>wZ (cj.getD i default)) i j:=by
  intro i j hij hj hn
  have NA:=List.all_eq_true.1 (List.all_eq_true.1 ht j (by simpa[hlen]using hj)) i (by simpa using hij)
  have xm:=List.all_eq_true.1 (List.all_eq_true.1 uH j (by simpa[T7]using hj)) i (by simpa using hij)
  have hnc:((eG (gD ops) []).getD j 0).testBit i=false:=by simpa[po]using hn
  rw[hnc,Bool.false_or]at NA xm
  simp only[Bool.and_eq_true]at NA xm
  have gi:=NS i af
  have gj:=NS j hj
  simp only[List.getD_eq_getElem?_getD (l:=x7 cj),gi,gj,Option.getD_some]at xm
  have dj:∀ {xs ys:List Nat},kC xs ys=true->∀x∈xs,x∉ys:=fun h x hx=>by simpa using List.all_eq_true.1 h x hx
  have fo:∀ {x y:bT},rG x y=true->∀d,x.dst=some d->d∉e8 y:=fun h d hd=>by simpa[rG,hd]using h
  exact YR
 have Rm:∀i,i<ops.size->Rh P (eI (bZ l) (fun i=>cj.getD i default) (fun _=>true) s i) (s.nx+i) (bZ l i) (cj.getD i default):=fun i hi=>by
  rw[jT i (by omega)];exact aV i _ _ (Jg i hi) (wI i hi)
 have c7:∀i,i<ops.size->∀t,(bZ l i).dst=some t->(dstsOf l).contains t=true:=fun i hi t ht=>by
  simp only[List.contains_iff_mem,dstsOf,List.mem_filterMap]
  exact⟨bZ l i,List.mem_of_getElem? (Jg i hi),ht⟩
 rcases kK with⟨a7,kK⟩|⟨v,wl,q1,q2,q3,q4,q5,q6⟩
 ·refine B5 (ac:=fun i=>cj.getD i default) (dl:=dstsOf l) (wl:=(cj.flatMap kH)) bc rY Iq hs Rm (fun i hi hb=> ?_) Gf B6 zQ c7 (fun i hi id ax=> ?_) (fun i v ws tO hi hb=> ?_) (fun _ φ a w jV=> ?_) (fun i v ws tO hi hb=> ?_)
  ·have:=a7 _ (mD i hi);rw[hb]at this;cases this
  ·simp only[List.contains_iff_mem,List.mem_flatMap];exact⟨_,mD i hi,ax⟩
  ·have:=a7 _ (mD i hi);rw[hb]at this;cases this
  ·rw[jT ops.size (by omega), <- hlen]at jV
   exact⟨.normal,_,φ,hQ _ _ kK.2,jV,trivial⟩
  ·have:=a7 _ (mD i hi);rw[hb]at this;cases this
 ·refine B5 (ac:=fun i=>cj.getD i default) (dl:=dstsOf l) (wl:=wl) bc rY Iq hs Rm (fun i hi hb=> ?_) Gf B6 zQ c7 (fun i hi id ax=> ?_) (fun i v' ws tO hi hb=> ?_) (fun a7 φ a w jV=> ?_) (fun i v' ws tO hi hb φ a w val jV hd=> ?_)
  ·obtain⟨j,j1,j',e,y,j3,j4⟩:=q3 i JU
   rw[sU i hi,e]at j1
   refine⟨j',j1, ?_⟩
   simp only[List.getD_eq_getElem?_getD,j3,Option.getD_some,j4]
  ·simp only[List.contains_iff_mem];exact q5 _ (mD i hi) id ax
  ·intro id ax
   simp only[List.contains_iff_mem]
   exact(q1 i v' ws tO JU).2 id ax
  ·obtain⟨x,x1,x2⟩:=q2
   obtain⟨i,NM,ZW⟩:=List.getElem_of_mem x1
   have hi:i<ops.size:=af
   have:=a7 i hi
   have e:cj.getD i default=x:=by simp[List.getD_eq_getElem?_getD,List.getElem?_eq_getElem NM,ZW]
   rw[e,x2]at this;cases this
  ·have e:=(q1 i v' ws tO JU).1
   subst e
   rw[<- hlen]at jV hd
   exact⟨.bJ v',_,φ,hQ _ _ q4.2,jV,val,rfl,hd⟩
theorem x9{ops:Array Oper}:∀ (l:List Oper) (l':List bT) (m:Nat),kS n ops l=some l'->kS n ops (l.drop m)=some (l'.drop m)
 |l,l',0,h=>h
 |[],l',m+1,h=>by simp[kS]at h;subst h;simp[kS]
 |o::l,l',m+1,h=>by
  simp only[kS]at h
  split at h
  ·rename_i x xs hx M9
   injection h with h;subst h
   exact x9 l xs m M9
  ·cases h
theorem K1{l:List bT}{ac:Nat->fi}{E:Nat->Bool}{s:S}{m:Nat}:∀k,k<=m->eI (bZ l) ac E s k=eI (bZ (l.take m)) ac E s k:=by
 intro k
 induction k with
 |zero=>intro _;rfl
 |succ k ih=>
  intro hk
  have:bZ l k=bZ (l.take m) k:=by simp[bZ,List.getD_eq_getElem?_getD,List.getElem?_take,(by omega:k<m)]
  simp only[eI,ih (by omega),this]
theorem Ev(bc:P.follows .mixedOrders=true){id:Nat}{ops:Array Oper}{l:List bT}{Q Q':fH->S->Prop}{s:S}(hQ:∀e s,Q e s->Q' e s)(rY:kS n ops ops.toList=some l)(ht:yV l (gD ops)=true)
 (hp:TS (gD ops)=true) (h:KZ P l (gD ops) Q s):ja P n b rd (.region id ops true) Q' s:=by
 intro M cL H0 w0 cx φ a w ro k hs
 obtain⟨m,HN,hto,h⟩:=h
 obtain⟨cj,hl,aV,kK⟩:=vh (l.take m) _ _ _ h
 have hlm:(l.take m).length=m:=by rw[List.length_take];omega
 have hlen:l.length=ops.size:=by rw[nq _ _ rY];simp
 have kK:=kK.resolve_right (fun⟨_,_,_,_,_,q4,_,_⟩=>q4)
 obtain⟨a7,kK⟩:=kK
 have Ku:cj.length=m:=af
 have sU:∀k,k<ops.size->(gD ops).getD k []=bC ops k:=by
  intro k hk;simp[gD,List.getD_eq_getElem?_getD,List.getElem?_map,List.getElem?_range hk]
 have ze:(gD ops).length=ops.size:=by simp[gD]
 have jT:∀k,k<=m->eI (bZ l) (fun i=>cj.getD i default) (fun _=>true) s k=np (l.take m) cj s k:=fun k hk=>by
  rw[K1 k hk];exact x8 (l.take m) cj s hl k af
 have Jg:∀k,k<m->(l.take m)[k]? =some (bZ l k):=fun k hk=>by
  rw[List.getElem?_take,if_pos hk]
  simp[bZ,List.getD_eq_getElem?_getD,List.getElem?_eq_getElem (by omega:k<l.length)]
 have wI:∀k,k<m->cj[k]? =some (cj.getD k default):=fun k hk=>by simp[List.getD_eq_getElem?_getD,List.getElem?_eq_getElem (by omega:k<cj.length)]
 have mD:∀k,k<m->cj.getD k default∈cj:=fun k hk=>List.mem_of_getElem? (wI k hk)
 have NS:∀k,k<m->(x7 cj)[k]? =some (wZ (cj.getD k default),kH (cj.getD k default)):=fun k hk=>by
  simp only[x7,List.getElem?_map,wI k hk,Option.map_some]
 have T7:(x7 cj).length=m:=by simp[x7,Ku]
 simp only[List.nil_append]at kK
 obtain⟨uH,N9⟩:=kK
 have Iq:∀k,k<ops.size->∀j∈bC ops k,j<k:=fun k hk j hj=>by
  have:=List.all_eq_true.1 hp k (by simpa[ze]using hk)
  rw[sU k hk]at this
  simpa using List.all_eq_true.1 this j hj
 have K0:∀k,k<(gD ops).length->∀j∈(gD ops).getD k [],j<k:=fun k hk j hj=>by
  rw[ze]at hk;rw[sU k hk]at hj;exact Iq k hk j hj
 let po:Nat->Nat->Prop:=fun k j=>((eG (gD ops) []).getD k 0).testBit j=true
 have Gf:∀E:Nat->Bool,(∀k,k<ops.size->E k=true->∀j∈bC ops k,E j=true)->∀k,k<ops.size->(∀j∈bC ops k,E j=true)->∀j,po k j->E j=true:=fun E hE k hk hj j hb=>
  pY K0 (fun k hk iY j hj=>by rw[ze]at hk;rw[sU k hk]at hj;exact hE k hk iY j hj) k (by rw[ze];exact hk) (by rw[sU k hk];exact hj) j hb
 have B6:∀k,k<ops.size->∀j,po k j->j<k:=fun k hk j hb=>Bh K0 k (by rw[ze];exact hk) j hb
 have zQ:∀i j,i<j->j<m-> ¬po j i->Compat (bZ l) (fun i=>cj.getD i default) (fun i=>wZ (cj.getD i default)) i j:=by
  intro i j hij hj hn
  have NA:=List.all_eq_true.1 (List.all_eq_true.1 ht j gz) i (by simpa using hij)
  have xm:=List.all_eq_true.1 (List.all_eq_true.1 uH j (by simpa[T7]using hj)) i (by simpa using hij)
  have hnc:((eG (gD ops) []).getD j 0).testBit i=false:=by simpa[po]using hn
  rw[hnc,Bool.false_or]at NA xm
  simp only[Bool.and_eq_true]at NA xm
  have gi:=NS i af
  have gj:=NS j hj
  simp only[List.getD_eq_getElem?_getD (l:=x7 cj),gi,gj,Option.getD_some]at xm
  have dj:∀ {xs ys:List Nat},kC xs ys=true->∀x∈xs,x∉ys:=fun h x hx=>by simpa using List.all_eq_true.1 h x hx
  have fo:∀ {x y:bT},rG x y=true->∀d,x.dst=some d->d∉e8 y:=fun h d hd=>by simpa[rG,hd]using h
  exact YR
 have htl:∀k,m<=k->k<ops.size->∀j,j<k->po k j:=fun k lM hk j hj=>by
  have:=List.all_eq_true.1 hto k (by simpa[ze]using hk)
  simp only[Bool.or_eq_true]at this
  rcases this with this|this
  ·exact absurd (Nat.blt_eq.mp this) af
  ·show((eG (gD ops) []).getD k 0).testBit j=true
   rw[Nat.eq_of_beq_eq_true this,Nat.testBit_two_pow_sub_one]
   exact decide_eq_true hj
 refine Es (ac:=fun i=>cj.getD i default) (m:=m) (X:=fun v s=>Q' (.bJ v) s) (K:=Q' .normal) bc rY Iq af hs (fun i hi=> ?_) (fun i hi=>a7 _ (mD i hi)) Gf B6 zQ htl ?_ (fun s φ a w hk jV=>⟨.normal,s,φ,hk,jV,trivial⟩) (fun v s' aF a' w' val hx jV hd=>⟨.bJ v,s',aF,hx,jV,val,rfl,hd⟩)
 ·rw[jT i (by omega)];exact aV i _ _ (Jg i hi) (wI i hi)
 ·rw[jT m (Nat.le_refl _)]
  rw[hlm]at N9
  exact jl (fun s hs=>hQ _ _ hs) (fun v s hs=>hQ _ _ hs) _ _ _ (x9 _ _ m rY) N9
theorem rZ{g:V}{ps:List Nat}{x y:IC}{Q Q':fH->S->Prop}{s:S}(hQ:∀e s,Q e s->Q' e s)(h:BR P n g ps x y Q s):BR P n g ps x y Q' s:=by
 obtain⟨env,h1,h2⟩:=h
 refine⟨env,h1, ?_⟩
 split at h2
 ·refine oK.mono (fun v o n h=> ?_) (fun v o n h=>hQ _ _ h) h2
  obtain⟨nf,m,e,p,c,d,st,pd,k1,k2,k3⟩:=h
  refine⟨nf,m,e,p,c,d,st,pd,k1,k2, ?_⟩
  cases pd with
  |none=>exact hQ _ _ k3
  |some j=>cases j<;>exact hQ _ _ k3
 ·exact h2
theorem ik(bc:P.follows .mixedOrders=true):∀ (c:Code) (Q Q':fH->S->Prop) (s:S),(∀e s,Q e s->Q' e s)->tV P n b rd (low n c) Q s->ja P n b rd c Q' s:=by
 intro c
 induction c with
 |skip=>exact fun Q Q' s hQ h=>hQ _ _ h
 |scope x ih=>exact fun Q Q' s hQ h=>ih Q Q' s hQ h
 |label l=>exact fun Q Q' s hQ h=>hQ _ _ h
 |exit id=>exact fun Q Q' s hQ h=>hQ _ _ h
 |ret=>exact fun Q Q' s hQ h=>hQ _ _ h
 |goto l=>exact fun Q Q' s hQ h=>h.elim
 |refuse y=>exact fun Q Q' s hQ h=>h.elim
 |rangeFunc f p x y=>
  intro Q Q' s hQ h
  obtain⟨h1,s',hle,h2⟩:=h
  exact⟨h1,s',hle,rZ hQ h2⟩
 |region id ops draw=>
  intro Q Q' s hQ h
  cases draw with
  |true=>
   simp only[low]at h
   split at h
   ·rename_i l hl
    split at h
    ·rename_i hc
     simp only[Bool.and_eq_true]at hc
     rcases h with h|h
     ·exact Ip bc hQ hl hc.1 hc.2 h
     ·exact Ev bc hQ hl hc.1 hc.2 h
    ·exact h.elim
   ·exact h.elim
  |false=>
   simp only[low]at h
   split at h
   ·rename_i l hl;exact jl (fun s hs=>hQ _ _ hs) (fun v s hs=>hQ _ _ hs) _ l s hl h
   ·exact h.elim
 |seq x y N2 N3=>
  intro Q Q' s hQ h
  refine N2 _ _ s (fun e s he=> ?_) h
  cases e<;>first|exact N3 Q Q' s hQ he|exact hQ _ _ he
 |cond c x y N2 N3=>
  intro Q Q' s hQ h
  simp only[low,tV]at h
  simp only[ja]
  split at h
  ·rename_i t hc
   simp only[hc]
   exact⟨fun ht=>N2 Q Q' s hQ (h.1 ht),fun ht=>N3 Q Q' s hQ (h.2 ht)⟩
  ·rename_i hc
   simp only[hc]
   exact⟨N2 Q Q' s hQ h.1,N3 Q Q' s hQ h.2⟩
  ·exact h.elim
 |block id x ih=>
  intro Q Q' s hQ h
  refine ih _ _ s (fun e s he=> ?_) h
  cases e<;>simp only[fC]at he|- <;>first
   |exact hQ _ _ he
   |(split at he<;>rename_i e
     ·rw[if_pos e];exact hQ _ _ he
     ·rw[if_neg e];exact hQ _ _ he)
 |loop x ih=>
  intro Q Q' s hQ h
  obtain⟨J,h0,hr⟩:=h
  refine⟨J,h0,fun m s0 hJ=>ih _ _ s0 (fun e s he=> ?_) (hr m s0 hJ)⟩
  cases e<;>first|exact hQ _ _ he|exact he
structure aQ (P:Program) (f:FuncId) (n:Nat) (ic:IC) (rs:List ResultVar):Prop where
 get:∃fn,P.funcs[f]? =some fn/\(fn.name== "runtime.NumGoroutine")=false/\fn.ntmps=n/\fn.results.toList=rs/\∃c,fn.body=some c/\low n c=ic
theorem bQ.vj (bc:P.follows .mixedOrders=true){f:FuncId}{ic:IC}{rs:List ResultVar}(hf:aQ P f n ic rs){args:List V}{o:Nat->ad}{nx:Nat}{K X:V->(Nat->ad)->Nat->Prop}(hl:args.length<=n)(h:tV P n nx false ic (l0 P rs K X) ⟨cw args,o,nx⟩):bQ P f args o nx K X:=by
 obtain⟨fn,h1,h2,rfl,rfl,c,h3,rfl⟩:=hf.get
 exact bQ.F9 h1 h2 h3 hl (ik bc c _ _ _ (fun _ _ h=>h) h)
theorem aW.vj (bc:P.follows .mixedOrders=true){f:FuncId}{ic:IC}{rs:List ResultVar}(hf:aQ P f n ic rs){ds:List D}{out:R}(hl:ds.length<=n)(h:tV P n 0 false ic (zo P rs out) ⟨cw (ds.map .d),fun _=> .no,0⟩):aW P f ds out:=by
 obtain⟨fn,h1,h2,rfl,rfl,c,h3,rfl⟩:=hf.get
 exact aW.kF (bQ.F9 h1 h2 h3 (by simpa using hl) (ik bc c _ _ _ (fun e s h=>Ic e s h) h))
end
end
section
abbrev Fix(α:Type){β:Type}(_:β):Type:=α
def kq(K:V->List (Nat×ad)->Prop)(x:Fix (Option fS) K):Prop:=match x with|some (v,Δ,_)=>K v Δ|none=>False
@[go_sem] theorem T8 {v:V} {Δ:List (Nat×ad)} {rd:List Nat} {K}:kq K (some (v,Δ,rd))=K v Δ:=propext Iff.rfl
@[go_sem] theorem T9 {K}:kq K none=False:=propext Iff.rfl
def V.zR (c:Bool)(v:V):V:=if c=true then v else .bP []
@[go_sem] theorem aai (b:Bool):(!!b)=b:=aE
attribute [go_sem] true_or or_true false_or ne_eq not_false_eq_true decide_true decide_false Bool.not_true Bool.not_false Bool.and_true Bool.true_and Bool.and_false Bool.false_and Bool.or_true Bool.true_or Bool.or_false Bool.false_or beq_self_eq_true Bool.true_eq_false Bool.false_eq_true not_true_eq_false and_true true_and and_false false_and eq_self
@[go_sem] theorem V.aaj (v:V):V.zR true v=v:=rfl
@[go_sem] theorem V.Xb (v:V):V.zR false v= .bP []:=rfl
def my(c:Bool)(p:Prop):Prop:=c=true->p
@[congr] theorem Rn {c c':Bool} {p p':Prop} (h:c=c') (h2:c'=true->p=p'):my c p=my c' p':=by
  subst h;cases c
  ·simp[my]
  ·simp[my,h2 rfl]
@[go_sem] theorem Ua (p:Prop):my true p=p:=by simp[my]
@[go_sem] theorem Ro (p:Prop):my false p=True:=by simp[my]
@[go_sem] theorem Ub (a:Bool):my a True=True:=by simp[my]
def mz(v:V)(want:Bool):Option Bool:=
 match v with
 | .d (.bool b)=>some (b==want)
 | .bP []=>some false
 |_=>none
@[go_sem] theorem Uc (b:Bool):mz (.d (.bool b)) true=some b:=by simp[mz]
@[go_sem] theorem Rp (b:Bool):mz (.d (.bool b)) false=some (!b):=by simp[mz]
@[go_sem] theorem aak (want:Bool):mz (.bP []) want=some false:=rfl
@[go_sem] theorem Xc (c b want:Bool):mz (V.zR c (.d (.bool b))) want=some (c&&(b==want)):=by cases c<;>simp[mz,V.zR]
@[go_sem] theorem Ud (c b e want:Bool):mz (V.zR c (V.zR e (.d (.bool b)))) want=some (c&&e&&(b==want)):=by cases c<;>cases e<;>simp[mz,V.zR]
def kL(c:Bool)(x:Option fS):Option fS:=
 if c=true then(match x with|some (v,[],_)=>some (v,[],[])|_=>none)else some (.bP [],[],[])
@[congr] theorem Oa {c c':Bool} {x x':Option fS} (h:c=c') (h2:c'=true->x=x'):kL c x=kL c' x':=by
  subst h;cases c
  ·rfl
  ·simp[kL,h2 rfl]
def Xd(v:V)(rd:List Nat):Option fS:=some (v,[],rd)
@[go_sem] theorem ad9 (v:V) (rd:List Nat):(some (v,[],rd):Option fS)=Xd v rd:=by unfold Xd;exact Eq.trans rfl rfl
@[go_sem] theorem Ue (c:Bool) (v:V) (rd:List Nat):kL c (Xd v rd)=Xd (V.zR c v) []:=by cases c<;>rfl
@[go_sem] theorem Xe {v:V} {rd:List Nat} {K}:kq K (Xd v rd)=K v []:=propext Iff.rfl
@[go_sem] theorem Rq (c:Bool) (v:V) (rd:List Nat):kL c (some (v,[],rd))=some (V.zR c v,[],[]):=by cases c<;>rfl
@[go_sem] theorem Ob (x:Option fS):kL false x=some (.bP [],[],[]):=rfl
@[go_sem] theorem aal (b x:Bool):qz (.d (.bool b)) (V.zR b (.d (.bool x))) (.d (.bool false))=some (.d (.bool (b&&x))):=Be
@[go_sem] theorem adl (b x:Bool):qz (.d (.bool b)) (.d (.bool true)) (V.zR (!b) (.d (.bool x)))=some (.d (.bool (b||x))):=Be
@[go_sem] theorem aam (b x:Bool):qz (.d (.bool (!b))) (.d (.bool true)) (V.zR b (.d (.bool x)))=some (.d (.bool (!b||x))):=Be
@[go_sem] theorem Xf (x y:V):qz (.d (.bool true)) x y=some x:=rfl
@[go_sem] theorem Uf (x y:V):qz (.d (.bool false)) x y=some y:=rfl
@[reducible] def kM:Op->Bool
  | .move _| .assign _| .pick .. | .load .. | .binOp .. | .unOp .. | .nilCheck _| .convert .. | .makeInterface .. | .makeFunc .. | .fieldAddr .. | .indexAddr .. | .extract .. | .build .. | .index .. | .field .. | .lookup .. =>true
  | .call c=>match c.callee with
    | .builtin .len=>true
    | .builtin .min=>true
    | .builtin .max=>true
    |_=>false
  |_=>false
def Cb(P:Program)(f:V)(args:List V)(o:Nat->ad)(rs:List D):Prop:=
 match f with
 | .func (.func g) first cap=>match cc o (first++args++cap)with
   |some ds=>aW P g ds (.ret rs)/\D.jF rs=true
   |none=>False
 |_=>False
def Gh(P:Program)(f:V)(args:List V)(o:Nat->ad)(K:V->Prop)(c:Fix Bool (f,args,o,K)):Prop:=
 ∃rs,my c (Cb P f args o rs)/\K (V.zR c (iR rs))
def Cc(P:Program)(g:FuncId)(nx:Nat)(K X:V->(Nat->ad)->Nat->Prop)(args:Fix (List V) (K,X))(o:Fix (Nat->ad) (K,X)):Prop:=sY P g args o nx K X
def vl(P:Program)(g:FuncId)(o:Nat->ad)(nx:Nat)(K X:V->(Nat->ad)->Nat->Prop)(ds:Fix (List D) (o,nx,K,X))(all:Fix (List V) (o,nx,K,X)):Prop:=
 u5 P g ds o (put o (bw o (V.ba all))) (put o (rJ o (V.ba all))) (fun v o'=>K v o' (nx+1)) (fun v o'=>X v o' (nx+1))\/sY P g all o nx K X
def nr(P:Program)(g:FuncId)(K X:V->(Nat->ad)->Nat->Prop)(s:S)(all:List V)(ds:Fix (Option (List D)) (K,X,s,all)):Prop:=
 match ds with
 |some ds=>vl P g s.o s.nx K X ds all
 |none=>Cc P g s.nx K X all s.o
@[go_sem] theorem Rr {P:Program} {s:S} {ds:List D} {g:FuncId} {all:List V} {K X}:
 nr P g K X s all (some ds)=vl P g s.o s.nx K X ds all:=propext Iff.rfl
def ya(P:Program)(id:Nat)(K X:V->(Nat->ad)->Nat->Prop)(s:S)(args:Fix (List V) (K,X,s)):Prop:=dL P id args s.o s.nx K X
@[go_sem] theorem Rs {P:Program} {s:S} {g:FuncId} {all:List V} {K X}:nr P g K X s all none=Cc P g s.nx K X all s.o:=propext Iff.rfl
def tc(P:Program)(K X:V->(Nat->ad)->Nat->Prop)(s:S)(f:Fix V (K,X,s))(args:Fix (List V) (K,X,s)):Prop:=
 match f with
 | .func (.func g) first cap=>nr P g K X s (first++args++cap) (cc s.o (first++args++cap))
 | .j7 id=>ya P id K X s args
 |_=>False
@[go_sem] theorem Xg {P:Program} {s:S} {id:Nat} {args:List V} {K X}:tc P K X s (.j7 id) args=ya P id K X s args:=propext Iff.rfl
@[go_sem] theorem Ug {P:Program} {s:S} {g:FuncId} {first cap args:List V} {K X}:tc P K X s (.func (.func g) first cap) args=nr P g K X s (first++args++cap) (cc s.o (first++args++cap)):=propext Iff.rfl
def K2(P:Program)(g:FuncId)(o:Nat->ad)(nx:Nat)(K X:V->(Nat->ad)->Nat->Prop)(ds:Fix (List D) (o,nx,K,X))(all:Fix (List V) (o,nx,K,X)):Prop:=
 u5 P g ds o (put o (bw o (V.ba all))) (put o (rJ o (V.ba all))) (fun v o'=>K v o' (nx+1)) (fun v o'=>X v o' (nx+1))
def Cd(P:Program)(g:FuncId)(K X:V->(Nat->ad)->Nat->Prop)(s:S)(all:List V)(ds:Fix (Option (List D)) (K,X,s,all)):Prop:=
 match ds with
 |some ds=>K2 P g s.o s.nx K X ds all
 |none=>False
@[go_sem] theorem Uh {P:Program} {s:S} {ds:List D} {g:FuncId} {all:List V} {K X}:Cd P g K X s all (some ds)=K2 P g s.o s.nx K X ds all:=propext Iff.rfl
def K4(P:Program)(K X:V->(Nat->ad)->Nat->Prop)(s:S)(args:Fix (List V) (K,X,s))(r:Fix (Option (FuncId×V)) (K,X,s)):Prop:=
 match r with
 |some (g,y)=>Cd P g K X s (y::args) (cc s.o (y::args))
 |none=>False
@[go_sem] theorem Xh {P:Program} {s:S} {g:FuncId} {y:V} {args:List V} {K X}:K4 P K X s args (some (g,y))=Cd P g K X s (y::args) (cc s.o (y::args)):=propext Iff.rfl
def Ir(K:V->Prop)(v:Fix V K):Prop:=
 match v with
 | .d (.iface t y)=>K (.d (.iface t y))
 | .iface t y=>K (.iface t y)
 |_=>False
@[go_sem] theorem aea {t:TypeId} {y:D} {K}:Ir K (.d (.iface t y))=K (.d (.iface t y)):=propext Iff.rfl
@[go_sem] theorem aeb {t:TypeId} {y:V} {K}:Ir K (.iface t y)=K (.iface t y):=propext Iff.rfl
def Gi(K:V->List (Nat×ad)->Prop)(id:Nat)(l:Fix (List (D×D)) (K,id)):Prop:=FO id l fun v Δ _=>K v Δ
def K5(K:V->List (Nat×ad)->Prop)(str:Bool)(Xi:Fix (Option fS) (K,str))(left:Fix (Option (Nat×List (D×D))) (K,str)):Prop:=
 match left with
 |some (id,l)=>str=false/\Gi K id l
 |none=>kq K Xi
@[go_sem] theorem Xj {K} {Xi:Option fS} {id:Nat} {l:List (D×D)}:K5 K false Xi (some (id,l))=Gi K id l:=propext ⟨fun h=>h.2,fun h=>⟨rfl,h⟩⟩
@[go_sem] theorem Xk {K} {str:Bool} {Xi:Option fS}:K5 K str Xi none=kq K Xi:=propext Iff.rfl
def Ce(P:Program)(X:V->S->Prop)(K:S->Prop)(o:bT)(s:Fix S (X,K,o)):Prop:=
 match o.op with
 | .next x str=>K5 (fun v Δ=>K ⟨aX s.env o.dst v,put s.o Δ,s.nx+1⟩) str (oR s.o (s.ev x) str) (oS s.o (s.ev x))
 | .call c=>match c.callee with
   | .value f=>tc P (fun v o' nx'=>K ⟨aX s.env o.dst v,o',nx'⟩) (fun v o' nx'=>X v ⟨s.env,o',nx'⟩) s (s.ev f) (c.args.toList.map s.ev)
   | .invoke r m=>K4 P (fun v o' nx'=>K ⟨aX s.env o.dst v,o',nx'⟩) (fun v o' nx'=>X v ⟨s.env,o',nx'⟩) s (c.args.toList.map s.ev) (uS P m (s.ev r))
   |_=>kq (fun v Δ=>K ⟨aX s.env o.dst v,put s.o Δ,s.nx+1⟩) (gA P s s.nx o.op)
 | .panic x=>Ir (fun v=>X v s) (s.ev x)
 |op=>kq (fun v Δ=>K ⟨aX s.env o.dst v,put s.o Δ,s.nx+1⟩) (gA P s s.nx op)
@[reducible] def eJ:Op->Option (Operand×List Operand)
  | .call c=>match c.callee with
    | .value f=>some (f,c.args.toList)
    |_=>none
  |_=>none
def iG(A B:Prop)(t:Fix Bool (A,B)):Prop:=qE t A B
@[go_sem] theorem Ui (A B:Prop):iG A B true=A:=u6 A B
@[go_sem] theorem Rt (A B:Prop):iG A B false=B:=sZ A B
def Ew(P:Program)(X:V->S->Prop)(K:S->Prop)(o:bT)(s:S)(f:Operand)(args:List Operand)(c:Fix Bool (X,K,o,s,f,args)):Prop:=
 Gh P (s.ev f) (args.map s.ev) s.o (fun v=>K ⟨aX s.env o.dst v,s.o,s.nx+1⟩) c\/iG (Ce P X K o s) (K ⟨aX s.env o.dst (.bP []),s.o,s.nx+1⟩) c
def zS(P:Program)(X:V->S->Prop)(K:S->Prop)(o:bT)(s:S)(c:Fix (Option Bool) (X,K,o,s)):Prop:=
 match c with
 |none=>False
 |some c=>match eJ o.op with
  |some (f,args)=>Ew P X K o s f args c
  |none=>if kM o.op=true then kq (fun v _=>K ⟨aX s.env o.dst v,s.o,s.nx+1⟩) (kL c (gA P s s.nx o.op))
   else iG (Ce P X K o s) (K ⟨aX s.env o.dst (.bP []),s.o,s.nx+1⟩) c
def r8(P:Program)(X:V->S->Prop)(K:S->Prop)(l:List bT)(s:Fix S (X,K,l)):Prop:=
 match l with
 |[]=>K s
 |o::l=>match o.gd with
  |none=>Ce P X (r8 P X K l) o s
  |some (d,want)=>zS P X (r8 P X K l) o s (mz (s.env d) want)
def jH(want:Bool)(A B:Prop)(v:Fix V (A,B)):Prop:=
 match v with
 | .d (.bool b)=>qE (b==want) A B
 | .bP []=>B
 |_=>False
@[go_sem] theorem Ru (b:Bool) (A B:Prop):jH true A B (.d (.bool b))=iG A B b:=by simp[jH,iG]
@[go_sem] theorem Oc (b:Bool) (A B:Prop):jH false A B (.d (.bool b))=iG A B (!b):=by simp[jH,iG]
@[go_sem] theorem Xl (want:Bool) (A B:Prop):jH want A B (.bP [])=B:=propext Iff.rfl
@[go_sem] theorem Uj (c b want:Bool) (A B:Prop):jH want A B (V.zR c (.d (.bool b)))=iG A B (c&&(b==want)):=by cases c<;>simp[jH,V.zR,iG]
abbrev KD:=V->List (Nat×ad)->List Nat->Prop
abbrev XD:=V->List Nat->List Nat->Prop
def K6(P:Program)(g:FuncId)(K:KD)(X:XD)(o:Nat->ad)(rd:List Nat)(ds:Fix (List D) (K,X,o,rd))(all:Fix (List V) (K,X,o,rd)):Prop:=
 ta P g ds (fun v=>K v (bw o (V.ba all)) rd) (fun v=>K v [] rd) (fun v=>X v [] rd)
def r9(P:Program)(g:FuncId)(K:KD)(X:XD)(o:Nat->ad)(nx fr:Nat)(all:Fix (List V) (K,X,o,nx)):Prop:=iT P g all o nx fr K X
def l9(P:Program)(g:FuncId)(K:KD)(X:XD)(o:Nat->ad)(nx fr:Nat)(rd:List Nat)(ds:Fix (List D) (K,X,o,nx,rd))(all:Fix (List V) (K,X,o,nx,rd)):Prop:=K6 P g K X o rd ds all\/r9 P g K X o nx fr all
def sa(P:Program)(K:KD)(X:XD)(o:Nat->ad)(nx fr:Nat)(rd:List Nat)(g:FuncId)(all:List V)(ds:Fix (Option (List D)) (K,X,o,nx,rd,all)):Prop:=
 match ds with
 |some ds=>l9 P g K X o nx fr rd ds all
 |none=>r9 P g K X o nx fr all
@[go_sem] theorem Rv {P:Program} {o:Nat->ad} {nx fr:Nat} {rd:List Nat} {ds:List D} {g:FuncId} {all:List V} {K X}:sa P K X o nx fr rd g all (some ds)=l9 P g K X o nx fr rd ds all:=propext Iff.rfl
@[go_sem] theorem Rw {P:Program} {o:Nat->ad} {nx fr:Nat} {rd:List Nat} {g:FuncId} {all:List V} {K X}:sa P K X o nx fr rd g all none=r9 P g K X o nx fr all:=propext Iff.rfl
def Cf(P:Program)(K:KD)(X:XD)(o:Nat->ad)(nx fr:Nat)(rd:Fix (List Nat) (K,X,o,nx))(f:Fix V (K,X,o,nx))(args:Fix (List V) (K,X,o,nx)):Prop:=
 match f with
 | .func (.func g) first cap=>sa P K X o nx fr rd g (first++args++cap) (cc o (first++args++cap))
 |_=>False
@[go_sem] theorem Uk {P:Program} {o:Nat->ad} {nx fr:Nat} {rd:List Nat} {g:FuncId} {first cap args:List V} {K X}:Cf P K X o nx fr rd (.func (.func g) first cap) args=sa P K X o nx fr rd g (first++args++cap) (cc o (first++args++cap)):=propext Iff.rfl
def vm(K:KD)(rd:List Nat)(x:Fix (Option fS) (K,rd)):Prop:=match x with|some (v,Δ,_)=>K v Δ rd|none=>False
@[go_sem] theorem Ul {v:V} {Δ:List (Nat×ad)} {r rd:List Nat} {K}:vm K rd (some (v,Δ,r))=K v Δ rd:=propext Iff.rfl
@[go_sem] theorem Xm {v:V} {r rd:List Nat} {K}:vm K rd (Xd v r)=K v [] rd:=propext Iff.rfl
def Nh(P:Program)(K:KD)(X:XD)(fr:Nat)(o:bT)(s:Fix S (K,X,o)):Prop:=
 match eJ o.op with
 |some (f,args)=>Cf P K X s.o s.nx fr (oJ s o.op) (s.ev f) (args.map s.ev)
 |none=>vm K (oJ s o.op) (gA P s fr o.op)
def Is(P:Program)(KB:List Nat->Fp->Prop)(pr:List (List Nat))(l:List bT)(fr:Nat)(fp:Fix Fp (KB,l))(bad ws:Fix (List Nat) (KB,l))(s:Fix S (KB,l)):Prop:=ij P KB pr l fr s fp bad ws
def py(P:Program)(K:S->Fp->Prop)(KP:V->List Nat->Fp->Prop)(pr:List (List Nat))(l:List bT)(fr:Nat)(s:Fix S (K,KP,l))(fp:Fix Fp (K,KP,l)):Prop:=
 match l with
 |[]=>K s fp
 |o::l=>match o.gd with
  |none=>Nh P (fun v Δ rd=>py P K KP pr l (fr+1) ⟨aX s.env o.dst v,put s.o Δ,s.nx⟩ (fp++[(rd,Δ.map (·.1))]))
   (fun v ws rd=>Is P (KP v) pr l (fr+1) (fp++[(rd,[])]) [fp.length] (ws++fp.flatMap (·.2)) ⟨aX s.env o.dst .aa,s.o,s.nx⟩) fr o s
  |some (d,want)=>jH want (Nh P (fun v Δ rd=>py P K KP pr l (fr+1) ⟨aX s.env o.dst v,put s.o Δ,s.nx⟩ (fp++[(rd,Δ.map (·.1))]))
   (fun v ws rd=>Is P (KP v) pr l (fr+1) (fp++[(rd,[])]) [fp.length] (ws++fp.flatMap (·.2)) ⟨aX s.env o.dst .aa,s.o,s.nx⟩) fr o s)
   (py P K KP pr l (fr+1) ⟨aX s.env o.dst (.bP []),s.o,s.nx⟩ (fp++[([],[])])) (s.env d)
def Od(pr:List (List Nat))(nx:Nat)(Q:fH->S->Prop)(s:Fix S Q)(fp:Fix Fp Q):Prop:=Et pr nx Q s fp
def sb(l:List bT)(k:Fix Nat l):Option Nat:=match l with
 |[]=>none
 |o::l=>match o.gd,eJ o.op with
  |none,some (.tmp _,_)=>some k
  |_,_=>sb l (k+1)
def Rx(P:Program)(pr:List (List Nat))(l:List bT)(nx:Nat)(Q:fH->S->Prop)(s:Fix S (P,pr,l,nx,Q))(fp:Fix Fp (P,pr,l,nx,Q)):Prop:=eO pr fp=true/\r8 P (fun v s=>Q (.bJ v) s) (Q .normal) l ⟨s.env,s.o,nx⟩
def Oe(P:Program)(l:List bT)(pr:List (List Nat))(Q:fH->S->Prop)(s:S)(sp:Fix (Option Nat) (P,l,pr,Q,s)):Prop:=match sp with
 |none=>py P (Od pr (s.nx+l.length) Q) (B8 pr l s Q) pr l s.nx s []
 |some m=>m<=l.length/\Eu pr m=true/\py P (Rx P pr (l.drop m) (s.nx+m) Q) (fun _ _ _=>False) pr (l.take m) s.nx s []
def yc(A B:Prop)(v:Fix V (A,B)):Prop:=
 match v with
 | .d (.bool t)=>iG A B t
 | .fw=>A/\B
 |_=>False
@[go_sem] theorem Xn (A B:Prop):yc A B .fw=(A/\B):=propext Iff.rfl
@[go_sem] theorem Um (t:Bool) (A B:Prop):yc A B (.d (.bool t))=iG A B t:=propext Iff.rfl
def Gj{ι:Type}(b:Nat)(st:ι->S)(cC:ι->Prop)(pz:ι->Nat)(i:ι)(s:S):Prop:=∃j,cC j/\pz j<pz i/\bI b s (st j)
def vn(next:S->Prop)(Q:fH->S->Prop)(e:fH)(s:S):Prop:=match e with| .normal=>next s|e=>Q e s
section
variable {N:S->Prop}{Q:fH->S->Prop}{s:S}
@[go_sem ↓] theorem Of:vn N Q .normal s=N s:=propext Iff.rfl
@[go_sem ↓] theorem Un {id:Nat}:vn N Q (.exit id) s=Q (.exit id) s:=propext Iff.rfl
@[go_sem ↓] theorem Xo:vn N Q .ret s=Q .ret s:=propext Iff.rfl
@[go_sem ↓] theorem Xp {v:V}:vn N Q (.bJ v) s=Q (.bJ v) s:=propext Iff.rfl
end
def Gk(b:Nat)(body:(fH->S->Prop)->S->Prop)(Q:fH->S->Prop)(s:Fix S (body,Q)):Prop:=
 ∃ (ι:Type) (st:ι->S) (cC:ι->Prop) (pz:ι->Nat) (i0:ι),cC i0/\bI b s (st i0)/\∀i,cC i->body (vn (Gj b st cC pz i) Q) (st i)
theorem aG{ι:Type}{b:Nat}{body:(fH->S->Prop)->S->Prop}{Q:fH->S->Prop}{s:S}(st:ι->S)(cC:ι->Prop)(pz:ι->Nat)(i0:ι)(h0:cC i0)(hle:bI b s (st i0))
 (h:∀i,cC i->body (vn (Gj b st cC pz i) Q) (st i)):Gk b body Q s:=⟨ι,st,cC,pz,i0,h0,hle,h⟩
def tK(P:Program)(n b:Nat)(rd:Bool)(gop:Operand)(ps:List Nat)(x y:IC)(Q:fH->S->Prop)(s:Fix S (x,y,Q))(g:Fix V (x,y,Q)):Prop:=rd=false/\(BR P n g ps x y Q s\/∃s',bI b s s'/\BR P n (s'.ev gop) ps x y Q s')
def kN(P:Program)(n b:Nat)(rd:Bool)(c:IC)(Q:fH->S->Prop)(s:Fix S (c,Q)):Prop:=
 match c with
 | .skip=>Q .normal s
 | .ag l=>r8 P (fun v s=>Q (.bJ v) s) (Q .normal) l s
 | .dO l pr=>Oe P l pr Q s (sb l 0)
 | .seq x y=>kN P n b rd x (qq (fun s=>kN P n b rd y Q s) Q) s
 | .cond c x y=>yc (kN P n b rd x Q s) (kN P n b rd y Q s) (s.ev c)
 | .block id x=>kN P n b rd x (fC id Q) s
 | .loop x=>Gk b (fun Q s=>kN P n b rd x Q s) Q s
 | .exit id=>Q (.exit id) s
 | .ret=>Q .ret s
 | .Ji g ps x y=>tK P n b rd g ps x y Q s (s.ev g)
 | .bad=>False
section
variable {P:Program}{n b:Nat}{rd:Bool}
theorem Cg{s:S}{f:V}{args:List V}{K K':V->(Nat->ad)->Nat->Prop}{X X':V->(Nat->ad)->Nat->Prop}(hK:∀v o n,K v o n->K' v o n)(hX:∀v o n,X v o n->X' v o n)(h:tc P K X s f args):
 match(generalizing:=false) f with
  | .func (.func g) first cap=>match cc s.o (first++args++cap)with
    |some ds=>u5 P g ds s.o (put s.o (bw s.o (V.ba (first++args++cap)))) (put s.o (rJ s.o (V.ba (first++args++cap)))) (fun v o'=>K' v o' (s.nx+1)) (fun v o'=>X' v o' (s.nx+1))\/sY P g (first++args++cap) s.o s.nx K' X'
    |none=>sY P g (first++args++cap) s.o s.nx K' X'
  | .j7 id=>dL P id args s.o s.nx K' X'
  |_=>False:=by
 unfold tc nr ya at h
 split at h
 ·rename_i g first cap
  cases e7:cc s.o (first++args++cap)with
  |some ds=>
   simp only[e7]at h|-
   rcases h with⟨out,h1,h2|⟨h3,h2⟩|⟨h3,h2⟩⟩|h
   ·exact .inl ⟨out,h1, .inl (by cases out<;>first|exact hK _ _ _ h2|exact hX _ _ _ h2)⟩
   ·exact .inl ⟨out,h1, .inr (.inl ⟨h3,by cases out<;>first|exact hK _ _ _ h2|exact hX _ _ _ h2⟩)⟩
   ·exact .inl ⟨out,h1, .inr (.inr ⟨h3,by cases out<;>first|exact hK _ _ _ h2|exact hX _ _ _ h2⟩)⟩
   ·exact .inr (oK.mono hK hX h)
  |none=>
   simp only[e7]at h|-
   exact oK.mono hK hX h
 ·exact dL.mono hK hX h
 ·exact h.elim
theorem yd{x:Option fS}{K:V->List (Nat×ad)->Prop}(h:kq K x):∃v Δ rd,x=some (v,Δ,rd)/\K v Δ:=by
 unfold kq at h;split at h
 ·exact⟨_,_,_,rfl,h⟩
 ·exact h.elim
theorem zT{s:S}{o:bT}{X X':V->S->Prop}{K K':S->Prop}(hK:∀s,K s->K' s)(hX:∀v s,X v s->X' v s)(h:Ce P X K o s):Jp P s o X' K':=by
 unfold Ce at h
 unfold Jp
 have hs:∀ {op:Op},(kq (fun v Δ=>K ⟨aX s.env o.dst v,put s.o Δ,s.nx+1⟩) (gA P s s.nx op))->(match gA P s s.nx op with|some (v,Δ,_)=>K' ⟨aX s.env o.dst v,put s.o Δ,s.nx+1⟩|none=>False):=by
  intro op h
  obtain⟨v,Δ,rd,he,h⟩:=yd h
  simp only[he];exact hK _ h
 split at h
 ·rename_i x str hx
  rw[hx]
  unfold K5 at h
  simp only
  split at h
  ·rename_i id l hl
   simp only[hl]
   exact⟨h.1,fun e=>hK _ (h.2.1 e),fun i k x e=>hK _ (h.2.2 i k x e)⟩
  ·rename_i hl
   simp only[hl]
   exact hs (op:= .next x str) h
 ·rename_i c hc
  simp only[hc]
  split at h
  ·rename_i f hf
   simp only[hf]
   exact Cg (K:=fun v o' nx'=>K ⟨aX s.env o.dst v,o',nx'⟩) (X:=fun v o' nx'=>X v ⟨s.env,o',nx'⟩) (fun v o n h=>hK _ h) (fun v o n h=>hX _ _ h) h
  ·rename_i r m hf
   simp only[hf]
   unfold K4 at h
   split at h
   ·rename_i g y hr
    simp only[hr]
    unfold Cd at h
    split at h
    ·rename_i ds e7
     obtain⟨out,h1,h2⟩:=h
     refine .inl ⟨ds,e7,out,h1, ?_⟩
     rcases h2 with h2|⟨h3,h2⟩|⟨h3,h2⟩
     ·exact .inl (by cases out<;>first|exact hK _ h2|exact hX _ _ h2)
     ·exact .inr (.inl ⟨h3,by cases out<;>first|exact hK _ h2|exact hX _ _ h2⟩)
     ·exact .inr (.inr ⟨h3,by cases out<;>first|exact hK _ h2|exact hX _ _ h2⟩)
    ·exact h.elim
   ·exact h.elim
  ·rename_i hf hi
   rw[hc]at h
   obtain⟨Kw,args,ts⟩:=c
   cases Kw with
   |value f=>exact absurd rfl (hf f)
   |invoke r m=>exact absurd rfl (hi r m)
   |_=>exact hs h
 ·rename_i x hx
  simp only[hx]
  unfold Ir at h
  split at h
  ·rename_i hv;simp only[hv];exact hX _ _ h
  ·rename_i hv;simp only[hv];exact hX _ _ h
  ·exact h.elim
 ·rename_i tS hc hp
  have h2:=hs h
  cases hh:o.op<;>first
   |exact absurd hh (hc _)
   |exact absurd hh (hp _)
   |exact absurd hh (tS _ _)
   |(rw[hh]at h2;exact h2)
theorem K7{s:S}{o:bT}{X:V->S->Prop}{K:S->Prop}(hp:kM o.op=true){v:V}{Δ:List (Nat×ad)}{rd:List Nat}(he:gA P s s.nx o.op=some (v,Δ,rd))(h:K ⟨aX s.env o.dst v,put s.o Δ,s.nx+1⟩):Jp P s o X K:=by
 unfold Jp
 split
 ·rename_i c hc
  split
  ·rename_i f hf;rw[hc]at hp;simp[kM,hf]at hp
  ·rename_i r m hf;rw[hc]at hp;simp[kM,hf]at hp
  ·rw[he];exact h
 ·rename_i x hx;rw[hx]at hp;simp[kM]at hp
 ·rename_i x str hx;rw[hx]at hp;simp[kM]at hp
 ·rw[he];exact h
theorem sc{X X':V->S->Prop}{K K':S->Prop}(hK:∀s,K s->K' s)(hX:∀v s,X v s->X' v s):∀ (l:List bT) (s:S),r8 P X K l s->pv P X' K' l s
 |[],s,h=>hK _ h
 |o::l,s,h=>by
  have ih:=sc hK hX l
  unfold r8 at h
  unfold pv
  cases hg:o.gd with
  |none=>
   simp only[hg]at h|-
   exact zT ih hX h
  |some p=>
   obtain⟨d,want⟩:=p
   simp only[hg]at h|-
   unfold zS at h
   split at h
   ·exact h.elim
   ·rename_i c hc
    have Uo:∀ {A B:Prop},(c=true->A)->(c=false->B)->(match s.env d with
     | .d (.bool b)=>if b=want then A else B
     | .bP []=>B
     |_=>False):=by
     intro A B hA hB
     generalize s.env d=v at hc
     unfold mz at hc
     split at hc
     ·rename_i b
      injection hc with hc
      split
      ·rename_i e;exact hA (by rw[<- hc];simp[e])
      ·rename_i e;exact hB (by rw[<- hc];simp[e])
     ·injection hc with hc
      exact hB hc.symm
     ·cases hc
    split at h
    ·rename_i f args Jq
     rcases h with h|h
     case inr=>exact Uo (fun Ry=>zT ih hX (h.1 Ry)) (fun Up=>ih _ (h.2 Up))
     obtain⟨rs,h1,h2⟩:=h
     refine Uo (fun Ry=> ?_) (fun Up=> ?_)
     ·unfold eJ at Jq
      split at Jq
      ·rename_i c' xS
       split at Jq
       ·rename_i f' wW
        injection Jq with Jq;injection Jq with e1 e2;subst e1;subst e2
        have iz:=h1 Ry
        unfold Jp
        simp only[xS,wW]
        unfold Cb at iz
        split at iz
        ·rename_i g first cap wP
         simp only[wP]
         split at iz
         ·rename_i ds e7
          simp only[e7]
          refine .inl ⟨.ret rs,iz.1, .inr (.inl ⟨iz.2, ?_⟩)⟩
          refine ih _ ?_
          rw[Ry]at h2
          exact h2
         ·exact iz.elim
        ·exact iz.elim
       ·cases Jq
      ·cases Jq
     ·refine ih _ ?_
      rw[Up]at h2
      exact h2
    ·split at h
     ·rename_i hp
      obtain⟨v,Δ,rd,he,h⟩:=yd h
      refine Uo (fun Ry=> ?_) (fun Up=> ?_)
      ·rw[Ry]at he
       simp only[kL,if_true]at he
       split at he
       ·rename_i v' tO pQ
        injection he with he;injection he with e1 e2;subst e1
        exact K7 hp pQ (ih _ h)
       ·cases he
      ·rw[Up]at he
       simp only[kL]at he
       injection he with he;injection he with e1 e2;subst e1
       exact ih _ h
     ·exact Uo (fun Ry=>zT ih hX (h.1 Ry)) (fun Up=>ih _ (h.2 Up))
theorem zU{op:Op}{f:Operand}{args:List Operand}(h:eJ op=some (f,args)):∃c,op= .call c/\c.callee= .value f/\c.args.toList=args:=by
 unfold eJ at h
 split at h
 ·rename_i c
  split at h
  ·rename_i f' wW
   injection h with h;injection h with e1 e2;subst e1;subst e2
   exact⟨c,rfl,wW,rfl⟩
  ·cases h
 ·cases h
theorem It{x:Option fS}{rd:List Nat}{K:KD}(h:vm K rd x):∃v Δ r,x=some (v,Δ,r)/\K v Δ rd:=by
 unfold vm at h;split at h
 ·exact⟨_,_,_,rfl,h⟩
 ·exact h.elim
theorem iT.mono {P:Program}{g:FuncId}{args:List V}{o:Nat->ad}{nx fr:Nat}{K K':KD}{X X':XD}(hK:∀v Δ r,K v Δ r->K' v Δ r)(hX:∀v w r,X v w r->X' v w r)(h:iT P g args o nx fr K X):iT P g args o nx fr K' X':=by
 obtain⟨rd,Δ,h1,⟨rs,h2,h3⟩|⟨x,h2,h3⟩|⟨v,h2,h3⟩⟩:=h
 ·exact⟨rd,Δ,h1, .inl ⟨rs,h2,hK _ _ _ h3⟩⟩
 ·exact⟨rd,Δ,h1, .inr (.inl ⟨x,h2,hX _ _ _ h3⟩)⟩
 ·exact⟨rd,Δ,h1, .inr (.inr ⟨v,h2,hK _ _ _ h3⟩)⟩
theorem ta.mono {P:Program}{g:FuncId}{ds:List D}{Kf Kb KX Kf' Kb' KX':V->Prop}(h1:∀v,Kf v->Kf' v)(h2:∀v,Kb v->Kb' v)(h3:∀v,KX v->KX' v)(h:ta P g ds Kf Kb KX):ta P g ds Kf' Kb' KX':=by
 rcases h with⟨rs,a,b|⟨b,c⟩⟩|⟨x,a,b,c⟩|⟨v,a,b⟩
 ·exact .inl ⟨rs,a, .inl (h1 _ b)⟩
 ·exact .inl ⟨rs,a, .inr ⟨b,h2 _ c⟩⟩
 ·exact .inr (.inl ⟨x,a,b,h3 _ c⟩)
 ·exact .inr (.inr ⟨v,a,h1 _ b⟩)
theorem Gl{s:S}{fr:Nat}{o:bT}{K K':KD}{X X':XD}(hK:∀v Δ r,K v Δ r->K' v Δ r)(hX:∀v w r,X v w r->X' v w r)(h:Nh P K X fr o s):A1 P s fr o K' X':=by
 unfold Nh at h
 split at h
 ·rename_i f args Jq
  obtain⟨c,h1,h2,h3⟩:=zU Jq
  subst h3
  unfold A1
  simp only[h1,h2]
  unfold Cf sa at h
  split at h
  ·rename_i g first cap hf
   simp only[hf]
   split at h
   ·rename_i ds e7
    simp only[e7]
    refine h.elim (fun h=> .inl ?_) (fun h=> .inr (iT.mono hK hX h))
    refine ta.mono (fun v h=> ?_) (fun v h=> ?_) (fun v h=> ?_) h<;>(rw[h1]at h)
    ·exact hK _ _ _ h
    ·exact hK _ _ _ h
    ·exact hX _ _ _ h
   ·rename_i e7
    simp only[e7]
    exact iT.mono hK hX h
  ·exact h.elim
 ·rename_i Jq
  obtain⟨v,Δ,rd,he,h⟩:=It h
  unfold A1
  split
  ·rename_i c hc
   split
   ·rename_i f hf
    exact absurd Jq (by simp[eJ,hc,hf])
   ·simp only[he];exact hK _ _ _ h
  ·simp only[he];exact hK _ _ _ h
theorem Ch{s:S}{fr:Nat}{o:bT}{K K':KD}{X X':XD}(hK:∀v Δ r,K v Δ r->K' v Δ r)(hX:∀v w r,X v w r->X' v w r)(h:A1 P s fr o K X):A1 P s fr o K' X':=by
 unfold A1 at h|-
 split at h
 ·rename_i c hc
  rw[hc]at h|-
  split at h
  ·rename_i f hf
   (try simp only[hf])
   split at h
   ·rename_i wP
    (try simp only[wP])
    split at h
    ·exact h.elim (fun h=> .inl (ta.mono (fun v h=>hK _ _ _ h) (fun v h=>hK _ _ _ h) (fun v h=>hX _ _ _ h) h)) (fun h=> .inr (iT.mono hK hX h))
    ·exact iT.mono hK hX h
   ·exact h.elim
  ·rename_i hf
   split at h
   ·rename_i he
    (try simp only[he])
    exact hK _ _ _ h
   ·exact h.elim
 ·split at h
  ·rename_i he
   (try simp only[he]);exact hK _ _ _ h
  ·exact h.elim
theorem jm{KB KB':List Nat->Fp->Prop}{pr:List (List Nat)}(hK:∀l fp,KB l fp->KB' l fp):∀ (l:List bT) (fr:Nat) (s:S) (fp:Fp) (bad ws:List Nat),ij P KB pr l fr s fp bad ws->ij P KB' pr l fr s fp bad ws
 |[],_,_,_,_,_,h=>hK _ _ h
 |o::l,fr,s,fp,bad,ws,h=>by
  unfold ij at h|-
  split
  ·rename_i hb
   rw[if_pos hb]at h
   exact jm hK l _ _ _ _ _ h
  ·rename_i hb
   rw[if_neg hb]at h
   split at h
   ·exact Ch (fun v Δ r h=>jm hK l _ _ _ _ _ h) (fun _ _ _ h=>h) h
   ·split at h
    ·split at h
     ·rename_i e;simp only[e,if_true]
      exact Ch (fun v Δ r h=>jm hK l _ _ _ _ _ h) (fun _ _ _ h=>h) h
     ·rename_i e;simp only[e,if_false]
      exact jm hK l _ _ _ _ _ h
    ·exact jm hK l _ _ _ _ _ h
    ·exact h.elim
theorem jn{K K':S->Fp->Prop}{KP KP':V->List Nat->Fp->Prop}{pr:List (List Nat)}(hK:∀s fp,K s fp->K' s fp)(hP:∀v l fp,KP v l fp->KP' v l fp):∀ (l:List bT) (fr:Nat) (s:S) (fp:Fp),py P K KP pr l fr s fp->kJ P K' KP' pr l fr s fp
 |[],_,_,_,h=>hK _ _ h
 |o::l,fr,s,fp,h=>by
  have hB:∀v ws (rdl:List Nat),Is P (KP v) pr l (fr+1) (fp++[(rdl,[])]) [fp.length] (ws++fp.flatMap (·.2)) ⟨aX s.env o.dst .aa,s.o,s.nx⟩->
   ij P (KP' v) pr l (fr+1) ⟨aX s.env o.dst .aa,s.o,s.nx⟩ (fp++[(rdl,[])]) [fp.length] (ws++fp.flatMap (·.2)):=fun v ws rdl h=>jm (fun a b h=>hP v a b h) l _ _ _ _ _ h
  unfold py at h
  unfold kJ
  split at h
  ·rename_i hg
   (try simp only[hg])
   exact Gl (fun v Δ r h=>jn hK hP l _ _ _ h) hB h
  ·rename_i d want hg
   (try simp only[hg])
   generalize s.env d=v at h
   unfold jH at h
   split at h
   ·rename_i bb
    by_cases e:bb=want
    ·subst e
     simp only[if_true]
     exact Gl (fun v Δ r h=>jn hK hP l _ _ _ h) hB (h.1 aE)
    ·simp only[if_neg e]
     exact jn hK hP l _ _ _ (h.2 (by simpa using e))
   ·exact jn hK hP l _ _ _ h
   ·exact h.elim
theorem dZ:∀ (c:IC) (Q Q':fH->S->Prop) (s:S),(∀e s,Q e s->Q' e s)->kN P n b rd c Q s->tV P n b rd c Q' s
 | .skip,_,_,_,hQ,h=>hQ _ _ h
 | .ag l,_,_,_,hQ,h=>sc (fun s h=>hQ _ _ h) (fun v s h=>hQ _ _ h) l _ h
 | .dO l pr,_,_,_,hQ,h=>by
   unfold kN at h
   generalize sb l 0=sp at h
   cases sp with
   |none=>exact .inl (jn (fun s fp h=>⟨h.1,hQ _ _ h.2⟩) (fun v l fp h=>⟨h.1,hQ _ _ h.2⟩) l _ _ _ h)
   |some m=>exact .inr ⟨m,h.1,h.2.1,jn (fun s fp h=>⟨h.1,sc (fun s h=>hQ _ _ h) (fun v s h=>hQ _ _ h) _ _ h.2⟩) (fun v l fp h=>h.elim) _ _ _ _ h.2.2⟩
 | .seq x y,Q,Q',s,hQ,h=>dZ x _ _ s (fun e s h=>by
  unfold qq at h|-
  cases e with
  |normal=>exact dZ y _ _ s hQ h
  |_=>exact hQ _ _ h) h
 | .cond c x y,Q,Q',s,hQ,h=>by
   unfold kN yc iG at h
   unfold tV
   split at h
   ·rename_i t ht
    simp only[ht]
    exact⟨fun e=>dZ x _ _ s hQ (h.1 e),fun e=>dZ y _ _ s hQ (h.2 e)⟩
   ·rename_i ht
    simp only[ht]
    exact⟨dZ x _ _ s hQ h.1,dZ y _ _ s hQ h.2⟩
   ·exact h.elim
 | .block id x,Q,Q',s,hQ,h=>dZ x _ _ s (fun e s h=>by
  unfold fC at h|-
  cases e with
  |exit j=>
   simp only at h|-
   split
   ·rename_i e;rw[if_pos e]at h;exact hQ _ _ h
   ·rename_i e;rw[if_neg e]at h;exact hQ _ _ h
  |_=>exact hQ _ _ h) h
 | .loop x,Q,Q',s,hQ,h=>by
   obtain⟨ι,st,cC,pz,i0,h0,hle,h2⟩:=h
   refine⟨fun m s=>∃i,cC i/\pz i=m/\s=st i,⟨pz i0,st i0,hle,i0,h0,rfl,rfl⟩, ?_⟩
   rintro m s0 ⟨i,hg,rfl,rfl⟩
   refine dZ x _ _ _ (fun e s h=> ?_) (h2 i hg)
   cases e with
   |normal=>
    obtain⟨j,k1,k2,k3⟩:=h
    exact⟨pz j,st j,k2,k3,j,k1,rfl,rfl⟩
   |_=>exact hQ _ _ h
 | .exit id,_,_,_,hQ,h=>hQ _ _ h
 | .ret,_,_,_,hQ,h=>hQ _ _ h
 | .Ji g ps x y,_,_,_,hQ,h=>⟨h.1,match h.2 with
   | .inl h=>⟨_, .inl rfl,rZ hQ h⟩
   | .inr ⟨s',hle,h⟩=>⟨s', .inr hle,rZ hQ h⟩⟩
 | .bad,_,_,_,_,h=>h.elim
end
theorem aW.aH {P:Program}(bc:P.follows .mixedOrders=true){f:FuncId}{n:Nat}{ic:IC}{rs:List ResultVar}{ds:List D}{out:R}(hf:aQ P f n ic rs)(hl:ds.length<=n)
 (h:kN P n 0 false ic (zo P rs out) ⟨cw (ds.map .d),fun _=> .no,0⟩):aW P f ds out:=
 aW.vj bc hf hl (dZ ic _ _ _ (fun _ _ h=>h) h)
def se(P:Program)(rs:List ResultVar)(K X:V->(Nat->ad)->Nat->Prop)(e:fH)(s:S):Prop:=l0 P rs K X e s
theorem bQ.aH {P:Program}(bc:P.follows .mixedOrders=true){f:FuncId}{n:Nat}{ic:IC}{rs:List ResultVar}{args:List V}{o:Nat->ad}{nx:Nat}{K X:V->(Nat->ad)->Nat->Prop}(hf:aQ P f n ic rs)(hl:args.length<=n)
 (h:kN P n nx false ic (se P rs K X) ⟨cw args,o,nx⟩):bQ P f args o nx K X:=
 bQ.vj bc hf hl (dZ ic _ _ _ (fun _ _ h=>h) h)
section
variable {P:Program}{g:FuncId}{ds:List D}{o:Nat->ad}{nx:Nat}{K X:V->(Nat->ad)->Nat->Prop}{all:List V}
theorem aw{rs:List D}(h:aW P g ds (.ret rs))(hf:D.jF rs=true)(hk:K (iR rs) o (nx+1)):vl P g o nx K X ds all:= .inl ⟨.ret rs,h, .inr (.inl ⟨hf,hk⟩)⟩
theorem bH{rs:List D}(h:aW P g ds (.ret rs))(hk:K (iR rs) (put o (bw o (V.ba all))) (nx+1)):vl P g o nx K X ds all:= .inl ⟨.ret rs,h, .inl hk⟩
theorem bY(h:bQ P g all o nx K X):vl P g o nx K X ds all:= .inr (.inl h)
theorem dR{e:Nat->V}{ds:Option (List D)}(h:bQ P g all o nx K X):nr P g K X ⟨e,o,nx⟩ all ds:=by
 cases ds with
 |some ds=>exact(.inr (.inl h):vl P g o nx K X ds all)
 |none=>exact(.inl h:Cc P g nx K X all o)
theorem aU(h:bQ P g all o nx K X):Cc P g nx K X all o:= .inl h
variable {K:KD}{X:XD}{rd:List Nat}{fr:Nat}
theorem a8{rs:List D}(h:aW P g ds (.ret rs))(hf:D.jF rs=true)(hk:K (iR rs) [] rd):l9 P g K X o nx fr rd ds all:= .inl (.inl ⟨rs,h, .inr ⟨hf,hk⟩⟩)
theorem cy{rs:List D}(h:aW P g ds (.ret rs))(hk:K (iR rs) (bw o (V.ba all)) rd):l9 P g K X o nx fr rd ds all:= .inl (.inl ⟨rs,h, .inl hk⟩)
theorem ye{v:V}(h:Ng P g ds v)(hk:K v (bw o (V.ba all)) rd):l9 P g K X o nx fr rd ds all:= .inl (.inr (.inr ⟨v,h,hk⟩))
theorem Iu{v:V}{tO:List Nat}{Δ:List (Nat×ad)}(mC:tO.all (fun id=>decide (id<nx))=true)(h:AZ P g all tO o fr v Δ)(hk:K v Δ tO):l9 P g K X o nx fr rd ds all:= .inr ⟨tO,Δ,mC, .inr (.inr ⟨v,h,hk⟩)⟩
end
theorem gk{P:Program}{f:V}{args:List V}{o:Nat->ad}{K:V->Prop}{c:Bool}(rs:List D)(h:my c (Cb P f args o rs))(hk:K (V.zR c (iR rs))):Gh P f args o K c:=⟨rs,h,hk⟩
theorem ao{t:Bool}{A B:Prop}(h:t=true->A)(h2:t=false->B):iG A B t:=⟨h,h2⟩
theorem aO{pr:List (List Nat)}{nx:Nat}{Q:fH->S->Prop}{s:S}{fp:List (List Nat×List Nat)}(h:eO pr fp=true)(h2:Q .normal ⟨s.env,s.o,nx⟩):Od pr nx Q s fp:=⟨h,h2⟩
@[go_sem] theorem K8 (o:Nat->ad):put o []=o:=rfl
@[go_sem] theorem Xq (o:Nat->ad) (x:Nat×ad) (l:List (Nat×ad)):put o (x::l)=put (ay o x.1 x.2) l:=rfl
@[go_sem] theorem ab {α:Type} (f:Nat->α) (i:Nat) (x:α):ay f i x i=x:=aE
@[go_sem] theorem ae {α:Type} (f:Nat->α) (i j:Nat) (x:α) (h:j≠i):ay f i x j=f j:=by simp[h]
@[go_sem] theorem Og (v:V) (l:List V):cw (v::l) 0=v:=rfl
@[go_sem] theorem Oh (v:V) (l:List V) (i:Nat):cw (v::l) (i+1)=cw l i:=rfl
@[go_sem] theorem Rz (i:Nat):cw [] i= .bP []:=by simp[cw]
@[go_sem] theorem Xr {P:Program} {o:Nat->ad} {t:TypeId} {id off:Nat}:ni P o t (.ptr id off)=match o id with
 | .row cs=>match eQ P t cs off with
   |some v=>some (v,[],[id])
   |none=>none
 |_=>none:=by unfold ni;exact Eq.trans rfl rfl
@[go_sem] theorem aan {P:Program} {o:Nat->ad} {t:TypeId} {cs:List D} {off:Nat}:ni P o t (.pp cs off)=match eQ P t (cs.map .d) off with
 |some v=>some (v,[],[])
 |none=>none:=by unfold ni;exact Eq.trans rfl rfl
@[go_sem] theorem aao {P:Program} {o:Nat->ad} {t:TypeId} {id ep i sz off:Nat}:ni P o t (.pe id ep i sz off)=match o id with
 | .arr fR _ rr es=>if ep=fR/\sz=rr then match es[i]? with
  |some e=>match eQ P t (e.cells.map .d) off with
   |some v=>some (v,[],[id])
   |none=>none
  |none=>none
   else none
 |_=>none:=by unfold ni;exact Eq.trans rfl rfl
section
variable {P:Program}{o:Nat->ad}{t:TypeId}{op:BinOp}{mQ:Bool}
@[go_sem] theorem Xs {k:IntKind} {a b:Int}:ft P o op t mQ (.d (.int k a)) (.d (.int k b))=match BU op k a b with
 |some v=>one v
 |none=>rN P o op t mQ (.d (.int k a)) (.d (.int k b)):=by
  simp only[ft,zA,if_true]
  cases BU op k a b<;>rfl
@[go_sem] theorem Xt {a b:Bool} (h:n9 P t=true):ft P o .eql t mQ (.d (.bool a)) (.d (.bool b))=one (.d (.bool (a==b))):=by simp only[ft,zA,KK,h,if_true]
@[go_sem] theorem Xu {a b:Bool} (h:n9 P t=true):ft P o .neq t mQ (.d (.bool a)) (.d (.bool b))=one (.d (.bool (a !=b))):=by simp only[ft,zA,KK,h,if_true]
@[go_sem] theorem Xv {a b:List UInt8}:ft P o .eql t mQ (.d (.str a)) (.d (.str b))=one (.d (.bool (a==b))):=JV
@[go_sem] theorem Xw {a b:List UInt8}:ft P o .neq t mQ (.d (.str a)) (.d (.str b))=one (.d (.bool (a !=b))):=JV
@[go_sem] theorem Xx {a b:List D}:ft P o op t mQ (.d (.agg a)) (.d (.agg b))=rN P o op t mQ (.d (.agg a)) (.d (.agg b)):=JV
theorem NC{x:V}{y:V}(h:match y with| .d (.int _ _)| .d (.bool _)| .d (.str _)=>False|_=>True):zA P op t x y=none:=by
 unfold zA
 split<;>first|exact h.elim|rfl
@[go_sem] theorem Uq {x:V}:ft P o op t mQ x .aq=rN P o op t mQ x .aq:=JJ
@[go_sem] theorem Ur {x:V}:ft P o op t mQ x (.d .eP)=rN P o op t mQ x (.d .eP):=JJ
@[go_sem] theorem Us {x:V}:ft P o op t mQ x (.d .kT)=rN P o op t mQ x (.d .kT):=JJ
@[go_sem] theorem Ut {x:V}:ft P o op t mQ x (.d .cz)=rN P o op t mQ x (.d .cz):=JJ
@[go_sem] theorem Uu {x:V}:ft P o op t mQ x (.d .dH)=rN P o op t mQ x (.d .dH):=JJ
@[go_sem] theorem aap {b:Bool}:Hz .not (.d (.bool b))=some (.d (.bool !b)):=JX
@[go_sem] theorem aaq:Hz .not .fw=some .fw:=JX
@[go_sem] theorem aar {k:IntKind} {n:Int}:Hz .neg (.d (.int k n))=some (.d (.int k (k.wrap (-n)))):=JX
end
@[go_sem] theorem D.Xy (cs:List D):(D.agg cs).cells=cs:=rfl
@[go_sem] theorem D.Xz (k:IntKind) (n:Int):(D.int k n).cells=[.int k n]:=rfl
@[go_sem] theorem D.Uv (b:Bool):(D.bool b).cells=[.bool b]:=rfl
@[go_sem] theorem D.XA (b:List UInt8):(D.str b).cells=[.str b]:=rfl
@[go_sem] theorem D.aas (b:List D):(D.sl b).cells=[.sl b]:=rfl
@[go_sem] theorem D.aat (a b:List D):(D.mp a b).cells=[.mp a b]:=rfl
@[go_sem] theorem D.RA (t:TypeId) (x:D):(D.iface t x).cells=[.iface t x]:=rfl
@[go_sem] theorem D.Uw:D.eP.cells=[.eP]:=rfl
@[go_sem] theorem D.Ux:D.kT.cells=[.kT]:=rfl
@[go_sem] theorem D.Uy:D.cz.cells=[.cz]:=rfl
@[go_sem] theorem D.Uz:D.dH.cells=[.dH]:=rfl
attribute [go_sem] V.ofConst V.dq BU KK qA Ee xY oW hY hZ rV fZ l6 qB qC qD zB jk KL lY dN cc eQ y0 sO mq V.cells D.put bw V.ids V.ba iR D.jF D.flat R.flat
attribute [go_sem] DP List.take_succ_cons List.take_zero List.take_nil List.drop_zero List.drop_succ_cons List.drop_nil
attribute [go_sem] List.map_cons List.map_nil List.length_cons List.length_nil List.cons_append List.nil_append List.append_nil List.getElem?_cons_zero List.getElem?_cons_succ Option.bind_some Option.bind_none Option.map_some Option.map_none ad.ct ad.cq
section
variable {P:Program}{n b:Nat}{rd:Bool}{Q:fH->S->Prop}{s:S}
@[go_sem] theorem aau:kN P n b rd .skip Q s=Q .normal s:=propext Iff.rfl
@[go_sem] theorem adm {l:List bT}:kN P n b rd (.ag l) Q s=r8 P (fun v s=>Q (.bJ v) s) (Q .normal) l s:=propext Iff.rfl
@[go_sem] theorem adn {l:List bT} {pr:List (List Nat)}:kN P n b rd (.dO l pr) Q s=Oe P l pr Q s (sb l 0):=propext Iff.rfl
@[go_sem] theorem XB {l:List bT} {pr:List (List Nat)}:Oe P l pr Q s none=py P (Od pr (s.nx+l.length) Q) (B8 pr l s Q) pr l s.nx s []:=propext Iff.rfl
@[go_sem] theorem aav {k:Nat}:sb [] k=none:=rfl
@[go_sem] theorem aaw {d:Option Nat} {t:Nat} {args:Array Operand} {ts:Array TypeId} {l:List bT} {k:Nat}:sb (⟨d, .call ⟨.value (.tmp t),args,ts⟩,none⟩::l) k=some k:=rfl
@[go_sem] theorem ado {d:Option Nat} {op:Op} {g:Nat×Bool} {l:List bT} {k:Nat}:sb (⟨d,op,some g⟩::l) k=sb l (k+1):=rfl
@[go_sem] theorem aax {d:Option Nat} {f:Nat} {args:Array Operand} {ts:Array TypeId} {l:List bT} {k:Nat}:sb (⟨d, .call ⟨.value (.func f),args,ts⟩,none⟩::l) k=sb l (k+1):=rfl
@[go_sem] theorem adp {d:Option Nat} {op:Op} {l:List bT} {k:Nat} (h:eJ op=none):sb (⟨d,op,none⟩::l) k=sb l (k+1):=by rw[sb.eq_2];simp only[h]
@[go_sem] theorem adq {x y:IC}:kN P n b rd (.seq x y) Q s=kN P n b rd x (qq (fun s=>kN P n b rd y Q s) Q) s:=propext Iff.rfl
@[go_sem] theorem aay {c:Operand} {x y:IC}:kN P n b rd (.cond c x y) Q s=yc (kN P n b rd x Q s) (kN P n b rd y Q s) (s.ev c):=propext Iff.rfl
@[go_sem] theorem XC {id:Nat} {x:IC}:kN P n b rd (.block id x) Q s=kN P n b rd x (fC id Q) s:=propext Iff.rfl
@[go_sem] theorem aaz {x:IC}:kN P n b rd (.loop x) Q s=Gk b (fun Q s=>kN P n b rd x Q s) Q s:=propext Iff.rfl
@[go_sem] theorem aaA {id:Nat}:kN P n b rd (.exit id) Q s=Q (.exit id) s:=propext Iff.rfl
@[go_sem] theorem adr:kN P n b rd .ret Q s=Q .ret s:=propext Iff.rfl
@[go_sem] theorem ads {g:Operand} {ps:List Nat} {x y:IC}:kN P n b rd (.Ji g ps x y) Q s=tK P n b rd g ps x y Q s (s.ev g):=propext Iff.rfl
@[go_sem] theorem aaB {X:V->S->Prop} {K:S->Prop}:r8 P X K [] s=K s:=propext Iff.rfl
@[go_sem] theorem XE {X:V->S->Prop} {K:S->Prop} {d:Option Nat} {op:Op} {l:List bT}:r8 P X K (⟨d,op,none⟩::l) s=Ce P X (r8 P X K l) ⟨d,op,none⟩ s:=propext Iff.rfl
@[go_sem] theorem XF {X:V->S->Prop} {K:S->Prop} {d:Option Nat} {op:Op} {g:Nat} {w:Bool} {l:List bT}:r8 P X K (⟨d,op,some (g,w)⟩::l) s=zS P X (r8 P X K l) ⟨d,op,some (g,w)⟩ s (mz (s.env g) w):=propext Iff.rfl
variable {X:V->S->Prop}{K:S->Prop}{d:Option Nat}{op:Op}{g:Option (Nat×Bool)}{f:Operand}{args:Array Operand}{ts:Array TypeId}{c:Bool}
@[reducible] def XG:Op->Bool
  | .call c=>match c.callee with
    | .value _=>true
    | .invoke .. =>true
    |_=>false
  | .panic _=>true
  | .next .. =>true
  |_=>false
@[go_sem] theorem aec (h:XG op=false):Ce P X K ⟨d,op,g⟩ s=kq (fun v Δ=>K ⟨aX s.env d v,put s.o Δ,s.nx+1⟩) (gA P s s.nx op):=by
  unfold Ce
  cases op with
  |call c=>
   obtain⟨Kw,args,ts⟩:=c
   cases Kw with
   |value f=>simp[XG]at h
   |invoke r m=>simp[XG]at h
   |_=>rfl
  |panic x=>simp[XG]at h
  |next x str=>simp[XG]at h
  |_=>rfl
@[go_sem] theorem aaC {x:Operand} {str:Bool}:Ce P X K ⟨d, .next x str,g⟩ s=K5 (fun v Δ=>K ⟨aX s.env d v,put s.o Δ,s.nx+1⟩) str (oR s.o (s.ev x) str) (oS s.o (s.ev x)):=propext Iff.rfl
@[go_sem] theorem aaD:Ce P X K ⟨d, .call ⟨.value f,args,ts⟩,g⟩ s=tc P (fun v o' nx'=>K ⟨aX s.env d v,o',nx'⟩) (fun v o' nx'=>X v ⟨s.env,o',nx'⟩) s (s.ev f) (args.toList.map s.ev):=propext Iff.rfl
@[go_sem] theorem UA {m:String}:Ce P X K ⟨d, .call ⟨.invoke f m,args,ts⟩,g⟩ s=K4 P (fun v o' nx'=>K ⟨aX s.env d v,o',nx'⟩) (fun v o' nx'=>X v ⟨s.env,o',nx'⟩) s (args.toList.map s.ev) (uS P m (s.ev f)):=propext Iff.rfl
@[go_sem] theorem XH:Ce P X K ⟨d, .panic f,g⟩ s=Ir (fun v=>X v s) (s.ev f):=propext Iff.rfl
@[go_sem] theorem XI:zS P X K ⟨d, .call ⟨.value f,args,ts⟩,g⟩ s (some c)=Ew P X K ⟨d, .call ⟨.value f,args,ts⟩,g⟩ s f args.toList c:=propext Iff.rfl
theorem il{e:Nat->V}{ob:Nat->ad}{nx:Nat}(h:Gh P ((⟨e,ob,nx⟩:S).ev f) (args.toList.map (⟨e,ob,nx⟩:S).ev) ob (fun v=>K ⟨aX e d v,ob,nx+1⟩) c):Ew P X K ⟨d,op,g⟩ ⟨e,ob,nx⟩ f args.toList c:= .inl h
theorem Ci{s:S}{o:bT}{l:List Operand}(h:iG (Ce P X K o s) (K ⟨aX s.env o.dst (.bP []),s.o,s.nx+1⟩) c):Ew P X K o s f l c:= .inr h
@[go_sem] theorem XJ (h:kM op=true):zS P X K ⟨d,op,g⟩ s (some c)=kq (fun v _=>K ⟨aX s.env d v,s.o,s.nx+1⟩) (kL c (gA P s s.nx op)):=by
  have h2:eJ op=none:=by
   cases hc:eJ op with
   |none=>rfl
   |some x=>
    exfalso
    unfold eJ at hc
    split at hc
    ·split at hc
     ·rename_i hv;simp[kM,hv]at h
     ·cases hc
    ·cases hc
  simp only[zS,h2,h,if_true]
@[go_sem] theorem XK (h:kM op=false) (h2:eJ op=none):zS P X K ⟨d,op,g⟩ s (some c)=iG (Ce P X K ⟨d,op,g⟩ s) (K ⟨aX s.env d (.bP []),s.o,s.nx+1⟩) c:=by
  simp[zS,h2,h]
@[go_sem] theorem UB {l:List Operand}:Ew P X K ⟨d,op,g⟩ s f l false=K ⟨aX s.env d (.bP []),s.o,s.nx+1⟩:=by
  refine propext ⟨fun h=> ?_,fun h=> .inr ⟨(fun e=>by cases e),fun _=>h⟩⟩
  rcases h with⟨rs,_,h⟩|h
  ·exact h
  ·exact h.2 rfl
@[go_sem] theorem XL {l:List Operand} (hl:args.toList=l):Ew P X K ⟨d, .call ⟨.value f,args,ts⟩,g⟩ s f l true=Ce P X K ⟨d, .call ⟨.value f,args,ts⟩,g⟩ s:=by
  subst hl
  refine propext ⟨fun h=> ?_,fun h=> .inr ⟨fun _=>h,(fun e=>by cases e)⟩⟩
  rcases h with⟨rs,h1,h⟩|h
  ·have h1:=h1 rfl
   unfold Cb at h1
   unfold Ce tc nr
   simp only
   split at h1
   ·rename_i fv gg first cap hf
    simp only[hf]
    split at h1
    ·rename_i ds e7
     simp only[e7]
     exact .inl ⟨.ret rs,h1.1, .inr (.inl ⟨h1.2,h⟩)⟩
    ·exact h1.elim
   ·exact h1.elim
  ·exact h.1 rfl
variable {KV:KD}{XV:XD}
@[go_sem] theorem aaE {fr:Nat}:Nh P KV XV fr ⟨d, .call ⟨.value f,args,ts⟩,g⟩ s=Cf P KV XV s.o s.nx fr (oJ s (.call ⟨.value f,args,ts⟩)) (s.ev f) (args.toList.map s.ev):=propext Iff.rfl
@[go_sem] theorem aed {fr:Nat} (h2:eJ op=none):Nh P KV XV fr ⟨d,op,g⟩ s=vm KV (oJ s op) (gA P s fr op):=by simp[Nh,h2]
variable {KS:S->Prop}
@[go_sem ↓] theorem Oi:qq KS Q .normal s=KS s:=propext Iff.rfl
@[go_sem ↓] theorem UC {id:Nat}:qq KS Q (.exit id) s=Q (.exit id) s:=propext Iff.rfl
@[go_sem ↓] theorem XM:qq KS Q .ret s=Q .ret s:=propext Iff.rfl
@[go_sem ↓] theorem XN {v:V}:qq KS Q (.bJ v) s=Q (.bJ v) s:=propext Iff.rfl
@[go_sem ↓] theorem Ni {id:Nat}:fC id Q .normal s=Q .normal s:=propext Iff.rfl
@[go_sem ↓] theorem RB {id:Nat}:fC id Q (.exit id) s=Q .normal s:=by simp[fC]
@[go_sem ↓] theorem Oj {id j:Nat} (h:j≠id):fC id Q (.exit j) s=Q (.exit j) s:=by simp[fC,h]
@[go_sem ↓] theorem UD {id:Nat}:fC id Q .ret s=Q .ret s:=propext Iff.rfl
@[go_sem ↓] theorem UE {id:Nat} {v:V}:fC id Q (.bJ v) s=Q (.bJ v) s:=propext Iff.rfl
def Ol(out:R)(x:Option (List D)):Prop:=match x with|some ds=>out= .ret ds|none=>False
@[go_sem] theorem XO {out:R} {ds:List D}:Ol out (some ds)=(out= .ret ds):=propext Iff.rfl
def UF(out:R)(x:Option D):Prop:=match x with|some d=>out= .bJ d|none=>False
@[go_sem] theorem XP {out:R} {d:D}:UF out (some d)=(out= .bJ d):=propext Iff.rfl
def Om(out:R)(o:Nat->ad)(x:Option (List V)):Prop:=match x with|some vs=>Ol out (cc o vs)|none=>False
@[go_sem] theorem XQ {out:R} {o:Nat->ad} {vs:List V}:Om out o (some vs)=Ol out (cc o vs):=propext Iff.rfl
variable {rs:List ResultVar}{out:R}
@[go_sem ↓] theorem XR:zo P rs out .ret s=Om out s.o (lY P s rs):=propext Iff.rfl
@[go_sem ↓] theorem On:zo P rs out .normal s=Om out s.o (lY P s rs):=propext Iff.rfl
@[go_sem ↓] theorem XS {v:V}:zo P rs out (.bJ v) s=UF out (dN s.o v):=propext Iff.rfl
def Cj(K:V->(Nat->ad)->Nat->Prop)(o:Nat->ad)(nx:Nat)(x:Fix (Option (List V)) (K,o,nx)):Prop:=match x with
 |some [v]=>K v o nx
 |some vs=>K (.bP vs) o nx
 |none=>False
@[go_sem] theorem aaF {K:V->(Nat->ad)->Nat->Prop} {o:Nat->ad} {nx:Nat} {v:V}:Cj K o nx (some [v])=K v o nx:=propext Iff.rfl
@[go_sem] theorem aaG {K:V->(Nat->ad)->Nat->Prop} {o:Nat->ad} {nx:Nat}:Cj K o nx (some [])=K (.bP []) o nx:=propext Iff.rfl
@[go_sem] theorem aaH {K:V->(Nat->ad)->Nat->Prop} {o:Nat->ad} {nx:Nat} {v u:V} {l:List V}:Cj K o nx (some (v::u::l))=K (.bP (v::u::l)) o nx:=propext Iff.rfl
theorem Gm{K X:V->(Nat->ad)->Nat->Prop}:l0 P rs K X .ret s=Cj K s.o s.nx (lY P s rs):=by
 unfold l0 Cj
 cases lY P s rs with
 |none=>rfl
 |some l=>match l with
  |[]=>rfl
  |[_]=>rfl
  |_::_::_=>rfl
@[go_sem ↓] theorem aaI {K X:V->(Nat->ad)->Nat->Prop}:se P rs K X .ret s=Cj K s.o s.nx (lY P s rs):=Gm
@[go_sem ↓] theorem RC {K X:V->(Nat->ad)->Nat->Prop}:se P rs K X .normal s=Cj K s.o s.nx (lY P s rs):=(Gm (X:=X):l0 P rs K X .ret s=_)
@[go_sem ↓] theorem aaJ {K X:V->(Nat->ad)->Nat->Prop} {v:V}:se P rs K X (.bJ v) s=X v s.o s.nx:=propext Iff.rfl
variable {KE:S->Fp->Prop}{KP:V->List Nat->Fp->Prop}{pr:List (List Nat)}{fr:Nat}{fp:Fp}
@[go_sem] theorem aaK:py P KE KP pr [] fr s fp=KE s fp:=propext Iff.rfl
@[go_sem] theorem XT {d:Option Nat} {op:Op} {l:List bT}:py P KE KP pr (⟨d,op,none⟩::l) fr s fp=
 Nh P (fun v Δ rd=>py P KE KP pr l (fr+1) ⟨aX s.env d v,put s.o Δ,s.nx⟩ (fp++[(rd,Δ.map (·.1))]))
  (fun v ws rd=>Is P (KP v) pr l (fr+1) (fp++[(rd,[])]) [fp.length] (ws++fp.flatMap (·.2)) ⟨aX s.env d .aa,s.o,s.nx⟩) fr ⟨d,op,none⟩ s:=propext Iff.rfl
@[go_sem] theorem XU {d:Option Nat} {op:Op} {g:Nat} {w:Bool} {l:List bT}:py P KE KP pr (⟨d,op,some (g,w)⟩::l) fr s fp=
 jH w (Nh P (fun v Δ rd=>py P KE KP pr l (fr+1) ⟨aX s.env d v,put s.o Δ,s.nx⟩ (fp++[(rd,Δ.map (·.1))]))
  (fun v ws rd=>Is P (KP v) pr l (fr+1) (fp++[(rd,[])]) [fp.length] (ws++fp.flatMap (·.2)) ⟨aX s.env d .aa,s.o,s.nx⟩) fr ⟨d,op,some (g,w)⟩ s)
   (py P KE KP pr l (fr+1) ⟨aX s.env d (.bP []),s.o,s.nx⟩ (fp++[([],[])])) (s.env g):=propext Iff.rfl
end
attribute [go_sem] XG eJ kM gA one l7 aX S.ev Cb
theorem aj{ι:Type}{b:Nat}{st:ι->S}{cC:ι->Prop}{pz:ι->Nat}{i:ι}{s:S}(j:ι)(h1:cC j)(h2:pz j<pz i)(h3:bI b s (st j)):Gj b st cC pz i s:=⟨j,h1,h2,h3⟩
attribute [irreducible] Oe Rx kN r8 Ce zS Ew tc nr Cd K2 K4 Gh vl Cc kq Ir iG jH K6 l9 r9 sa Cf vm Nh py Is tK ya se Cj Od yc Gk Ol UF Om vn Gj
end
end Go.Proofs.YtlhemmpklhhgoaaGreat
