/-
  A PART OF THE PROOF. Conditions: none.
-/
import Derived.Test.YtnkamdiiakdkgaaGreatEl8
set_option linter.unusedSimpArgs false
set_option linter.unusedVariables false
namespace Go.Proofs.YtnkamdiiakdkgaaGreat
section
def tz(P:Program)(g:FuncId)(ds:List D)(Kf Kb KX:V->Prop):Prop:=
 (∃rs,aV P g ds (.ret rs)/\(Kf (jv rs)\/(D.jR rs=true/\Kb (jv rs))))\/(∃x,aV P g ds (.bE x)/\x.flat=true/\KX (.d x))\/(∃v,PVt P g ds v/\Kf v)
def je(P:Program)(g:FuncId)(args:List V)(o:Nat->ab)(nx fr:Nat)(K:V->List (Nat×ab)->List Nat->Prop)(KX:V->List Nat->List Nat->Prop):Prop:=
 ∃rd Δ,rd.all (fun id=>decide (id<nx))=true/\((∃rs,xF P g args rd o (.ret rs) Δ/\K (jv rs) Δ rd)\/(∃x,xF P g args rd o (.bE x) Δ/\KX (.d x) (Δ.map (·.1)) rd)\/(∃v,Ar P g args rd o fr v Δ/\K v Δ rd))
def BF(P:Program)(s:S)(fr:Nat)(o:bM)(K:V->List (Nat×ab)->List Nat->Prop)(KX:V->List Nat->List Nat->Prop):Prop:=
 match o.op with
 | .call c=>match c.callee with
   | .value f=>match s.ev f with
     | .func (.func g) first cap=>match b7 s.o (first++c.args.toList.map s.ev++cap)with
       |some ds=>tz P g ds (fun v=>K v (bT s.o (V.bg (first++c.args.toList.map s.ev++cap))) (oM s o.op)) (fun v=>K v [] (oM s o.op)) (fun v=>KX v [] (oM s o.op))\/je P g (first++c.args.toList.map s.ev++cap) s.o s.nx fr K KX
       |none=>je P g (first++c.args.toList.map s.ev++cap) s.o s.nx fr K KX
     |_=>False
   |_=>match gC P s fr o.op with
    |some (v,Δ,_)=>K v Δ (oM s o.op)
    |none=>False
 |op=>match gC P s fr op with
  |some (v,Δ,_)=>K v Δ (oM s o.op)
  |none=>False
abbrev Fp:=List (List Nat×List Nat)
def iu(P:Program)(KB:List Nat->Fp->Prop)(pr:List (List Nat)):List bM->Nat->S->Fp->List Nat->List Nat->Prop
 |[],_,_,fp,_,ws=>KB ws fp
 |o::l,fr,s,fp,bad,ws=>if(pr.getD fp.length []).any (fun j=>bad.contains j)=true then iu P KB pr l (fr+1) ⟨aY s.env o.dst .aa,s.o,s.nx⟩ (fp++[([],[])]) (bad++[fp.length]) ws
  else match o.gd with
  |none=>BF P s fr o (fun v Δ rd=>iu P KB pr l (fr+1) ⟨aY s.env o.dst v,put s.o Δ,s.nx⟩ (fp++[(rd,Δ.map (·.1))]) bad (ws++Δ.map (·.1))) (fun _ _ _=>False)
  |some (d,want)=>match s.env d with
   | .d (.bool b)=>if b=want then BF P s fr o (fun v Δ rd=>iu P KB pr l (fr+1) ⟨aY s.env o.dst v,put s.o Δ,s.nx⟩ (fp++[(rd,Δ.map (·.1))]) bad (ws++Δ.map (·.1))) (fun _ _ _=>False)
    else iu P KB pr l (fr+1) ⟨aY s.env o.dst (.bW []),s.o,s.nx⟩ (fp++[([],[])]) bad ws
   | .bW []=>iu P KB pr l (fr+1) ⟨aY s.env o.dst (.bW []),s.o,s.nx⟩ (fp++[([],[])]) bad ws
   |_=>False
def lh(P:Program)(K:S->Fp->Prop)(KP:V->List Nat->Fp->Prop)(pr:List (List Nat)):List bM->Nat->S->Fp->Prop
 |[],_,s,fp=>K s fp
 |o::l,fr,s,fp=>match o.gd with
  |none=>BF P s fr o (fun v Δ rd=>lh P K KP pr l (fr+1) ⟨aY s.env o.dst v,put s.o Δ,s.nx⟩ (fp++[(rd,Δ.map (·.1))]))
   (fun v ws rd=>iu P (KP v) pr l (fr+1) ⟨aY s.env o.dst .aa,s.o,s.nx⟩ (fp++[(rd,[])]) [fp.length] (ws++fp.flatMap (·.2)))
  |some (d,want)=>match s.env d with
   | .d (.bool b)=>if b=want then BF P s fr o (fun v Δ rd=>lh P K KP pr l (fr+1) ⟨aY s.env o.dst v,put s.o Δ,s.nx⟩ (fp++[(rd,Δ.map (·.1))]))
         (fun v ws rd=>iu P (KP v) pr l (fr+1) ⟨aY s.env o.dst .aa,s.o,s.nx⟩ (fp++[(rd,[])]) [fp.length] (ws++fp.flatMap (·.2)))
    else lh P K KP pr l (fr+1) ⟨aY s.env o.dst (.bW []),s.o,s.nx⟩ (fp++[([],[])])
   | .bW []=>lh P K KP pr l (fr+1) ⟨aY s.env o.dst (.bW []),s.o,s.nx⟩ (fp++[([],[])])
   |_=>False
def Fv(pr:List (List Nat))(nx:Nat)(Q:fG->S->Prop)(s:S)(fp:Fp):Prop:=ez pr fp=true/\Q .normal ⟨s.env,s.o,nx⟩
def dstsOf(l:List bM):List Nat:=l.filterMap (·.dst)
def CQ(pr:List (List Nat))(l:List bM)(s0:S)(Q:fG->S->Prop)(v:V)(wl:List Nat)(fp:Fp):Prop:=ez pr fp=true/\Q (.bE v) (uh (dstsOf l) wl l.length s0)
def nB:List bM->List fh->S->Nat->S
 |_,_,s,0=>s
 |o::l,x::xs,s,j+1=>nB l xs (xj o.dst x s) j
 |_,_,s,_=>s
def yK(cc:List fh):Fp:=cc.map fun x=>(xG x,kZ x)
section
variable {P:Program}{n b:Nat}
theorem CS{s:S}{fr:Nat}{o:bM}{K:V->List (Nat×ab)->List Nat->Prop}{KX:V->List Nat->List Nat->Prop}(h:BF P s fr o K KX):(∃v Δ rd,yG P s fr o.op v Δ rd/\K v Δ rd)\/(∃v ws rd,CI P s o.op v ws rd/\KX v ws rd):=by
 have hs:∀ {op:Op},o.op=op->(match gC P s fr op with|some (v,Δ,_)=>K v Δ (oM s o.op)|none=>False)->(∃v Δ rd,yG P s fr o.op v Δ rd/\K v Δ rd):=by
  intro op gW h
  split at h
  ·rename_i v Δ rd he;exact⟨v,Δ,_, .inl ⟨⟨rd,by rw[gW];exact he⟩,rfl⟩,h⟩
  ·exact h.elim
 unfold BF at h
 split at h
 ·rename_i c hc
  split at h
  ·rename_i f eX
   split at h
   ·rename_i g first cap hf
    split at h
    ·rename_i ds eZ
     rcases h with(⟨rs,hP,h|⟨m8,h⟩⟩|⟨x,hP,m8,h⟩|⟨v,hP,h⟩)|⟨rd,Δ,m5,⟨rs,hH,h⟩|⟨x,hH,h⟩|⟨v,hH,h⟩⟩
     ·exact .inl ⟨_,_,_, .inr ⟨c,f,g,first,cap,hc,eX,hf, .inl ⟨ds,rs,eZ,hP,rfl,rfl, .inl rfl⟩⟩,h⟩
     ·exact .inl ⟨_,_,_, .inr ⟨c,f,g,first,cap,hc,eX,hf, .inl ⟨ds,rs,eZ,hP,rfl,rfl, .inr ⟨m8,rfl⟩⟩⟩,h⟩
     ·exact .inr ⟨_,_,_,⟨c,f,g,first,cap,hc,eX,hf, .inl ⟨ds,x,eZ,hP,m8,rfl,rfl,rfl⟩⟩,h⟩
     ·exact .inl ⟨_,_,_, .inr ⟨c,f,g,first,cap,hc,eX,hf, .inr (.inr (.inl ⟨ds,eZ,hP,rfl,rfl⟩))⟩,h⟩
     ·exact aak
     ·exact aan
     ·exact aal
    ·obtain⟨rd,Δ,m5,⟨rs,hH,h⟩|⟨x,hH,h⟩|⟨v,hH,h⟩⟩:=h
     ·exact aak
     ·exact aan
     ·exact aal
   ·exact h.elim
  ·rw[hc]at h;exact .inl (hs hc (by rw[hc];exact h))
 ·exact .inl (hs rfl h)
def Pu(P:Program)(KB:List Nat->Fp->Prop)(pr:List (List Nat))(l:List bM)(fr:Nat)(s:S)(fp:Fp)(bad ws:List Nat):Prop:=
    ∃cc:List fh,cc.length=l.length/\(∀j o x,l[j]? =some o->cc[j]? =some x->SB P (nB l cc s j) (fr+j) o x)/\
     (∀ (j:Nat),cc[j]? =some fh.dx->∃i∈pr.getD (fp.length+j) [],i∈bad\/∃j',j'<j/\i=fp.length+j'/\cc[j']? =some .dx)/\(∀x∈cc,x= .dx\/x.ok=true)/\
     ∃wl,KB wl (fp++yK cc)/\(∀id∈ws,id∈wl)/\∀x∈cc,∀id∈kZ x,id∈wl
theorem CT{KB:List Nat->Fp->Prop}{pr:List (List Nat)}:∀ (l:List bM) (fr:Nat) (s:S) (fp:Fp) (bad ws:List Nat),iu P KB pr l fr s fp bad ws->Pu P KB pr l fr s fp bad ws
 |[],fr,s,fp,bad,ws,h=>⟨[],rfl,fun j o x hj=>by simp at hj,fun j hj=>by simp at hj,fun x hx=>by simp at hx,ws,by simpa[yK,iu]using h,fun _ h=>h,fun x hx=>by simp at hx⟩
 |o::l,fr,s,fp,bad,ws,h=>by
  have step:∀ (x:fh) (Pv SE:List Nat),SB P s fr o x->iu P KB pr l (fr+1) (xj o.dst x s) (fp++[(xG x,kZ x)]) Pv SE->(x= .dx\/x.ok=true)->(x= .dx->∃i∈pr.getD fp.length [],i∈bad)->
   (∀i∈Pv,i∈bad\/(i=fp.length/\x= .dx))->(∀id∈ws,id∈SE)->(∀id∈kZ x,id∈SE)->
   Pu P KB pr (o::l) fr s fp bad ws:=by
   intro x Pv SE aW hr hbo Ay VA Pt hW
   obtain⟨cc,h1,h2,h3,h4,wl,h5,h6,h7⟩:=CT l (fr+1) _ _ Pv SE hr
   refine⟨x::cc,by simp[h1],fun j o' y hj hy=> ?_,fun j hj=> ?_,fun y hy=> ?_,wl,by simpa[yK]using h5,fun id aq=>h6 id (Pt id aq),fun y hy id aq=> ?_⟩
   ·cases j with
    |zero=>exact Lb
    |succ j=>
     have:=h2 j o' y m4 (by simpa using hy)
     exact Ve
   ·cases j with
    |zero=>
     simp at hj
     obtain⟨i,i1,i2⟩:=Ay hj
     exact⟨i,by simpa using i1, .inl i2⟩
    |succ j=>
     obtain⟨i,i1,i2⟩:=h3 j m4
     simp only[List.length_append,List.length_cons,List.length_nil]at i1 i2
     refine⟨i,by rw[show fp.length+(j+1)=fp.length+(0+1)+j by omega];exact i1, ?_⟩
     rcases i2 with i2|⟨j',j1,j2,j3⟩
     ·rcases VA i i2 with hb|⟨e1,e2⟩
      ·exact .inl hb
      ·exact .inr ⟨0,ag,ag,by simp[e2]⟩
     ·exact .inr ⟨j'+1,ag,ag,by simpa using j3⟩
   ·rcases List.mem_cons.1 hy with rfl|hy
    ·exact hbo
    ·exact h4 y hy
   ·rcases List.mem_cons.1 hy with rfl|hy
    ·exact h6 id (hW id aq)
    ·exact h7 y hy id aq
  simp only[iu]at h
  split at h
  ·rename_i hb
   obtain⟨j,hj1,Vp⟩:=List.any_eq_true.1 hb
   exact step .dx _ _ trivial h (.inl rfl) (fun _=>⟨j,hj1,by simpa using Vp⟩) (fun i hi=>by
    rcases List.mem_append.1 hi with hi|hi
    ·exact .inl hi
    ·exact .inr ⟨by simpa using hi,rfl⟩) (fun _ h=>h) (fun id aq=>by simp[kZ]at aq)
  ·have vH:dS s o.gd true->BF P s fr o (fun v Δ rd=>iu P KB pr l (fr+1) ⟨aY s.env o.dst v,put s.o Δ,s.nx⟩ (fp++[(rd,Δ.map (·.1))]) bad (ws++Δ.map (·.1))) (fun _ _ _=>False)->Pu P KB pr (o::l) fr s fp bad ws:=fun hg h=>by
    rcases CS h with⟨v,Δ,rd,iY,h⟩|⟨v,SE,rd,_,h⟩
    ·exact step (.val v Δ rd) bad (ws++Δ.map (·.1)) ⟨hg,iY⟩ h (.inr rfl) (fun h=>by cases h) (fun i hi=> .inl hi) (fun id aq=>List.mem_append.2 (.inl aq)) (fun id aq=>List.mem_append.2 (.inr aq))
    ·exact h.elim
   have skip:dS s o.gd false->iu P KB pr l (fr+1) ⟨aY s.env o.dst (.bW []),s.o,s.nx⟩ (fp++[([],[])]) bad ws->Pu P KB pr (o::l) fr s fp bad ws:=fun hg h=>
    step .skip bad ws hg h (.inr rfl) (fun h=>by cases h) (fun i hi=> .inl hi) (fun id aq=>aq) (fun id aq=>by simp[kZ]at aq)
   split at h
   ·rename_i hg;exact vH (by rw[hg];rfl) h
   ·rename_i d want hg
    split at h
    ·rename_i c hv
     split at h
     ·rename_i e;exact vH Gs h
     ·rename_i e;exact skip Gs h
    ·rename_i hv;exact skip (by rw[hg];simp[dS,hv]) h
    ·exact h.elim
def Mc(P:Program)(K:S->Fp->Prop)(KP:V->List Nat->Fp->Prop)(pr:List (List Nat))(l:List bM)(fr:Nat)(s:S)(fp:Fp):Prop:=
 ∃cc:List fh,cc.length=l.length/\(∀j o x,l[j]? =some o->cc[j]? =some x->SB P (nB l cc s j) (fr+j) o x)/\
  (((∀x∈cc,x.ok=true)/\K (nB l cc s l.length) (fp++yK cc))\/
   ∃v wl,(∀ (j:Nat) (v':V) (ws rd:List Nat),cc[j]? =some (fh.bE v' ws rd)->v'=v/\∀id∈ws,id∈wl)/\(∃x∈cc,x.ok=false)/\
    (∀ (j:Nat),cc[j]? =some fh.dx->∃i∈pr.getD (fp.length+j) [],∃j',i=fp.length+j'/\∃y,cc[j']? =some y/\y.ok=false)/\KP v wl (fp++yK cc)/\(∀x∈cc,∀id∈kZ x,id∈wl)/\∀id∈fp.flatMap (·.2),id∈wl)
theorem vI{K:S->Fp->Prop}{KP:V->List Nat->Fp->Prop}{pr:List (List Nat)}:∀ (l:List bM) (fr:Nat) (s:S) (fp:Fp),lh P K KP pr l fr s fp->Mc P K KP pr l fr s fp
 |[],fr,s,fp,h=>⟨[],rfl,fun j o x hj=>by simp at hj, .inl ⟨fun x hx=>by simp at hx,by simpa[nB,yK,lh]using h⟩⟩
 |o::l,fr,s,fp,h=>by
  have step:∀ (x:fh),x.ok=true->SB P s fr o x->lh P K KP pr l (fr+1) (xj o.dst x s) (fp++[(xG x,kZ x)])->Mc P K KP pr (o::l) fr s fp:=by
   intro x hxo aW hr
   obtain⟨cc,h1,h2,h3⟩:=vI l (fr+1) _ _ hr
   refine⟨x::cc,by simp[h1],fun j o' y hj hy=> ?_, ?_⟩
   ·cases j with
    |zero=>exact Lb
    |succ j=>
     have:=h2 j o' y m4 (by simpa using hy)
     exact Ve
   ·rcases h3 with⟨h3,h4⟩|⟨v,wl,g1,g2,g3,g4,g5,g6⟩
    ·left
     refine⟨fun y hy=> ?_,by simpa[nB,yK]using h4⟩
     rcases List.mem_cons.1 hy with rfl|hy
     ·exact hxo
     ·exact h3 y hy
    ·right
     refine⟨v,wl,fun j v' ws rd hj=> ?_, ?_,fun j hj=> ?_,by simpa[yK]using g4,fun y hy id aq=> ?_,fun id aq=>g6 id (by simp only[List.flatMap_append,List.mem_append];exact .inl aq)⟩
     ·cases j with
      |zero=>simp at hj;rw[hj]at hxo;cases hxo
      |succ j=>exact g1 j v' ws rd m4
     ·obtain⟨y,y1,y2⟩:=g2;exact⟨y,by simp[y1],y2⟩
     ·cases j with
      |zero=>simp at hj;rw[hj]at hxo;cases hxo
      |succ j=>
       obtain⟨i,i1,j',i2,y,i3,i4⟩:=g3 j m4
       simp only[List.length_append,List.length_cons,List.length_nil]at i1 i2
       exact⟨i,by rw[show fp.length+(j+1)=fp.length+(0+1)+j by omega];exact i1,j'+1,ag,y,by simpa using i3,i4⟩
     ·rcases List.mem_cons.1 hy with rfl|hy
      ·exact g6 id (by simp only[List.flatMap_append,List.mem_append];exact .inr (by simpa using aq))
      ·exact g5 y hy id aq
  have bE:∀ (v:V) (ws rd:List Nat),SB P s fr o (.bE v ws rd)->iu P (KP v) pr l (fr+1) ⟨aY s.env o.dst .aa,s.o,s.nx⟩ (fp++[(rd,[])]) [fp.length] (ws++fp.flatMap (·.2))->Mc P K KP pr (o::l) fr s fp:=by
   intro v ws rd aW hr
   obtain⟨cc,h1,h2,h3,h4,wl,h5,h6,h7⟩:=CT l (fr+1) _ _ _ _ hr
   refine⟨fh.bE v ws rd::cc,by simp[h1],fun j o' y hj hy=> ?_, .inr ⟨v,wl,fun j v' SE uz hj=> ?_,⟨fh.bE v ws rd,aI,rfl⟩,fun j hj=> ?_,by simpa[yK,xG,kZ]using h5,fun y hy id aq=> ?_,fun id aq=>h6 id (List.mem_append.2 (.inr aq))⟩⟩
   ·cases j with
    |zero=>exact Lb
    |succ j=>
     have:=h2 j o' y m4 (by simpa using hy)
     exact Ve
   ·cases j with
    |zero=>simp at hj;obtain⟨rfl,rfl,rfl⟩:=hj;exact⟨rfl,fun id aq=>h6 id (List.mem_append.2 (.inl aq))⟩
    |succ j=>
     have hm:=List.mem_of_getElem? (show cc[j]? =some (.bE v' SE uz) by simpa using hj)
     rcases h4 _ hm with h|h<;>cases h
   ·cases j with
    |zero=>simp at hj
    |succ j=>
     obtain⟨i,i1,i2⟩:=h3 j m4
     simp only[List.length_append,List.length_cons,List.length_nil]at i1 i2
     refine⟨i,by rw[show fp.length+(j+1)=fp.length+(0+1)+j by omega];exact i1, ?_⟩
     rcases i2 with i2|⟨j',j1,j2,j3⟩
     ·exact⟨0,by simpa using i2,_,rfl,rfl⟩
     ·exact⟨j'+1,ag, .dx,by simpa using j3,rfl⟩
   ·rcases List.mem_cons.1 hy with rfl|hy
    ·simp[kZ]at aq
    ·exact h7 y hy id aq
  have vH:dS s o.gd true->BF P s fr o (fun v Δ rd=>lh P K KP pr l (fr+1) ⟨aY s.env o.dst v,put s.o Δ,s.nx⟩ (fp++[(rd,Δ.map (·.1))]))
   (fun v ws rd=>iu P (KP v) pr l (fr+1) ⟨aY s.env o.dst .aa,s.o,s.nx⟩ (fp++[(rd,[])]) [fp.length] (ws++fp.flatMap (·.2)))->Mc P K KP pr (o::l) fr s fp:=fun hg h=>by
   rcases CS h with⟨v,Δ,rd,iY,h⟩|⟨v,ws,rd,iY,h⟩
   ·exact step (.val v Δ rd) rfl ⟨hg,iY⟩ h
   ·exact bE v ws rd ⟨hg,iY⟩ h
  have skip:dS s o.gd false->lh P K KP pr l (fr+1) ⟨aY s.env o.dst (.bW []),s.o,s.nx⟩ (fp++[([],[])])->Mc P K KP pr (o::l) fr s fp:=fun hg h=>step .skip rfl hg h
  simp only[lh]at h
  split at h
  ·rename_i hg;exact vH (by rw[hg];rfl) h
  ·rename_i d want hg
   split at h
   ·rename_i c hv
    split at h
    ·rename_i e;exact vH Gs h
    ·rename_i e;exact skip Gs h
   ·rename_i hv;exact skip (by rw[hg];simp[dS,hv]) h
   ·exact h.elim
end
end
section
def nC(env:Nat->V):List Nat->List V->Nat->V
 |t::ps,v::vs=>nC (ax env t v) ps vs
 |_,_=>env
def Az(pr:List (List Nat))(m:Nat):Bool:=(List.range pr.length).all fun k=>Nat.blt k m||Nat.beq ((eB pr []).getD k 0) (2^k - 1)
def Md(P:Program)(l:List bM)(pr:List (List Nat))(Q:fG->S->Prop)(s:S):Prop:=
 ∃m,m<=l.length/\Az pr m=true/\lh P (fun s' fp=>ez pr fp=true/\pA P (fun v s=>Q (.bE v) s) (Q .normal) (l.drop m) ⟨s'.env,s'.o,s.nx+m⟩) (fun _ _ _=>False) pr (l.take m) s.nx s []
def uH(P:Program)(n b:Nat)(rd:Bool):IC->(fG->S->Prop)->S->Prop
 | .skip,Q,s=>Q .normal s
 | .ah l,Q,s=>pA P (fun v s=>Q (.bE v) s) (Q .normal) l s
 | .dw l pr,Q,s=>lh P (Fv pr (s.nx+l.length) Q) (CQ pr l s Q) pr l s.nx s []\/Md P l pr Q s
 | .seq x y,Q,s=>uH P n b rd x (qA (uH P n b rd y Q) Q) s
 | .cond c x y,Q,s=>match s.ev c with
   | .d (.bool t)=>qL t (uH P n b rd x Q s) (uH P n b rd y Q s)
   | .ft=>uH P n b rd x Q s/\uH P n b rd y Q s
   |_=>False
 | .block id x,Q,s=>uH P n b rd x (fw id Q) s
 | .loop x,Q,s=>L6 b (uH P n b rd x) Q s
 | .exit id,Q,s=>Q (.exit id) s
 | .ret,Q,s=>Q .ret s
 | .IJ g ps x y,Q,s=>rd=false/\abD P n b g ps x y Q s
 | .bad,_,_=>False
section
variable {P:Program}{n b:Nat}{rd:Bool}
theorem vJ:∀ (l:List bM) (cc:List fh) (s:S) (k:Nat) (o:bM) (x:fh),l[k]? =some o->cc[k]? =some x->nB l cc s (k+1)=xj o.dst x (nB l cc s k)
 |[],_,_,_,_,_,h,_=>by simp at h
 |o::l,[],_,_,_,_,_,h=>by simp at h
 |o::l,x::xs,s,0,o',x',h,h'=>by simp at h h';subst h;subst h';cases l<;>cases xs<;>rfl
 |o::l,x::xs,s,k+1,o',x',h,h'=>by
  simp only[nB]
  exact vJ l xs _ k o' x' (by simpa using h) (by simpa using h')
theorem yL(l:List bM)(cc:List fh)(s:S)(hl:cc.length=l.length):∀k,k<=l.length->eD (bU l) (fun i=>cc.getD i default) (fun _=>true) s k=nB l cc s k:=by
 intro k
 induction k with
 |zero=>intro _;cases l<;>cases cc<;>rfl
 |succ k ih=>
  intro hk
  have h1:l[k]? =some (bU l k):=by simp[bU,List.getD_eq_getElem?_getD,List.getElem?_eq_getElem (by omega:k<l.length)]
  have h2:cc[k]? =some (cc.getD k default):=by simp[List.getD_eq_getElem?_getD,List.getElem?_eq_getElem (by omega:k<cc.length)]
  simp only[eD,if_true,ih (by omega)]
  rw[vJ l cc s k _ _ h1 h2]
theorem nD{ops:Array Oper}:∀ (l:List Oper) (l':List bM),lA n ops l=some l'->l'.length=l.length
 |[],_,h=>by simp[lA]at h;subst h;rfl
 |o::l,l',h=>by
  simp only[lA]at h
  split at h
  ·rename_i hx;injection h with h;subst h;simp[nD l _ hx]
  ·cases h
theorem Jo(bd:P.follows .mixedOrders=true){id:Nat}{ops:Array Oper}{l:List bM}{Q Q':fG->S->Prop}{s:S}(hQ:∀e s,Q e s->Q' e s)(su:lA n ops ops.toList=some l)(ht:zO l (gH ops)=true)
 (hp:Vg (gH ops)=true) (h:lh P (Fv (gH ops) (s.nx+l.length) Q) (CQ (gH ops) l s Q) (gH ops) l s.nx s []):jn P n b rd (.region id ops true) Q' s:=by
 intro M cA H0 w0 cx φ a w ro k hs
 obtain⟨cc,hl,aW,gO⟩:=vI l _ _ _ h
 have hlen:l.length=ops.size:=by rw[nD _ _ su];simp
 have uE:∀k,k<ops.size->(gH ops).getD k []=bA ops k:=by
  intro k hk;simp[gH,List.getD_eq_getElem?_getD,List.getElem?_map,List.getElem?_range hk]
 have xi:(gH ops).length=ops.size:=by simp[gH]
 have iY:=yL l cc s hl
 have EK:∀k,k<ops.size->l[k]? =some (bU l k):=fun k hk=>by simp[bU,List.getD_eq_getElem?_getD,List.getElem?_eq_getElem (by omega:k<l.length)]
 have xg:∀k,k<ops.size->cc[k]? =some (cc.getD k default):=fun k hk=>by simp[List.getD_eq_getElem?_getD,List.getElem?_eq_getElem (by omega:k<cc.length)]
 have qw:∀k,k<ops.size->cc.getD k default∈cc:=fun k hk=>List.mem_of_getElem? (xg k hk)
 have O8:∀k,k<ops.size->(yK cc)[k]? =some (xG (cc.getD k default),kZ (cc.getD k default)):=fun k hk=>by
  simp only[yK,List.getElem?_map,xg k hk,Option.map_some]
 have VB:(yK cc).length=ops.size:=by simp[yK,hl,hlen]
 simp only[List.nil_append,List.length_nil,Nat.zero_add]at gO
 have vi:ez (gH ops) (yK cc)=true:=by
  rcases gO with⟨_,h⟩|⟨v,wl,_,_,_,h,_⟩
  ·exact h.1
  ·exact h.1
 have Jp:∀k,k<ops.size->∀j∈bA ops k,j<k:=fun k hk j hj=>by
  have:=List.all_eq_true.1 hp k (by simpa[xi]using hk)
  rw[uE k hk]at this
  simpa using List.all_eq_true.1 this j hj
 have Me:∀k,k<(gH ops).length->∀j∈(gH ops).getD k [],j<k:=fun k hk j hj=>by
  rw[xi]at hk;rw[uE k hk]at hj;exact Jp k hk j hj
 let po:Nat->Nat->Prop:=fun k j=>((eB (gH ops) []).getD k 0).testBit j=true
 have G6:∀E:Nat->Bool,(∀k,k<ops.size->E k=true->∀j∈bA ops k,E j=true)->∀k,k<ops.size->(∀j∈bA ops k,E j=true)->∀j,po k j->E j=true:=fun E hE k hk hj j hb=>
  qd Me (fun k hk jl j hj=>by rw[xi]at hk;rw[uE k hk]at hj;exact hE k hk jl j hj) k (by rw[xi];exact hk) (by rw[uE k hk];exact hj) j hb
 have CO:∀k,k<ops.size->∀j,po k j->j<k:=fun k hk j hb=>BW Me k (by rw[xi];exact hk) j hb
 have AA:∀i j,i<j->j<ops.size-> ¬po j i->Compat (bU l) (fun i=>cc.getD i default) (fun i=>xG (cc.getD i default)) i j:=by
  intro i j Pw hj hn
  have OR:=List.all_eq_true.1 (List.all_eq_true.1 ht j (by simpa[hlen]using hj)) i (by simpa using Pw)
  have xZ:=List.all_eq_true.1 (List.all_eq_true.1 vi j (by simpa[VB]using hj)) i (by simpa using Pw)
  have hnc:((eB (gH ops) []).getD j 0).testBit i=false:=by simpa[po]using hn
  rw[hnc,Bool.false_or]at OR xZ
  simp only[Bool.and_eq_true]at OR xZ
  have gi:=O8 i ag
  have gj:=O8 j hj
  simp only[List.getD_eq_getElem?_getD (l:=yK cc),gi,gj,Option.getD_some]at xZ
  have dj:∀ {xs ys:List Nat},kX xs ys=true->∀x∈xs,x∉ys:=fun h x hx=>by simpa using List.all_eq_true.1 h x hx
  have fo:∀ {x y:bM},rS x y=true->∀d,x.dst=some d->d∉fb y:=fun h d hd=>by simpa[rS,hd]using h
  exact aau
 have SF:∀i,i<ops.size->SB P (eD (bU l) (fun i=>cc.getD i default) (fun _=>true) s i) (s.nx+i) (bU l i) (cc.getD i default):=fun i hi=>by
  rw[iY i (by omega)];exact aW i _ _ (EK i hi) (xg i hi)
 have cQ:∀i,i<ops.size->∀t,(bU l i).dst=some t->(dstsOf l).contains t=true:=fun i hi t ht=>by
  simp only[List.contains_iff_mem,dstsOf,List.mem_filterMap]
  exact⟨bU l i,List.mem_of_getElem? (EK i hi),ht⟩
 rcases gO with⟨bc,gO⟩|⟨v,wl,q1,q2,q3,q4,q5,q6⟩
 ·refine CN (ac:=fun i=>cc.getD i default) (dl:=dstsOf l) (wl:=(cc.flatMap kZ)) bd su Jp hs SF (fun i hi hb=> ?_) G6 CO AA cQ (fun i hi id aq=> ?_) (fun i v ws uz hi hb=> ?_) (fun _ φ a w jr=> ?_) (fun i v ws uz hi hb=> ?_)
  ·have:=bc _ (qw i hi);rw[hb]at this;cases this
  ·simp only[List.contains_iff_mem,List.mem_flatMap];exact⟨_,qw i hi,aq⟩
  ·have:=bc _ (qw i hi);rw[hb]at this;cases this
  ·rw[iY ops.size (by omega), <- hlen]at jr
   exact⟨.normal,_,φ,hQ _ _ gO.2,jr,trivial⟩
  ·have:=bc _ (qw i hi);rw[hb]at this;cases this
 ·refine CN (ac:=fun i=>cc.getD i default) (dl:=dstsOf l) (wl:=wl) bd su Jp hs SF (fun i hi hb=> ?_) G6 CO AA cQ (fun i hi id aq=> ?_) (fun i v' ws uz hi hb=> ?_) (fun bc φ a w jr=> ?_) (fun i v' ws uz hi hb φ a w val jr hd=> ?_)
  ·obtain⟨j,j1,j',e,y,j3,j4⟩:=q3 i Lf
   rw[uE i hi,e]at j1
   refine⟨j',j1, ?_⟩
   simp only[List.getD_eq_getElem?_getD,j3,Option.getD_some,j4]
  ·simp only[List.contains_iff_mem];exact q5 _ (qw i hi) id aq
  ·intro id aq
   simp only[List.contains_iff_mem]
   exact(q1 i v' ws uz Lf).2 id aq
  ·obtain⟨x,x1,x2⟩:=q2
   obtain⟨i,EA,Vi⟩:=List.getElem_of_mem x1
   have hi:i<ops.size:=ag
   have:=bc i hi
   have e:cc.getD i default=x:=by simp[List.getD_eq_getElem?_getD,List.getElem?_eq_getElem EA,Vi]
   rw[e,x2]at this;cases this
  ·have e:=(q1 i v' ws uz Lf).1
   subst e
   rw[<- hlen]at jr hd
   exact⟨.bE v',_,φ,hQ _ _ q4.2,jr,val,rfl,hd⟩
theorem yM{ops:Array Oper}:∀ (l:List Oper) (l':List bM) (m:Nat),lA n ops l=some l'->lA n ops (l.drop m)=some (l'.drop m)
 |l,l',0,h=>h
 |[],l',m+1,h=>by simp[lA]at h;subst h;simp[lA]
 |o::l,l',m+1,h=>by
  simp only[lA]at h
  split at h
  ·rename_i x xs hx IV
   injection h with h;subst h
   exact yM l xs m IV
  ·cases h
theorem Mf{l:List bM}{ac:Nat->fh}{E:Nat->Bool}{s:S}{m:Nat}:∀k,k<=m->eD (bU l) ac E s k=eD (bU (l.take m)) ac E s k:=by
 intro k
 induction k with
 |zero=>intro _;rfl
 |succ k ih=>
  intro hk
  have:bU l k=bU (l.take m) k:=by simp[bU,List.getD_eq_getElem?_getD,List.getElem?_take,(by omega:k<m)]
  simp only[eD,ih (by omega),this]
theorem Fx(bd:P.follows .mixedOrders=true){id:Nat}{ops:Array Oper}{l:List bM}{Q Q':fG->S->Prop}{s:S}(hQ:∀e s,Q e s->Q' e s)(su:lA n ops ops.toList=some l)(ht:zO l (gH ops)=true)
 (hp:Vg (gH ops)=true) (h:Md P l (gH ops) Q s):jn P n b rd (.region id ops true) Q' s:=by
 intro M cA H0 w0 cx φ a w ro k hs
 obtain⟨m,IY,hto,h⟩:=h
 obtain⟨cc,hl,aW,gO⟩:=vI (l.take m) _ _ _ h
 have hlm:(l.take m).length=m:=by rw[List.length_take];omega
 have hlen:l.length=ops.size:=by rw[nD _ _ su];simp
 have gO:=gO.resolve_right (fun⟨_,_,_,_,_,q4,_,_⟩=>q4)
 obtain⟨bc,gO⟩:=gO
 have Pl:cc.length=m:=ag
 have uE:∀k,k<ops.size->(gH ops).getD k []=bA ops k:=by
  intro k hk;simp[gH,List.getD_eq_getElem?_getD,List.getElem?_map,List.getElem?_range hk]
 have xi:(gH ops).length=ops.size:=by simp[gH]
 have iY:∀k,k<=m->eD (bU l) (fun i=>cc.getD i default) (fun _=>true) s k=nB (l.take m) cc s k:=fun k hk=>by
  rw[Mf k hk];exact yL (l.take m) cc s hl k ag
 have EK:∀k,k<m->(l.take m)[k]? =some (bU l k):=fun k hk=>by
  rw[List.getElem?_take,if_pos hk]
  simp[bU,List.getD_eq_getElem?_getD,List.getElem?_eq_getElem (by omega:k<l.length)]
 have xg:∀k,k<m->cc[k]? =some (cc.getD k default):=fun k hk=>by simp[List.getD_eq_getElem?_getD,List.getElem?_eq_getElem (by omega:k<cc.length)]
 have qw:∀k,k<m->cc.getD k default∈cc:=fun k hk=>List.mem_of_getElem? (xg k hk)
 have O8:∀k,k<m->(yK cc)[k]? =some (xG (cc.getD k default),kZ (cc.getD k default)):=fun k hk=>by
  simp only[yK,List.getElem?_map,xg k hk,Option.map_some]
 have VB:(yK cc).length=m:=by simp[yK,Pl]
 simp only[List.nil_append]at gO
 obtain⟨vi,Px⟩:=gO
 have Jp:∀k,k<ops.size->∀j∈bA ops k,j<k:=fun k hk j hj=>by
  have:=List.all_eq_true.1 hp k (by simpa[xi]using hk)
  rw[uE k hk]at this
  simpa using List.all_eq_true.1 this j hj
 have Me:∀k,k<(gH ops).length->∀j∈(gH ops).getD k [],j<k:=fun k hk j hj=>by
  rw[xi]at hk;rw[uE k hk]at hj;exact Jp k hk j hj
 let po:Nat->Nat->Prop:=fun k j=>((eB (gH ops) []).getD k 0).testBit j=true
 have G6:∀E:Nat->Bool,(∀k,k<ops.size->E k=true->∀j∈bA ops k,E j=true)->∀k,k<ops.size->(∀j∈bA ops k,E j=true)->∀j,po k j->E j=true:=fun E hE k hk hj j hb=>
  qd Me (fun k hk jl j hj=>by rw[xi]at hk;rw[uE k hk]at hj;exact hE k hk jl j hj) k (by rw[xi];exact hk) (by rw[uE k hk];exact hj) j hb
 have CO:∀k,k<ops.size->∀j,po k j->j<k:=fun k hk j hb=>BW Me k (by rw[xi];exact hk) j hb
 have AA:∀i j,i<j->j<m-> ¬po j i->Compat (bU l) (fun i=>cc.getD i default) (fun i=>xG (cc.getD i default)) i j:=by
  intro i j Pw hj hn
  have OR:=List.all_eq_true.1 (List.all_eq_true.1 ht j gE) i (by simpa using Pw)
  have xZ:=List.all_eq_true.1 (List.all_eq_true.1 vi j (by simpa[VB]using hj)) i (by simpa using Pw)
  have hnc:((eB (gH ops) []).getD j 0).testBit i=false:=by simpa[po]using hn
  rw[hnc,Bool.false_or]at OR xZ
  simp only[Bool.and_eq_true]at OR xZ
  have gi:=O8 i ag
  have gj:=O8 j hj
  simp only[List.getD_eq_getElem?_getD (l:=yK cc),gi,gj,Option.getD_some]at xZ
  have dj:∀ {xs ys:List Nat},kX xs ys=true->∀x∈xs,x∉ys:=fun h x hx=>by simpa using List.all_eq_true.1 h x hx
  have fo:∀ {x y:bM},rS x y=true->∀d,x.dst=some d->d∉fb y:=fun h d hd=>by simpa[rS,hd]using h
  exact aau
 have htl:∀k,m<=k->k<ops.size->∀j,j<k->po k j:=fun k hmk hk j hj=>by
  have:=List.all_eq_true.1 hto k (by simpa[xi]using hk)
  simp only[Bool.or_eq_true]at this
  rcases this with this|this
  ·exact absurd (Nat.blt_eq.mp this) ag
  ·show((eB (gH ops) []).getD k 0).testBit j=true
   rw[Nat.eq_of_beq_eq_true this,Nat.testBit_two_pow_sub_one]
   exact decide_eq_true hj
 refine Fu (ac:=fun i=>cc.getD i default) (m:=m) (X:=fun v s=>Q' (.bE v) s) (K:=Q' .normal) bd su Jp ag hs (fun i hi=> ?_) (fun i hi=>bc _ (qw i hi)) G6 CO AA htl ?_ (fun s φ a w hk jr=>⟨.normal,s,φ,hk,jr,trivial⟩) (fun v s' aG a' w' val hx jr hd=>⟨.bE v,s',aG,hx,jr,val,rfl,hd⟩)
 ·rw[iY i (by omega)];exact aW i _ _ (EK i hi) (xg i hi)
 ·rw[iY m (Nat.le_refl _)]
  rw[hlm]at Px
  exact jC (fun s hs=>hQ _ _ hs) (fun v s hs=>hQ _ _ hs) _ _ _ (yM _ _ m su) Px
theorem sv{g:V}{ps:List Nat}{x y:IC}{Q Q':fG->S->Prop}{s:S}(hQ:∀e s,Q e s->Q' e s)(h:Cz P n g ps x y Q s):Cz P n g ps x y Q' s:=by
 obtain⟨env,h1,h2⟩:=h
 refine⟨env,h1, ?_⟩
 split at h2
 ·refine oN.mono (fun v o n h=> ?_) (fun v o n h=>hQ _ _ h) h2
  obtain⟨nf,m,e,p,c,d,st,pd,k1,k2,k3⟩:=h
  refine⟨nf,m,e,p,c,d,st,pd,k1,k2, ?_⟩
  cases pd with
  |none=>exact hQ _ _ k3
  |some j=>cases j<;>exact hQ _ _ k3
 ·exact h2
theorem iw(bd:P.follows .mixedOrders=true):∀ (c:Code) (Q Q':fG->S->Prop) (s:S),(∀e s,Q e s->Q' e s)->uH P n b rd (low n c) Q s->jn P n b rd c Q' s:=by
 intro c
 induction c with
 |skip=>exact fun Q Q' s hQ h=>hQ _ _ h
 |scope x ih=>exact fun Q Q' s hQ h=>ih Q Q' s hQ h
 |label l=>exact fun Q Q' s hQ h=>hQ _ _ h
 |exit id=>exact fun Q Q' s hQ h=>hQ _ _ h
 |ret=>exact fun Q Q' s hQ h=>hQ _ _ h
 |goto l=>exact fun Q Q' s hQ h=>h.elim
 |refuse y=>exact fun Q Q' s hQ h=>h.elim
 |rangeFunc f p x y=>
  intro Q Q' s hQ h
  obtain⟨h1,s',hle,h2⟩:=h
  exact⟨h1,s',hle,sv hQ h2⟩
 |region id ops draw=>
  intro Q Q' s hQ h
  cases draw with
  |true=>
   simp only[low]at h
   split at h
   ·rename_i l hl
    split at h
    ·rename_i hc
     simp only[Bool.and_eq_true]at hc
     rcases h with h|h
     ·exact Jo bd hQ hl hc.1 hc.2 h
     ·exact Fx bd hQ hl hc.1 hc.2 h
    ·exact h.elim
   ·exact h.elim
  |false=>
   simp only[low]at h
   split at h
   ·rename_i l hl;exact jC (fun s hs=>hQ _ _ hs) (fun v s hs=>hQ _ _ hs) _ l s hl h
   ·exact h.elim
 |seq x y Pq Pr=>
  intro Q Q' s hQ h
  refine Pq _ _ s (fun e s he=> ?_) h
  cases e<;>first|exact Pr Q Q' s hQ he|exact hQ _ _ he
 |cond c x y Pq Pr=>
  intro Q Q' s hQ h
  simp only[low,uH]at h
  simp only[jn]
  split at h
  ·rename_i t hc
   simp only[hc]
   exact⟨fun ht=>Pq Q Q' s hQ (h.1 ht),fun ht=>Pr Q Q' s hQ (h.2 ht)⟩
  ·rename_i hc
   simp only[hc]
   exact⟨Pq Q Q' s hQ h.1,Pr Q Q' s hQ h.2⟩
  ·exact h.elim
 |block id x ih=>
  intro Q Q' s hQ h
  refine ih _ _ s (fun e s he=> ?_) h
  cases e<;>simp only[fw]at he|- <;>first
   |exact hQ _ _ he
   |(split at he<;>rename_i e
     ·rw[if_pos e];exact hQ _ _ he
     ·rw[if_neg e];exact hQ _ _ he)
 |loop x ih=>
  intro Q Q' s hQ h
  obtain⟨J,h0,hr⟩:=h
  refine⟨J,h0,fun m s0 hJ=>ih _ _ s0 (fun e s he=> ?_) (hr m s0 hJ)⟩
  cases e<;>first|exact hQ _ _ he|exact he
structure aN (P:Program) (f:FuncId) (n:Nat) (ic:IC) (rs:List ResultVar):Prop where
 get:∃fn,P.funcs[f]? =some fn/\(fn.name== "runtime.NumGoroutine")=false/\fn.ntmps=n/\fn.results.toList=rs/\∃c,fn.body=some c/\low n c=ic
theorem cH.vK (bd:P.follows .mixedOrders=true){f:FuncId}{ic:IC}{rs:List ResultVar}(hf:aN P f n ic rs){args:List V}{o:Nat->ab}{nx:Nat}{K X:V->(Nat->ab)->Nat->Prop}(hl:args.length<=n)(h:uH P n nx false ic (mi P rs K X) ⟨cp args,o,nx⟩):cH P f args o nx K X:=by
 obtain⟨fn,h1,h2,rfl,rfl,c,h3,rfl⟩:=hf.get
 exact cH.G1 h1 h2 h3 hl (iw bd c _ _ _ (fun _ _ h=>h) h)
theorem aV.vK (bd:P.follows .mixedOrders=true){f:FuncId}{ic:IC}{rs:List ResultVar}(hf:aN P f n ic rs){ds:List D}{out:R}(hl:ds.length<=n)(h:uH P n 0 false ic (E9 P rs out) ⟨cp (ds.map .d),fun _=> .no,0⟩):aV P f ds out:=by
 obtain⟨fn,h1,h2,rfl,rfl,c,h3,rfl⟩:=hf.get
 exact aV.jd (cH.G1 h1 h2 h3 (by simpa using hl) (iw bd c _ _ _ (fun e s h=>Jf e s h) h))
end
end
end Go.Proofs.YtnkamdiiakdkgaaGreat
