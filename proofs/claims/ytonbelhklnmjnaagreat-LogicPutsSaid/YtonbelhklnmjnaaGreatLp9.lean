/-
  A PART OF THE PROOF. Conditions: none.
-/
import Derived.Test.YtonbelhklnmjnaaGreatLp8
set_option linter.unusedSimpArgs false
set_option linter.unusedVariables false
namespace Go.Proofs.YtonbelhklnmjnaaGreat
section
def tj(P:Program)(g:FuncId)(ds:List D)(Kf Kb KX:V->Prop):Prop:=
 (∃rs,aR P g ds (.ret rs)/\(Kf (jR rs)\/(D.ku rs=true/\Kb (jR rs))))\/(∃x,aR P g ds (.bP x)/\x.flat=true/\KX (.d x))\/(∃v,Tf P g ds v/\Kf v)
def jJ(P:Program)(g:FuncId)(args:List V)(o:Nat->ab)(nx fr:Nat)(K:V->List (Nat×ab)->List Nat->Prop)(KX:V->List Nat->List Nat->Prop):Prop:=
 ∃rd Δ,rd.all (fun id=>decide (id<nx))=true/\((∃rs,Gz P g args rd o (.ret rs) Δ/\K (jR rs) Δ rd)\/(∃x,Gz P g args rd o (.bP x) Δ/\KX (.d x) (Δ.map (·.1)) rd)\/(∃v,yq P g args rd o fr v Δ/\K v Δ rd))
def Bv(P:Program)(s:S)(fr:Nat)(o:ck)(K:V->List (Nat×ab)->List Nat->Prop)(KX:V->List Nat->List Nat->Prop):Prop:=
 match o.op with
 | .call c=>match c.callee with
   | .value f=>match s.ev f with
     | .func (.func g) first cap=>match ct s.o (first++c.args.toList.map s.ev++cap)with
       |some ds=>tj P g ds (fun v=>K v (dk s.o (V.bD (first++c.args.toList.map s.ev++cap))) (oS s o.op)) (fun v=>K v [] (oS s o.op)) (fun v=>KX v [] (oS s o.op))\/jJ P g (first++c.args.toList.map s.ev++cap) s.o s.nx fr K KX
       |none=>jJ P g (first++c.args.toList.map s.ev++cap) s.o s.nx fr K KX
     |_=>False
   |_=>match gQ P s fr o.op with
    |some (v,Δ,_)=>K v Δ (oS s o.op)
    |none=>False
 |op=>match gQ P s fr op with
  |some (v,Δ,_)=>K v Δ (oS s o.op)
  |none=>False
abbrev Fp:=List (List Nat×List Nat)
def je(P:Program)(KB:List Nat->Fp->Prop)(pr:List (List Nat)):List ck->Nat->S->Fp->List Nat->List Nat->Prop
 |[],_,_,fp,_,ws=>KB ws fp
 |o::l,fr,s,fp,bad,ws=>if(pr.getD fp.length []).any (fun j=>bad.contains j)=true then je P KB pr l (fr+1) ⟨bt s.env o.dst .aa,s.o,s.nx⟩ (fp++[([],[])]) (bad++[fp.length]) ws
  else match o.gd with
  |none=>Bv P s fr o (fun v Δ rd=>je P KB pr l (fr+1) ⟨bt s.env o.dst v,put s.o Δ,s.nx⟩ (fp++[(rd,Δ.map (·.1))]) bad (ws++Δ.map (·.1))) (fun _ _ _=>False)
  |some (d,want)=>match s.env d with
   | .d (.bool b)=>if b=want then Bv P s fr o (fun v Δ rd=>je P KB pr l (fr+1) ⟨bt s.env o.dst v,put s.o Δ,s.nx⟩ (fp++[(rd,Δ.map (·.1))]) bad (ws++Δ.map (·.1))) (fun _ _ _=>False)
    else je P KB pr l (fr+1) ⟨bt s.env o.dst (.cg []),s.o,s.nx⟩ (fp++[([],[])]) bad ws
   | .cg []=>je P KB pr l (fr+1) ⟨bt s.env o.dst (.cg []),s.o,s.nx⟩ (fp++[([],[])]) bad ws
   |_=>False
def lD(P:Program)(K:S->Fp->Prop)(KP:V->List Nat->Fp->Prop)(pr:List (List Nat)):List ck->Nat->S->Fp->Prop
 |[],_,s,fp=>K s fp
 |o::l,fr,s,fp=>match o.gd with
  |none=>Bv P s fr o (fun v Δ rd=>lD P K KP pr l (fr+1) ⟨bt s.env o.dst v,put s.o Δ,s.nx⟩ (fp++[(rd,Δ.map (·.1))]))
   (fun v ws rd=>je P (KP v) pr l (fr+1) ⟨bt s.env o.dst .aa,s.o,s.nx⟩ (fp++[(rd,[])]) [fp.length] (ws++fp.flatMap (·.2)))
  |some (d,want)=>match s.env d with
   | .d (.bool b)=>if b=want then Bv P s fr o (fun v Δ rd=>lD P K KP pr l (fr+1) ⟨bt s.env o.dst v,put s.o Δ,s.nx⟩ (fp++[(rd,Δ.map (·.1))]))
         (fun v ws rd=>je P (KP v) pr l (fr+1) ⟨bt s.env o.dst .aa,s.o,s.nx⟩ (fp++[(rd,[])]) [fp.length] (ws++fp.flatMap (·.2)))
    else lD P K KP pr l (fr+1) ⟨bt s.env o.dst (.cg []),s.o,s.nx⟩ (fp++[([],[])])
   | .cg []=>lD P K KP pr l (fr+1) ⟨bt s.env o.dst (.cg []),s.o,s.nx⟩ (fp++[([],[])])
   |_=>False
def E4(pr:List (List Nat))(nx:Nat)(Q:fX->S->Prop)(s:S)(fp:Fp):Prop:=iU pr fp=true/\Q .normal ⟨s.env,s.o,nx⟩
def dstsOf(l:List ck):List Nat:=l.filterMap (·.dst)
def CJ(pr:List (List Nat))(l:List ck)(s0:S)(Q:fX->S->Prop)(v:V)(wl:List Nat)(fp:Fp):Prop:=iU pr fp=true/\Q (.bP v) (rJ (dstsOf l) wl l.length s0)
def nF:List ck->List fO->S->Nat->S
 |_,_,s,0=>s
 |o::l,x::xs,s,j+1=>nF l xs (wW o.dst x s) j
 |_,_,s,_=>s
def yy(cw:List fO):Fp:=cw.map fun x=>(xi x,lB x)
section
variable {P:Program}{n b:Nat}
theorem CK{s:S}{fr:Nat}{o:ck}{K:V->List (Nat×ab)->List Nat->Prop}{KX:V->List Nat->List Nat->Prop}(h:Bv P s fr o K KX):(∃v Δ rd,yr P s fr o.op v Δ rd/\K v Δ rd)\/(∃v ws rd,CC P s o.op v ws rd/\KX v ws rd):=by
 have hs:∀ {op:Op},o.op=op->(match gQ P s fr op with|some (v,Δ,_)=>K v Δ (oS s o.op)|none=>False)->(∃v Δ rd,yr P s fr o.op v Δ rd/\K v Δ rd):=by
  intro op fl h
  split at h
  ·rename_i v Δ rd he;exact⟨v,Δ,_, .inl ⟨⟨rd,by rw[fl];exact he⟩,rfl⟩,h⟩
  ·exact h.elim
 unfold Bv at h
 split at h
 ·rename_i c hc
  split at h
  ·rename_i f fF
   split at h
   ·rename_i g first cap hf
    split at h
    ·rename_i ds fG
     rcases h with(⟨rs,hP,h|⟨rD,h⟩⟩|⟨x,hP,rD,h⟩|⟨v,hP,h⟩)|⟨rd,Δ,oO,⟨rs,hH,h⟩|⟨x,hH,h⟩|⟨v,hH,h⟩⟩
     ·exact .inl ⟨_,_,_, .inr ⟨c,f,g,first,cap,hc,fF,hf, .inl ⟨ds,rs,fG,hP,rfl,rfl, .inl rfl⟩⟩,h⟩
     ·exact .inl ⟨_,_,_, .inr ⟨c,f,g,first,cap,hc,fF,hf, .inl ⟨ds,rs,fG,hP,rfl,rfl, .inr ⟨rD,rfl⟩⟩⟩,h⟩
     ·exact .inr ⟨_,_,_,⟨c,f,g,first,cap,hc,fF,hf, .inl ⟨ds,x,fG,hP,rD,rfl,rfl,rfl⟩⟩,h⟩
     ·exact .inl ⟨_,_,_, .inr ⟨c,f,g,first,cap,hc,fF,hf, .inr (.inr (.inl ⟨ds,fG,hP,rfl,rfl⟩))⟩,h⟩
     ·exact aa8
     ·exact abb
     ·exact aa9
    ·obtain⟨rd,Δ,oO,⟨rs,hH,h⟩|⟨x,hH,h⟩|⟨v,hH,h⟩⟩:=h
     ·exact aa8
     ·exact abb
     ·exact aa9
   ·exact h.elim
  ·rw[hc]at h;exact .inl (hs hc (by rw[hc];exact h))
 ·exact .inl (hs rfl h)
def PK(P:Program)(KB:List Nat->Fp->Prop)(pr:List (List Nat))(l:List ck)(fr:Nat)(s:S)(fp:Fp)(bad ws:List Nat):Prop:=
    ∃cw:List fO,cw.length=l.length/\(∀j o x,l[j]? =some o->cw[j]? =some x->Tg P (nF l cw s j) (fr+j) o x)/\
     (∀ (j:Nat),cw[j]? =some fO.eW->∃i∈pr.getD (fp.length+j) [],i∈bad\/∃j',j'<j/\i=fp.length+j'/\cw[j']? =some .eW)/\(∀x∈cw,x= .eW\/x.ok=true)/\
     ∃wl,KB wl (fp++yy cw)/\(∀id∈ws,id∈wl)/\∀x∈cw,∀id∈lB x,id∈wl
theorem CL{KB:List Nat->Fp->Prop}{pr:List (List Nat)}:∀ (l:List ck) (fr:Nat) (s:S) (fp:Fp) (bad ws:List Nat),je P KB pr l fr s fp bad ws->PK P KB pr l fr s fp bad ws
 |[],fr,s,fp,bad,ws,h=>⟨[],rfl,fun j o x hj=>by simp at hj,fun j hj=>by simp at hj,fun x hx=>by simp at hx,ws,by simpa[yy,je]using h,fun _ h=>h,fun x hx=>by simp at hx⟩
 |o::l,fr,s,fp,bad,ws,h=>by
  have step:∀ (x:fO) (PL Tj:List Nat),Tg P s fr o x->je P KB pr l (fr+1) (wW o.dst x s) (fp++[(xi x,lB x)]) PL Tj->(x= .eW\/x.ok=true)->(x= .eW->∃i∈pr.getD fp.length [],i∈bad)->
   (∀i∈PL,i∈bad\/(i=fp.length/\x= .eW))->(∀id∈ws,id∈Tj)->(∀id∈lB x,id∈Tj)->
   PK P KB pr (o::l) fr s fp bad ws:=by
   intro x PL Tj bn hr hbo IG WQ L6 hW
   obtain⟨cw,h1,h2,h3,h4,wl,h5,h6,h7⟩:=CL l (fr+1) _ _ PL Tj hr
   refine⟨x::cw,by simp[h1],fun j o' y hj hy=> ?_,fun j hj=> ?_,fun y hy=> ?_,wl,by simpa[yy]using h5,fun id aC=>h6 id (L6 id aC),fun y hy id aC=> ?_⟩
   ·cases j with
    |zero=>exact KG
    |succ j=>
     have:=h2 j o' y na (by simpa using hy)
     exact Ln
   ·cases j with
    |zero=>
     simp at hj
     obtain⟨i,i1,i2⟩:=IG hj
     exact⟨i,by simpa using i1, .inl i2⟩
    |succ j=>
     obtain⟨i,i1,i2⟩:=h3 j na
     simp only[List.length_append,List.length_cons,List.length_nil]at i1 i2
     refine⟨i,by rw[show fp.length+(j+1)=fp.length+(0+1)+j by omega];exact i1, ?_⟩
     rcases i2 with i2|⟨j',j1,j2,j3⟩
     ·rcases WQ i i2 with hb|⟨e1,e2⟩
      ·exact .inl hb
      ·exact .inr ⟨0,ah,ah,by simp[e2]⟩
     ·exact .inr ⟨j'+1,ah,ah,by simpa using j3⟩
   ·rcases List.mem_cons.1 hy with rfl|hy
    ·exact hbo
    ·exact h4 y hy
   ·rcases List.mem_cons.1 hy with rfl|hy
    ·exact h6 id (hW id aC)
    ·exact h7 y hy id aC
  simp only[je]at h
  split at h
  ·rename_i hb
   obtain⟨j,hj1,hj2⟩:=List.any_eq_true.1 hb
   exact step .eW _ _ trivial h (.inl rfl) (fun _=>⟨j,hj1,by simpa using hj2⟩) (fun i hi=>by
    rcases List.mem_append.1 hi with hi|hi
    ·exact .inl hi
    ·exact .inr ⟨by simpa using hi,rfl⟩) (fun _ h=>h) (fun id aC=>by simp[lB]at aC)
  ·have vl:eD s o.gd true->Bv P s fr o (fun v Δ rd=>je P KB pr l (fr+1) ⟨bt s.env o.dst v,put s.o Δ,s.nx⟩ (fp++[(rd,Δ.map (·.1))]) bad (ws++Δ.map (·.1))) (fun _ _ _=>False)->PK P KB pr (o::l) fr s fp bad ws:=fun hg h=>by
    rcases CK h with⟨v,Δ,rd,oT,h⟩|⟨v,Tj,rd,_,h⟩
    ·exact step (.val v Δ rd) bad (ws++Δ.map (·.1)) ⟨hg,oT⟩ h (.inr rfl) (fun h=>by cases h) (fun i hi=> .inl hi) (fun id aC=>List.mem_append.2 (.inl aC)) (fun id aC=>List.mem_append.2 (.inr aC))
    ·exact h.elim
   have skip:eD s o.gd false->je P KB pr l (fr+1) ⟨bt s.env o.dst (.cg []),s.o,s.nx⟩ (fp++[([],[])]) bad ws->PK P KB pr (o::l) fr s fp bad ws:=fun hg h=>
    step .skip bad ws hg h (.inr rfl) (fun h=>by cases h) (fun i hi=> .inl hi) (fun id aC=>aC) (fun id aC=>by simp[lB]at aC)
   split at h
   ·rename_i hg;exact vl (by rw[hg];rfl) h
   ·rename_i d want hg
    split at h
    ·rename_i c hv
     split at h
     ·rename_i e;exact vl F1 h
     ·rename_i e;exact skip F1 h
    ·rename_i hv;exact skip (by rw[hg];simp[eD,hv]) h
    ·exact h.elim
def L9(P:Program)(K:S->Fp->Prop)(KP:V->List Nat->Fp->Prop)(pr:List (List Nat))(l:List ck)(fr:Nat)(s:S)(fp:Fp):Prop:=
 ∃cw:List fO,cw.length=l.length/\(∀j o x,l[j]? =some o->cw[j]? =some x->Tg P (nF l cw s j) (fr+j) o x)/\
  (((∀x∈cw,x.ok=true)/\K (nF l cw s l.length) (fp++yy cw))\/
   ∃v wl,(∀ (j:Nat) (v':V) (ws rd:List Nat),cw[j]? =some (fO.bP v' ws rd)->v'=v/\∀id∈ws,id∈wl)/\(∃x∈cw,x.ok=false)/\
    (∀ (j:Nat),cw[j]? =some fO.eW->∃i∈pr.getD (fp.length+j) [],∃j',i=fp.length+j'/\∃y,cw[j']? =some y/\y.ok=false)/\KP v wl (fp++yy cw)/\(∀x∈cw,∀id∈lB x,id∈wl)/\∀id∈fp.flatMap (·.2),id∈wl)
theorem vq{K:S->Fp->Prop}{KP:V->List Nat->Fp->Prop}{pr:List (List Nat)}:∀ (l:List ck) (fr:Nat) (s:S) (fp:Fp),lD P K KP pr l fr s fp->L9 P K KP pr l fr s fp
 |[],fr,s,fp,h=>⟨[],rfl,fun j o x hj=>by simp at hj, .inl ⟨fun x hx=>by simp at hx,by simpa[nF,yy,lD]using h⟩⟩
 |o::l,fr,s,fp,h=>by
  have step:∀ (x:fO),x.ok=true->Tg P s fr o x->lD P K KP pr l (fr+1) (wW o.dst x s) (fp++[(xi x,lB x)])->L9 P K KP pr (o::l) fr s fp:=by
   intro x Tk bn hr
   obtain⟨cw,h1,h2,h3⟩:=vq l (fr+1) _ _ hr
   refine⟨x::cw,by simp[h1],fun j o' y hj hy=> ?_, ?_⟩
   ·cases j with
    |zero=>exact KG
    |succ j=>
     have:=h2 j o' y na (by simpa using hy)
     exact Ln
   ·rcases h3 with⟨h3,h4⟩|⟨v,wl,g1,g2,g3,g4,g5,g6⟩
    ·left
     refine⟨fun y hy=> ?_,by simpa[nF,yy]using h4⟩
     rcases List.mem_cons.1 hy with rfl|hy
     ·exact Tk
     ·exact h3 y hy
    ·right
     refine⟨v,wl,fun j v' ws rd hj=> ?_, ?_,fun j hj=> ?_,by simpa[yy]using g4,fun y hy id aC=> ?_,fun id aC=>g6 id (by simp only[List.flatMap_append,List.mem_append];exact .inl aC)⟩
     ·cases j with
      |zero=>simp at hj;rw[hj]at Tk;cases Tk
      |succ j=>exact g1 j v' ws rd na
     ·obtain⟨y,y1,y2⟩:=g2;exact⟨y,by simp[y1],y2⟩
     ·cases j with
      |zero=>simp at hj;rw[hj]at Tk;cases Tk
      |succ j=>
       obtain⟨i,i1,j',i2,y,i3,i4⟩:=g3 j na
       simp only[List.length_append,List.length_cons,List.length_nil]at i1 i2
       exact⟨i,by rw[show fp.length+(j+1)=fp.length+(0+1)+j by omega];exact i1,j'+1,ah,y,by simpa using i3,i4⟩
     ·rcases List.mem_cons.1 hy with rfl|hy
      ·exact g6 id (by simp only[List.flatMap_append,List.mem_append];exact .inr (by simpa using aC))
      ·exact g5 y hy id aC
  have bP:∀ (v:V) (ws rd:List Nat),Tg P s fr o (.bP v ws rd)->je P (KP v) pr l (fr+1) ⟨bt s.env o.dst .aa,s.o,s.nx⟩ (fp++[(rd,[])]) [fp.length] (ws++fp.flatMap (·.2))->L9 P K KP pr (o::l) fr s fp:=by
   intro v ws rd bn hr
   obtain⟨cw,h1,h2,h3,h4,wl,h5,h6,h7⟩:=CL l (fr+1) _ _ _ _ hr
   refine⟨fO.bP v ws rd::cw,by simp[h1],fun j o' y hj hy=> ?_, .inr ⟨v,wl,fun j v' Tj uf hj=> ?_,⟨fO.bP v ws rd,ao,rfl⟩,fun j hj=> ?_,by simpa[yy,xi,lB]using h5,fun y hy id aC=> ?_,fun id aC=>h6 id (List.mem_append.2 (.inr aC))⟩⟩
   ·cases j with
    |zero=>exact KG
    |succ j=>
     have:=h2 j o' y na (by simpa using hy)
     exact Ln
   ·cases j with
    |zero=>simp at hj;obtain⟨rfl,rfl,rfl⟩:=hj;exact⟨rfl,fun id aC=>h6 id (List.mem_append.2 (.inl aC))⟩
    |succ j=>
     have hm:=List.mem_of_getElem? (show cw[j]? =some (.bP v' Tj uf) by simpa using hj)
     rcases h4 _ hm with h|h<;>cases h
   ·cases j with
    |zero=>simp at hj
    |succ j=>
     obtain⟨i,i1,i2⟩:=h3 j na
     simp only[List.length_append,List.length_cons,List.length_nil]at i1 i2
     refine⟨i,by rw[show fp.length+(j+1)=fp.length+(0+1)+j by omega];exact i1, ?_⟩
     rcases i2 with i2|⟨j',j1,j2,j3⟩
     ·exact⟨0,by simpa using i2,_,rfl,rfl⟩
     ·exact⟨j'+1,ah, .eW,by simpa using j3,rfl⟩
   ·rcases List.mem_cons.1 hy with rfl|hy
    ·simp[lB]at aC
    ·exact h7 y hy id aC
  have vl:eD s o.gd true->Bv P s fr o (fun v Δ rd=>lD P K KP pr l (fr+1) ⟨bt s.env o.dst v,put s.o Δ,s.nx⟩ (fp++[(rd,Δ.map (·.1))]))
   (fun v ws rd=>je P (KP v) pr l (fr+1) ⟨bt s.env o.dst .aa,s.o,s.nx⟩ (fp++[(rd,[])]) [fp.length] (ws++fp.flatMap (·.2)))->L9 P K KP pr (o::l) fr s fp:=fun hg h=>by
   rcases CK h with⟨v,Δ,rd,oT,h⟩|⟨v,ws,rd,oT,h⟩
   ·exact step (.val v Δ rd) rfl ⟨hg,oT⟩ h
   ·exact bP v ws rd ⟨hg,oT⟩ h
  have skip:eD s o.gd false->lD P K KP pr l (fr+1) ⟨bt s.env o.dst (.cg []),s.o,s.nx⟩ (fp++[([],[])])->L9 P K KP pr (o::l) fr s fp:=fun hg h=>step .skip rfl hg h
  simp only[lD]at h
  split at h
  ·rename_i hg;exact vl (by rw[hg];rfl) h
  ·rename_i d want hg
   split at h
   ·rename_i c hv
    split at h
    ·rename_i e;exact vl F1 h
    ·rename_i e;exact skip F1 h
   ·rename_i hv;exact skip (by rw[hg];simp[eD,hv]) h
   ·exact h.elim
end
end
section
def nG(env:Nat->V):List Nat->List V->Nat->V
 |t::ps,v::vs=>nG (aK env t v) ps vs
 |_,_=>env
def Ma(pr:List (List Nat))(m:Nat):Bool:=(List.range pr.length).all fun k=>Nat.blt k m||Nat.beq ((eR pr []).getD k 0) (2^k - 1)
def Mb(P:Program)(l:List ck)(pr:List (List Nat))(Q:fX->S->Prop)(s:S):Prop:=
 ∃m,m<=l.length/\Ma pr m=true/\lD P (fun s' fp=>iU pr fp=true/\pH P (fun v s=>Q (.bP v) s) (Q .normal) (l.drop m) ⟨s'.env,s'.o,s.nx+m⟩) (fun _ _ _=>False) pr (l.take m) s.nx s []
def uo(P:Program)(n b:Nat)(rd:Bool):IC->(fX->S->Prop)->S->Prop
 | .skip,Q,s=>Q .normal s
 | .ae l,Q,s=>pH P (fun v s=>Q (.bP v) s) (Q .normal) l s
 | .dZ l pr,Q,s=>lD P (E4 pr (s.nx+l.length) Q) (CJ pr l s Q) pr l s.nx s []\/Mb P l pr Q s
 | .seq x y,Q,s=>uo P n b rd x (qz (uo P n b rd y Q) Q) s
 | .cond c x y,Q,s=>match s.ev c with
   | .d (.bool t)=>qK t (uo P n b rd x Q s) (uo P n b rd y Q s)
   | .fq=>uo P n b rd x Q s/\uo P n b rd y Q s
   |_=>False
 | .block id x,Q,s=>uo P n b rd x (fY id Q) s
 | .loop x,Q,s=>L2 b (uo P n b rd x) Q s
 | .exit id,Q,s=>Q (.exit id) s
 | .ret,Q,s=>Q .ret s
 | .H6 g ps x y,Q,s=>rd=false/\ab4 P n b g ps x y Q s
 | .bad,_,_=>False
section
variable {P:Program}{n b:Nat}{rd:Bool}
theorem vr:∀ (l:List ck) (cw:List fO) (s:S) (k:Nat) (o:ck) (x:fO),l[k]? =some o->cw[k]? =some x->nF l cw s (k+1)=wW o.dst x (nF l cw s k)
 |[],_,_,_,_,_,h,_=>by simp at h
 |o::l,[],_,_,_,_,_,h=>by simp at h
 |o::l,x::xs,s,0,o',x',h,h'=>by simp at h h';subst h;subst h';cases l<;>cases xs<;>rfl
 |o::l,x::xs,s,k+1,o',x',h,h'=>by
  simp only[nF]
  exact vr l xs _ k o' x' xO (by simpa using h')
theorem yz(l:List ck)(cw:List fO)(s:S)(hl:cw.length=l.length):∀k,k<=l.length->fg (b9 l) (fun i=>cw.getD i default) (fun _=>true) s k=nF l cw s k:=by
 intro k
 induction k with
 |zero=>intro _;cases l<;>cases cw<;>rfl
 |succ k ih=>
  intro hk
  have h1:l[k]? =some (b9 l k):=by simp[b9,List.getD_eq_getElem?_getD,List.getElem?_eq_getElem (by omega:k<l.length)]
  have h2:cw[k]? =some (cw.getD k default):=by simp[List.getD_eq_getElem?_getD,List.getElem?_eq_getElem (by omega:k<cw.length)]
  simp only[fg,if_true,ih (by omega)]
  rw[vr l cw s k _ _ h1 h2]
theorem nH{ops:Array Oper}:∀ (l:List Oper) (l':List ck),lL n ops l=some l'->l'.length=l.length
 |[],_,h=>by simp[lL]at h;subst h;rfl
 |o::l,l',h=>by
  simp only[lL]at h
  split at h
  ·rename_i hx;injection h with h;subst h;simp[nH l _ hx]
  ·cases h
theorem IL(bB:P.follows .mixedOrders=true){id:Nat}{ops:Array Oper}{l:List ck}{Q Q':fX->S->Prop}{s:S}(hQ:∀e s,Q e s->Q' e s)(sn:lL n ops ops.toList=some l)(ht:zQ l (iu ops)=true)
 (hp:Wv (iu ops)=true) (h:lD P (E4 (iu ops) (s.nx+l.length) Q) (CJ (iu ops) l s Q) (iu ops) l s.nx s []):jO P n b rd (.region id ops true) Q' s:=by
 intro M cN H0 w0 cx φ a w ro k hs
 obtain⟨cw,hl,bn,ky⟩:=vq l _ _ _ h
 have hlen:l.length=ops.size:=by rw[nH _ _ sn];simp
 have ui:∀k,k<ops.size->(iu ops).getD k []=bK ops k:=by
  intro k hk;simp[iu,List.getD_eq_getElem?_getD,List.getElem?_map,List.getElem?_range hk]
 have xY:(iu ops).length=ops.size:=by simp[iu]
 have oT:=yz l cw s hl
 have HV:∀k,k<ops.size->l[k]? =some (b9 l k):=fun k hk=>by simp[b9,List.getD_eq_getElem?_getD,List.getElem?_eq_getElem (by omega:k<l.length)]
 have wU:∀k,k<ops.size->cw[k]? =some (cw.getD k default):=fun k hk=>by simp[List.getD_eq_getElem?_getD,List.getElem?_eq_getElem (by omega:k<cw.length)]
 have sa:∀k,k<ops.size->cw.getD k default∈cw:=fun k hk=>List.mem_of_getElem? (wU k hk)
 have LF:∀k,k<ops.size->(yy cw)[k]? =some (xi (cw.getD k default),lB (cw.getD k default)):=fun k hk=>by
  simp only[yy,List.getElem?_map,wU k hk,Option.map_some]
 have WR:(yy cw).length=ops.size:=by simp[yy,hl,hlen]
 simp only[List.nil_append,List.length_nil,Nat.zero_add]at ky
 have uU:iU (iu ops) (yy cw)=true:=by
  rcases ky with⟨_,h⟩|⟨v,wl,_,_,_,h,_⟩
  ·exact h.1
  ·exact h.1
 have IM:∀k,k<ops.size->∀j∈bK ops k,j<k:=fun k hk j hj=>by
  have:=List.all_eq_true.1 hp k (by simpa[xY]using hk)
  rw[ui k hk]at this
  simpa using List.all_eq_true.1 this j hj
 have Mc:∀k,k<(iu ops).length->∀j∈(iu ops).getD k [],j<k:=fun k hk j hj=>by
  rw[xY]at hk;rw[ui k hk]at hj;exact IM k hk j hj
 let po:Nat->Nat->Prop:=fun k j=>((eR (iu ops) []).getD k 0).testBit j=true
 have GF:∀E:Nat->Bool,(∀k,k<ops.size->E k=true->∀j∈bK ops k,E j=true)->∀k,k<ops.size->(∀j∈bK ops k,E j=true)->∀j,po k j->E j=true:=fun E hE k hk hj j hb=>
  qf Mc (fun k hk iM j hj=>by rw[xY]at hk;rw[ui k hk]at hj;exact hE k hk iM j hj) k (by rw[xY];exact hk) (by rw[ui k hk];exact hj) j hb
 have CH:∀k,k<ops.size->∀j,po k j->j<k:=fun k hk j hb=>BQ Mc k (by rw[xY];exact hk) j hb
 have Ax:∀i j,i<j->j<ops.size-> ¬po j i->Compat (b9 l) (fun i=>cw.getD i default) (fun i=>xi (cw.getD i default)) i j:=by
  intro i j hij hj hn
  have Em:=List.all_eq_true.1 (List.all_eq_true.1 ht j (by simpa[hlen]using hj)) i (by simpa using hij)
  have BB:=List.all_eq_true.1 (List.all_eq_true.1 uU j (by simpa[WR]using hj)) i (by simpa using hij)
  have hnc:((eR (iu ops) []).getD j 0).testBit i=false:=by simpa[po]using hn
  rw[hnc,Bool.false_or]at Em BB
  simp only[Bool.and_eq_true]at Em BB
  have gi:=LF i ah
  have gj:=LF j hj
  simp only[List.getD_eq_getElem?_getD (l:=yy cw),gi,gj,Option.getD_some]at BB
  have dj:∀ {xs ys:List Nat},ng xs ys=true->∀x∈xs,x∉ys:=fun h x hx=>by simpa using List.all_eq_true.1 h x hx
  have fo:∀ {x y:ck},rN x y=true->∀d,x.dst=some d->d∉fH y:=fun h d hd=>by simpa[rN,hd]using h
  exact abe
 have Tl:∀i,i<ops.size->Tg P (fg (b9 l) (fun i=>cw.getD i default) (fun _=>true) s i) (s.nx+i) (b9 l i) (cw.getD i default):=fun i hi=>by
  rw[oT i (by omega)];exact bn i _ _ (HV i hi) (wU i hi)
 have de:∀i,i<ops.size->∀t,(b9 l i).dst=some t->(dstsOf l).contains t=true:=fun i hi t ht=>by
  simp only[List.contains_iff_mem,dstsOf,List.mem_filterMap]
  exact⟨b9 l i,List.mem_of_getElem? (HV i hi),ht⟩
 rcases ky with⟨bw,ky⟩|⟨v,wl,q1,q2,q3,q4,q5,q6⟩
 ·refine CG (ac:=fun i=>cw.getD i default) (dl:=dstsOf l) (wl:=(cw.flatMap lB)) bB sn IM hs Tl (fun i hi hb=> ?_) GF CH Ax de (fun i hi id aC=> ?_) (fun i v ws uf hi hb=> ?_) (fun _ φ a w jv=> ?_) (fun i v ws uf hi hb=> ?_)
  ·have:=bw _ (sa i hi);rw[hb]at this;cases this
  ·simp only[List.contains_iff_mem,List.mem_flatMap];exact⟨_,sa i hi,aC⟩
  ·have:=bw _ (sa i hi);rw[hb]at this;cases this
  ·rw[oT ops.size (by omega), <- hlen]at jv
   exact⟨.normal,_,φ,hQ _ _ ky.2,jv,trivial⟩
  ·have:=bw _ (sa i hi);rw[hb]at this;cases this
 ·refine CG (ac:=fun i=>cw.getD i default) (dl:=dstsOf l) (wl:=wl) bB sn IM hs Tl (fun i hi hb=> ?_) GF CH Ax de (fun i hi id aC=> ?_) (fun i v' ws uf hi hb=> ?_) (fun bw φ a w jv=> ?_) (fun i v' ws uf hi hb φ a w val jv hd=> ?_)
  ·obtain⟨j,j1,j',e,y,j3,j4⟩:=q3 i KM
   rw[ui i hi,e]at j1
   refine⟨j',j1, ?_⟩
   simp only[List.getD_eq_getElem?_getD,j3,Option.getD_some,j4]
  ·simp only[List.contains_iff_mem];exact q5 _ (sa i hi) id aC
  ·intro id aC
   simp only[List.contains_iff_mem]
   exact(q1 i v' ws uf KM).2 id aC
  ·obtain⟨x,x1,x2⟩:=q2
   obtain⟨i,Pr,Wx⟩:=List.getElem_of_mem x1
   have hi:i<ops.size:=ah
   have:=bw i hi
   have e:cw.getD i default=x:=by simp[List.getD_eq_getElem?_getD,List.getElem?_eq_getElem Pr,Wx]
   rw[e,x2]at this;cases this
  ·have e:=(q1 i v' ws uf KM).1
   subst e
   rw[<- hlen]at jv hd
   exact⟨.bP v',_,φ,hQ _ _ q4.2,jv,val,rfl,hd⟩
theorem yA{ops:Array Oper}:∀ (l:List Oper) (l':List ck) (m:Nat),lL n ops l=some l'->lL n ops (l.drop m)=some (l'.drop m)
 |l,l',0,h=>h
 |[],l',m+1,h=>by simp[lL]at h;subst h;simp[lL]
 |o::l,l',m+1,h=>by
  simp only[lL]at h
  split at h
  ·rename_i x xs hx Ea
   injection h with h;subst h
   exact yA l xs m Ea
  ·cases h
theorem Md{l:List ck}{ac:Nat->fO}{E:Nat->Bool}{s:S}{m:Nat}:∀k,k<=m->fg (b9 l) ac E s k=fg (b9 (l.take m)) ac E s k:=by
 intro k
 induction k with
 |zero=>intro _;rfl
 |succ k ih=>
  intro hk
  have:b9 l k=b9 (l.take m) k:=by simp[b9,List.getD_eq_getElem?_getD,List.getElem?_take,(by omega:k<m)]
  simp only[fg,ih (by omega),this]
theorem E5(bB:P.follows .mixedOrders=true){id:Nat}{ops:Array Oper}{l:List ck}{Q Q':fX->S->Prop}{s:S}(hQ:∀e s,Q e s->Q' e s)(sn:lL n ops ops.toList=some l)(ht:zQ l (iu ops)=true)
 (hp:Wv (iu ops)=true) (h:Mb P l (iu ops) Q s):jO P n b rd (.region id ops true) Q' s:=by
 intro M cN H0 w0 cx φ a w ro k hs
 obtain⟨m,Pz,hto,h⟩:=h
 obtain⟨cw,hl,bn,ky⟩:=vq (l.take m) _ _ _ h
 have hlm:(l.take m).length=m:=by rw[List.length_take];omega
 have hlen:l.length=ops.size:=by rw[nH _ _ sn];simp
 have ky:=ky.resolve_right (fun⟨_,_,_,_,_,q4,_,_⟩=>q4)
 obtain⟨bw,ky⟩:=ky
 have WH:cw.length=m:=ah
 have ui:∀k,k<ops.size->(iu ops).getD k []=bK ops k:=by
  intro k hk;simp[iu,List.getD_eq_getElem?_getD,List.getElem?_map,List.getElem?_range hk]
 have xY:(iu ops).length=ops.size:=by simp[iu]
 have oT:∀k,k<=m->fg (b9 l) (fun i=>cw.getD i default) (fun _=>true) s k=nF (l.take m) cw s k:=fun k hk=>by
  rw[Md k hk];exact yz (l.take m) cw s hl k ah
 have HV:∀k,k<m->(l.take m)[k]? =some (b9 l k):=fun k hk=>by
  rw[List.getElem?_take,if_pos hk]
  simp[b9,List.getD_eq_getElem?_getD,List.getElem?_eq_getElem (by omega:k<l.length)]
 have wU:∀k,k<m->cw[k]? =some (cw.getD k default):=fun k hk=>by simp[List.getD_eq_getElem?_getD,List.getElem?_eq_getElem (by omega:k<cw.length)]
 have sa:∀k,k<m->cw.getD k default∈cw:=fun k hk=>List.mem_of_getElem? (wU k hk)
 have LF:∀k,k<m->(yy cw)[k]? =some (xi (cw.getD k default),lB (cw.getD k default)):=fun k hk=>by
  simp only[yy,List.getElem?_map,wU k hk,Option.map_some]
 have WR:(yy cw).length=m:=by simp[yy,WH]
 simp only[List.nil_append]at ky
 obtain⟨uU,PM⟩:=ky
 have IM:∀k,k<ops.size->∀j∈bK ops k,j<k:=fun k hk j hj=>by
  have:=List.all_eq_true.1 hp k (by simpa[xY]using hk)
  rw[ui k hk]at this
  simpa using List.all_eq_true.1 this j hj
 have Mc:∀k,k<(iu ops).length->∀j∈(iu ops).getD k [],j<k:=fun k hk j hj=>by
  rw[xY]at hk;rw[ui k hk]at hj;exact IM k hk j hj
 let po:Nat->Nat->Prop:=fun k j=>((eR (iu ops) []).getD k 0).testBit j=true
 have GF:∀E:Nat->Bool,(∀k,k<ops.size->E k=true->∀j∈bK ops k,E j=true)->∀k,k<ops.size->(∀j∈bK ops k,E j=true)->∀j,po k j->E j=true:=fun E hE k hk hj j hb=>
  qf Mc (fun k hk iM j hj=>by rw[xY]at hk;rw[ui k hk]at hj;exact hE k hk iM j hj) k (by rw[xY];exact hk) (by rw[ui k hk];exact hj) j hb
 have CH:∀k,k<ops.size->∀j,po k j->j<k:=fun k hk j hb=>BQ Mc k (by rw[xY];exact hk) j hb
 have Ax:∀i j,i<j->j<m-> ¬po j i->Compat (b9 l) (fun i=>cw.getD i default) (fun i=>xi (cw.getD i default)) i j:=by
  intro i j hij hj hn
  have Em:=List.all_eq_true.1 (List.all_eq_true.1 ht j qb) i (by simpa using hij)
  have BB:=List.all_eq_true.1 (List.all_eq_true.1 uU j (by simpa[WR]using hj)) i (by simpa using hij)
  have hnc:((eR (iu ops) []).getD j 0).testBit i=false:=by simpa[po]using hn
  rw[hnc,Bool.false_or]at Em BB
  simp only[Bool.and_eq_true]at Em BB
  have gi:=LF i ah
  have gj:=LF j hj
  simp only[List.getD_eq_getElem?_getD (l:=yy cw),gi,gj,Option.getD_some]at BB
  have dj:∀ {xs ys:List Nat},ng xs ys=true->∀x∈xs,x∉ys:=fun h x hx=>by simpa using List.all_eq_true.1 h x hx
  have fo:∀ {x y:ck},rN x y=true->∀d,x.dst=some d->d∉fH y:=fun h d hd=>by simpa[rN,hd]using h
  exact abe
 have htl:∀k,m<=k->k<ops.size->∀j,j<k->po k j:=fun k hmk hk j hj=>by
  have:=List.all_eq_true.1 hto k (by simpa[xY]using hk)
  simp only[Bool.or_eq_true]at this
  rcases this with this|this
  ·exact absurd (Nat.blt_eq.mp this) ah
  ·show((eR (iu ops) []).getD k 0).testBit j=true
   rw[Nat.eq_of_beq_eq_true this,Nat.testBit_two_pow_sub_one]
   exact decide_eq_true hj
 refine E3 (ac:=fun i=>cw.getD i default) (m:=m) (X:=fun v s=>Q' (.bP v) s) (K:=Q' .normal) bB sn IM ah hs (fun i hi=> ?_) (fun i hi=>bw _ (sa i hi)) GF CH Ax htl ?_ (fun s φ a w hk jv=>⟨.normal,s,φ,hk,jv,trivial⟩) (fun v s' aN a' w' val hx jv hd=>⟨.bP v,s',aN,hx,jv,val,rfl,hd⟩)
 ·rw[oT i (by omega)];exact bn i _ _ (HV i hi) (wU i hi)
 ·rw[oT m (Nat.le_refl _)]
  rw[hlm]at PM
  exact jY (fun s hs=>hQ _ _ hs) (fun v s hs=>hQ _ _ hs) _ _ _ (yA _ _ m sn) PM
theorem sq{g:V}{ps:List Nat}{x y:IC}{Q Q':fX->S->Prop}{s:S}(hQ:∀e s,Q e s->Q' e s)(h:Cs P n g ps x y Q s):Cs P n g ps x y Q' s:=by
 obtain⟨env,h1,h2⟩:=h
 refine⟨env,h1, ?_⟩
 split at h2
 ·refine oU.mono (fun v o n h=> ?_) (fun v o n h=>hQ _ _ h) h2
  obtain⟨nf,m,e,p,c,d,st,pd,k1,k2,k3⟩:=h
  refine⟨nf,m,e,p,c,d,st,pd,k1,k2, ?_⟩
  cases pd with
  |none=>exact hQ _ _ k3
  |some j=>cases j<;>exact hQ _ _ k3
 ·exact h2
theorem jf(bB:P.follows .mixedOrders=true):∀ (c:Code) (Q Q':fX->S->Prop) (s:S),(∀e s,Q e s->Q' e s)->uo P n b rd (low n c) Q s->jO P n b rd c Q' s:=by
 intro c
 induction c with
 |skip=>exact fun Q Q' s hQ h=>hQ _ _ h
 |scope x ih=>exact fun Q Q' s hQ h=>ih Q Q' s hQ h
 |label l=>exact fun Q Q' s hQ h=>hQ _ _ h
 |exit id=>exact fun Q Q' s hQ h=>hQ _ _ h
 |ret=>exact fun Q Q' s hQ h=>hQ _ _ h
 |goto l=>exact fun Q Q' s hQ h=>h.elim
 |refuse y=>exact fun Q Q' s hQ h=>h.elim
 |rangeFunc f p x y=>
  intro Q Q' s hQ h
  obtain⟨h1,s',hle,h2⟩:=h
  exact⟨h1,s',hle,sq hQ h2⟩
 |region id ops draw=>
  intro Q Q' s hQ h
  cases draw with
  |true=>
   simp only[low]at h
   split at h
   ·rename_i l hl
    split at h
    ·rename_i hc
     simp only[Bool.and_eq_true]at hc
     rcases h with h|h
     ·exact IL bB hQ hl hc.1 hc.2 h
     ·exact E5 bB hQ hl hc.1 hc.2 h
    ·exact h.elim
   ·exact h.elim
  |false=>
   simp only[low]at h
   split at h
   ·rename_i l hl;exact jY (fun s hs=>hQ _ _ hs) (fun v s hs=>hQ _ _ hs) _ l s hl h
   ·exact h.elim
 |seq x y PH PI=>
  intro Q Q' s hQ h
  refine PH _ _ s (fun e s he=> ?_) h
  cases e<;>first|exact PI Q Q' s hQ he|exact hQ _ _ he
 |cond c x y PH PI=>
  intro Q Q' s hQ h
  simp only[low,uo]at h
  simp only[jO]
  split at h
  ·rename_i t hc
   simp only[hc]
   exact⟨fun ht=>PH Q Q' s hQ (h.1 ht),fun ht=>PI Q Q' s hQ (h.2 ht)⟩
  ·rename_i hc
   simp only[hc]
   exact⟨PH Q Q' s hQ h.1,PI Q Q' s hQ h.2⟩
  ·exact h.elim
 |block id x ih=>
  intro Q Q' s hQ h
  refine ih _ _ s (fun e s he=> ?_) h
  cases e<;>simp only[fY]at he|- <;>first
   |exact hQ _ _ he
   |(split at he<;>rename_i e
     ·rw[if_pos e];exact hQ _ _ he
     ·rw[if_neg e];exact hQ _ _ he)
 |loop x ih=>
  intro Q Q' s hQ h
  obtain⟨J,h0,hr⟩:=h
  refine⟨J,h0,fun m s0 hJ=>ih _ _ s0 (fun e s he=> ?_) (hr m s0 hJ)⟩
  cases e<;>first|exact hQ _ _ he|exact he
structure aG (P:Program) (f:FuncId) (n:Nat) (ic:IC) (rs:List ResultVar):Prop where
 get:∃fn,P.funcs[f]? =some fn/\(fn.name== "runtime.NumGoroutine")=false/\fn.ntmps=n/\fn.results.toList=rs/\∃c,fn.body=some c/\low n c=ic
theorem cK.vu (bB:P.follows .mixedOrders=true){f:FuncId}{ic:IC}{rs:List ResultVar}(hf:aG P f n ic rs){args:List V}{o:Nat->ab}{nx:Nat}{K X:V->(Nat->ab)->Nat->Prop}(hl:args.length<=n)(h:uo P n nx false ic (my P rs K X) ⟨cE args,o,nx⟩):cK P f args o nx K X:=by
 obtain⟨fn,h1,h2,rfl,rfl,c,h3,rfl⟩:=hf.get
 exact cK.Gx h1 h2 h3 hl (jf bB c _ _ _ (fun _ _ h=>h) h)
theorem aR.vu (bB:P.follows .mixedOrders=true){f:FuncId}{ic:IC}{rs:List ResultVar}(hf:aG P f n ic rs){ds:List D}{out:R}(hl:ds.length<=n)(h:uo P n 0 false ic (EK P rs out) ⟨cE (ds.map .d),fun _=> .no,0⟩):aR P f ds out:=by
 obtain⟨fn,h1,h2,rfl,rfl,c,h3,rfl⟩:=hf.get
 exact aR.mz (cK.Gx h1 h2 h3 (by simpa using hl) (jf bB c _ _ _ (fun e s h=>Iz e s h) h))
end
end
section
abbrev Fix(α:Type){β:Type}(_:β):Type:=α
def lh(K:V->List (Nat×ab)->Prop)(x:Fix (Option gN) K):Prop:=match x with|some (v,Δ,_)=>K v Δ|none=>False
@[go_sem] theorem E6 {v:V} {Δ:List (Nat×ab)} {rd:List Nat} {K}:lh K (some (v,Δ,rd))=K v Δ:=propext Iff.rfl
@[go_sem] theorem WS {K}:lh K none=False:=propext Iff.rfl
def V.Ay (c:Bool)(v:V):V:=if c=true then v else .cg []
@[go_sem] theorem acb (b:Bool):(!!b)=b:=ao
attribute [go_sem] true_or or_true false_or ne_eq not_false_eq_true decide_true decide_false Bool.not_true Bool.not_false Bool.and_true Bool.true_and Bool.and_false Bool.false_and Bool.or_true Bool.true_or Bool.or_false Bool.false_or beq_self_eq_true Bool.true_eq_false Bool.false_eq_true not_true_eq_false and_true true_and and_false false_and eq_self
@[go_sem] theorem V.acd (v:V):V.Ay true v=v:=rfl
@[go_sem] theorem V.aae (v:V):V.Ay false v= .cg []:=rfl
def mM(c:Bool)(p:Prop):Prop:=c=true->p
@[congr] theorem Tn {c c':Bool} {p p':Prop} (h:c=c') (h2:c'=true->p=p'):mM c p=mM c' p':=by
  subst h;cases c
  ·simp[mM]
  ·simp[mM,h2 rfl]
@[go_sem] theorem WT (p:Prop):mM true p=p:=by simp[mM]
@[go_sem] theorem To (p:Prop):mM false p=True:=by simp[mM]
@[go_sem] theorem WU (a:Bool):mM a True=True:=by simp[mM]
def mN(v:V)(want:Bool):Option Bool:=
 match v with
 | .d (.bool b)=>some (b==want)
 | .cg []=>some false
 |_=>none
@[go_sem] theorem WV (b:Bool):mN (.d (.bool b)) true=some b:=by simp[mN]
@[go_sem] theorem Tp (b:Bool):mN (.d (.bool b)) false=some (!b):=by simp[mN]
@[go_sem] theorem ace (want:Bool):mN (.cg []) want=some false:=rfl
@[go_sem] theorem aaf (c b want:Bool):mN (V.Ay c (.d (.bool b))) want=some (c&&(b==want)):=by cases c<;>simp[mN,V.Ay]
@[go_sem] theorem WW (c b e want:Bool):mN (V.Ay c (V.Ay e (.d (.bool b)))) want=some (c&&e&&(b==want)):=by cases c<;>cases e<;>simp[mN,V.Ay]
def lE(c:Bool)(x:Option gN):Option gN:=
 if c=true then(match x with|some (v,[],_)=>some (v,[],[])|_=>none)else some (.cg [],[],[])
@[congr] theorem PN {c c':Bool} {x x':Option gN} (h:c=c') (h2:c'=true->x=x'):lE c x=lE c' x':=by
  subst h;cases c
  ·rfl
  ·simp[lE,h2 rfl]
def okR(v:V)(rd:List Nat):Option gN:=some (v,[],rd)
@[go_sem] theorem afM (v:V) (rd:List Nat):(some (v,[],rd):Option gN)=okR v rd:=by unfold okR;exact Eq.trans rfl rfl
@[go_sem] theorem WX (c:Bool) (v:V) (rd:List Nat):lE c (okR v rd)=okR (V.Ay c v) []:=by cases c<;>rfl
@[go_sem] theorem aag {v:V} {rd:List Nat} {K}:lh K (okR v rd)=K v []:=propext Iff.rfl
@[go_sem] theorem Tq (c:Bool) (v:V) (rd:List Nat):lE c (some (v,[],rd))=some (V.Ay c v,[],[]):=by cases c<;>rfl
@[go_sem] theorem PO (x:Option gN):lE false x=some (.cg [],[],[]):=rfl
@[go_sem] theorem acf (b x:Bool):qF (.d (.bool b)) (V.Ay b (.d (.bool x))) (.d (.bool false))=some (.d (.bool (b&&x))):=BK
@[go_sem] theorem ae2 (b x:Bool):qF (.d (.bool b)) (.d (.bool true)) (V.Ay (!b) (.d (.bool x)))=some (.d (.bool (b||x))):=BK
@[go_sem] theorem acg (b x:Bool):qF (.d (.bool (!b))) (.d (.bool true)) (V.Ay b (.d (.bool x)))=some (.d (.bool (!b||x))):=BK
@[go_sem] theorem aah (x y:V):qF (.d (.bool true)) x y=some x:=rfl
@[go_sem] theorem WY (x y:V):qF (.d (.bool false)) x y=some y:=rfl
@[reducible] def lF:Op->Bool
  | .move _| .assign _| .pick .. | .load .. | .binOp .. | .unOp .. | .nilCheck _| .convert .. | .makeInterface .. | .makeFunc .. | .fieldAddr .. | .indexAddr .. | .extract .. | .build .. | .index .. | .field .. | .lookup .. =>true
  | .call c=>match c.callee with
    | .builtin .len=>true
    | .builtin .min=>true
    | .builtin .max=>true
    |_=>false
  |_=>false
def CM(P:Program)(f:V)(args:List V)(o:Nat->ab)(rs:List D):Prop:=
 match f with
 | .func (.func g) first cap=>match ct o (first++args++cap)with
   |some ds=>aR P g ds (.ret rs)/\D.ku rs=true
   |none=>False
 |_=>False
def GH(P:Program)(f:V)(args:List V)(o:Nat->ab)(K:V->Prop)(c:Fix Bool (f,args,o,K)):Prop:=
 ∃rs,mM c (CM P f args o rs)/\K (V.Ay c (jR rs))
def CN(P:Program)(g:FuncId)(nx:Nat)(K X:V->(Nat->ab)->Nat->Prop)(args:Fix (List V) (K,X))(o:Fix (Nat->ab) (K,X)):Prop:=tc P g args o nx K X
def tl(P:Program)(g:FuncId)(o:Nat->ab)(nx:Nat)(K X:V->(Nat->ab)->Nat->Prop)(ds:Fix (List D) (o,nx,K,X))(all:Fix (List V) (o,nx,K,X)):Prop:=
 ve P g ds o (put o (dk o (V.bD all))) (put o (rQ o (V.bD all))) (fun v o'=>K v o' (nx+1)) (fun v o'=>X v o' (nx+1))\/tc P g all o nx K X
def nI(P:Program)(g:FuncId)(K X:V->(Nat->ab)->Nat->Prop)(s:S)(all:List V)(ds:Fix (Option (List D)) (K,X,s,all)):Prop:=
 match ds with
 |some ds=>tl P g s.o s.nx K X ds all
 |none=>CN P g s.nx K X all s.o
@[go_sem] theorem Ts {P:Program} {s:S} {ds:List D} {g:FuncId} {all:List V} {K X}:
 nI P g K X s all (some ds)=tl P g s.o s.nx K X ds all:=propext Iff.rfl
def yB(P:Program)(id:Nat)(K X:V->(Nat->ab)->Nat->Prop)(s:S)(args:Fix (List V) (K,X,s)):Prop:=eh P id args s.o s.nx K X
@[go_sem] theorem Tt {P:Program} {s:S} {g:FuncId} {all:List V} {K X}:nI P g K X s all none=CN P g s.nx K X all s.o:=propext Iff.rfl
def tn(P:Program)(K X:V->(Nat->ab)->Nat->Prop)(s:S)(f:Fix V (K,X,s))(args:Fix (List V) (K,X,s)):Prop:=
 match f with
 | .func (.func g) first cap=>nI P g K X s (first++args++cap) (ct s.o (first++args++cap))
 | .jW id=>yB P id K X s args
 |_=>False
@[go_sem] theorem aai {P:Program} {s:S} {id:Nat} {args:List V} {K X}:tn P K X s (.jW id) args=yB P id K X s args:=propext Iff.rfl
@[go_sem] theorem WZ {P:Program} {s:S} {g:FuncId} {first cap args:List V} {K X}:tn P K X s (.func (.func g) first cap) args=nI P g K X s (first++args++cap) (ct s.o (first++args++cap)):=propext Iff.rfl
def Me(P:Program)(g:FuncId)(o:Nat->ab)(nx:Nat)(K X:V->(Nat->ab)->Nat->Prop)(ds:Fix (List D) (o,nx,K,X))(all:Fix (List V) (o,nx,K,X)):Prop:=
 ve P g ds o (put o (dk o (V.bD all))) (put o (rQ o (V.bD all))) (fun v o'=>K v o' (nx+1)) (fun v o'=>X v o' (nx+1))
def CO(P:Program)(g:FuncId)(K X:V->(Nat->ab)->Nat->Prop)(s:S)(all:List V)(ds:Fix (Option (List D)) (K,X,s,all)):Prop:=
 match ds with
 |some ds=>Me P g s.o s.nx K X ds all
 |none=>False
@[go_sem] theorem W0 {P:Program} {s:S} {ds:List D} {g:FuncId} {all:List V} {K X}:CO P g K X s all (some ds)=Me P g s.o s.nx K X ds all:=propext Iff.rfl
def Mf(P:Program)(K X:V->(Nat->ab)->Nat->Prop)(s:S)(args:Fix (List V) (K,X,s))(r:Fix (Option (FuncId×V)) (K,X,s)):Prop:=
 match r with
 |some (g,y)=>CO P g K X s (y::args) (ct s.o (y::args))
 |none=>False
@[go_sem] theorem aaj {P:Program} {s:S} {g:FuncId} {y:V} {args:List V} {K X}:Mf P K X s args (some (g,y))=CO P g K X s (y::args) (ct s.o (y::args)):=propext Iff.rfl
def IP(K:V->Prop)(v:Fix V K):Prop:=
 match v with
 | .d (.iface t y)=>K (.d (.iface t y))
 | .iface t y=>K (.iface t y)
 |_=>False
@[go_sem] theorem afN {t:TypeId} {y:D} {K}:IP K (.d (.iface t y))=K (.d (.iface t y)):=propext Iff.rfl
@[go_sem] theorem afO {t:TypeId} {y:V} {K}:IP K (.iface t y)=K (.iface t y):=propext Iff.rfl
def CP(K:V->List (Nat×ab)->Prop)(id:Nat)(l:Fix (List (D×D)) (K,id)):Prop:=Gi id l fun v Δ _=>K v Δ
def Mg(K:V->List (Nat×ab)->Prop)(str:Bool)(det:Fix (Option gN) (K,str))(left:Fix (Option (Nat×List (D×D))) (K,str)):Prop:=
 match left with
 |some (id,l)=>str=false/\CP K id l
 |none=>lh K det
@[go_sem] theorem aak {K} {det:Option gN} {id:Nat} {l:List (D×D)}:Mg K false det (some (id,l))=CP K id l:=propext ⟨fun h=>h.2,fun h=>⟨rfl,h⟩⟩
@[go_sem] theorem aal {K} {str:Bool} {det:Option gN}:Mg K str det none=lh K det:=propext Iff.rfl
def CQ(P:Program)(X:V->S->Prop)(K:S->Prop)(o:ck)(s:Fix S (X,K,o)):Prop:=
 match o.op with
 | .next x str=>Mg (fun v Δ=>K ⟨bt s.env o.dst v,put s.o Δ,s.nx+1⟩) str (oY s.o (s.ev x) str) (oZ s.o (s.ev x))
 | .call c=>match c.callee with
   | .value f=>tn P (fun v o' nx'=>K ⟨bt s.env o.dst v,o',nx'⟩) (fun v o' nx'=>X v ⟨s.env,o',nx'⟩) s (s.ev f) (c.args.toList.map s.ev)
   | .invoke r m=>Mf P (fun v o' nx'=>K ⟨bt s.env o.dst v,o',nx'⟩) (fun v o' nx'=>X v ⟨s.env,o',nx'⟩) s (c.args.toList.map s.ev) (u5 P m (s.ev r))
   |_=>lh (fun v Δ=>K ⟨bt s.env o.dst v,put s.o Δ,s.nx+1⟩) (gQ P s s.nx o.op)
 | .panic x=>IP (fun v=>X v s) (s.ev x)
 |op=>lh (fun v Δ=>K ⟨bt s.env o.dst v,put s.o Δ,s.nx+1⟩) (gQ P s s.nx op)
@[reducible] def gI:Op->Option (Operand×List Operand)
  | .call c=>match c.callee with
    | .value f=>some (f,c.args.toList)
    |_=>none
  |_=>none
def jB(A B:Prop)(t:Fix Bool (A,B)):Prop:=qK t A B
@[go_sem] theorem W1 (A B:Prop):jB A B true=A:=vg A B
@[go_sem] theorem Tu (A B:Prop):jB A B false=B:=te A B
def E7(P:Program)(X:V->S->Prop)(K:S->Prop)(o:ck)(s:S)(f:Operand)(args:List Operand)(c:Fix Bool (X,K,o,s,f,args)):Prop:=
 GH P (s.ev f) (args.map s.ev) s.o (fun v=>K ⟨bt s.env o.dst v,s.o,s.nx+1⟩) c\/jB (CQ P X K o s) (K ⟨bt s.env o.dst (.cg []),s.o,s.nx+1⟩) c
def Az(P:Program)(X:V->S->Prop)(K:S->Prop)(o:ck)(s:S)(c:Fix (Option Bool) (X,K,o,s)):Prop:=
 match c with
 |none=>False
 |some c=>match gI o.op with
  |some (f,args)=>E7 P X K o s f args c
  |none=>if lF o.op=true then lh (fun v _=>K ⟨bt s.env o.dst v,s.o,s.nx+1⟩) (lE c (gQ P s s.nx o.op))
   else jB (CQ P X K o s) (K ⟨bt s.env o.dst (.cg []),s.o,s.nx+1⟩) c
def tU(P:Program)(X:V->S->Prop)(K:S->Prop)(l:List ck)(s:Fix S (X,K,l)):Prop:=
 match l with
 |[]=>K s
 |o::l=>match o.gd with
  |none=>CQ P X (tU P X K l) o s
  |some (d,want)=>Az P X (tU P X K l) o s (mN (s.env d) want)
def kz(want:Bool)(A B:Prop)(v:Fix V (A,B)):Prop:=
 match v with
 | .d (.bool b)=>qK (b==want) A B
 | .cg []=>B
 |_=>False
@[go_sem] theorem Tv (b:Bool) (A B:Prop):kz true A B (.d (.bool b))=jB A B b:=by simp[kz,jB]
@[go_sem] theorem PQ (b:Bool) (A B:Prop):kz false A B (.d (.bool b))=jB A B (!b):=by simp[kz,jB]
@[go_sem] theorem aam (want:Bool) (A B:Prop):kz want A B (.cg [])=B:=propext Iff.rfl
@[go_sem] theorem W2 (c b want:Bool) (A B:Prop):kz want A B (V.Ay c (.d (.bool b)))=jB A B (c&&(b==want)):=by cases c<;>simp[kz,V.Ay,jB]
abbrev KD:=V->List (Nat×ab)->List Nat->Prop
abbrev XD:=V->List Nat->List Nat->Prop
def Mh(P:Program)(g:FuncId)(K:KD)(X:XD)(o:Nat->ab)(rd:List Nat)(ds:Fix (List D) (K,X,o,rd))(all:Fix (List V) (K,X,o,rd)):Prop:=
 tj P g ds (fun v=>K v (dk o (V.bD all)) rd) (fun v=>K v [] rd) (fun v=>X v [] rd)
def sr(P:Program)(g:FuncId)(K:KD)(X:XD)(o:Nat->ab)(nx fr:Nat)(all:Fix (List V) (K,X,o,nx)):Prop:=jJ P g all o nx fr K X
def nJ(P:Program)(g:FuncId)(K:KD)(X:XD)(o:Nat->ab)(nx fr:Nat)(rd:List Nat)(ds:Fix (List D) (K,X,o,nx,rd))(all:Fix (List V) (K,X,o,nx,rd)):Prop:=Mh P g K X o rd ds all\/sr P g K X o nx fr all
def ss(P:Program)(K:KD)(X:XD)(o:Nat->ab)(nx fr:Nat)(rd:List Nat)(g:FuncId)(all:List V)(ds:Fix (Option (List D)) (K,X,o,nx,rd,all)):Prop:=
 match ds with
 |some ds=>nJ P g K X o nx fr rd ds all
 |none=>sr P g K X o nx fr all
@[go_sem] theorem Tw {P:Program} {o:Nat->ab} {nx fr:Nat} {rd:List Nat} {ds:List D} {g:FuncId} {all:List V} {K X}:ss P K X o nx fr rd g all (some ds)=nJ P g K X o nx fr rd ds all:=propext Iff.rfl
@[go_sem] theorem Tx {P:Program} {o:Nat->ab} {nx fr:Nat} {rd:List Nat} {g:FuncId} {all:List V} {K X}:ss P K X o nx fr rd g all none=sr P g K X o nx fr all:=propext Iff.rfl
def CS(P:Program)(K:KD)(X:XD)(o:Nat->ab)(nx fr:Nat)(rd:Fix (List Nat) (K,X,o,nx))(f:Fix V (K,X,o,nx))(args:Fix (List V) (K,X,o,nx)):Prop:=
 match f with
 | .func (.func g) first cap=>ss P K X o nx fr rd g (first++args++cap) (ct o (first++args++cap))
 |_=>False
@[go_sem] theorem W3 {P:Program} {o:Nat->ab} {nx fr:Nat} {rd:List Nat} {g:FuncId} {first cap args:List V} {K X}:CS P K X o nx fr rd (.func (.func g) first cap) args=ss P K X o nx fr rd g (first++args++cap) (ct o (first++args++cap)):=propext Iff.rfl
def vw(K:KD)(rd:List Nat)(x:Fix (Option gN) (K,rd)):Prop:=match x with|some (v,Δ,_)=>K v Δ rd|none=>False
@[go_sem] theorem W4 {v:V} {Δ:List (Nat×ab)} {r rd:List Nat} {K}:vw K rd (some (v,Δ,r))=K v Δ rd:=propext Iff.rfl
@[go_sem] theorem aan {v:V} {r rd:List Nat} {K}:vw K rd (okR v r)=K v [] rd:=propext Iff.rfl
def ON(P:Program)(K:KD)(X:XD)(fr:Nat)(o:ck)(s:Fix S (K,X,o)):Prop:=
 match gI o.op with
 |some (f,args)=>CS P K X s.o s.nx fr (oS s o.op) (s.ev f) (args.map s.ev)
 |none=>vw K (oS s o.op) (gQ P s fr o.op)
def CT(P:Program)(KB:List Nat->Fp->Prop)(pr:List (List Nat))(l:List ck)(fr:Nat)(fp:Fix Fp (KB,l))(bad ws:Fix (List Nat) (KB,l))(s:Fix S (KB,l)):Prop:=je P KB pr l fr s fp bad ws
def qL(P:Program)(K:S->Fp->Prop)(KP:V->List Nat->Fp->Prop)(pr:List (List Nat))(l:List ck)(fr:Nat)(s:Fix S (K,KP,l))(fp:Fix Fp (K,KP,l)):Prop:=
 match l with
 |[]=>K s fp
 |o::l=>match o.gd with
  |none=>ON P (fun v Δ rd=>qL P K KP pr l (fr+1) ⟨bt s.env o.dst v,put s.o Δ,s.nx⟩ (fp++[(rd,Δ.map (·.1))]))
   (fun v ws rd=>CT P (KP v) pr l (fr+1) (fp++[(rd,[])]) [fp.length] (ws++fp.flatMap (·.2)) ⟨bt s.env o.dst .aa,s.o,s.nx⟩) fr o s
  |some (d,want)=>kz want (ON P (fun v Δ rd=>qL P K KP pr l (fr+1) ⟨bt s.env o.dst v,put s.o Δ,s.nx⟩ (fp++[(rd,Δ.map (·.1))]))
   (fun v ws rd=>CT P (KP v) pr l (fr+1) (fp++[(rd,[])]) [fp.length] (ws++fp.flatMap (·.2)) ⟨bt s.env o.dst .aa,s.o,s.nx⟩) fr o s)
   (qL P K KP pr l (fr+1) ⟨bt s.env o.dst (.cg []),s.o,s.nx⟩ (fp++[([],[])])) (s.env d)
def PR(pr:List (List Nat))(nx:Nat)(Q:fX->S->Prop)(s:Fix S Q)(fp:Fix Fp Q):Prop:=E4 pr nx Q s fp
def yC(A B:Prop)(v:Fix V (A,B)):Prop:=
 match v with
 | .d (.bool t)=>jB A B t
 | .fq=>A/\B
 |_=>False
@[go_sem] theorem aao (A B:Prop):yC A B .fq=(A/\B):=propext Iff.rfl
@[go_sem] theorem W5 (t:Bool) (A B:Prop):yC A B (.d (.bool t))=jB A B t:=propext Iff.rfl
def GI{ι:Type}(b:Nat)(st:ι->S)(bQ:ι->Prop)(pK:ι->Nat)(i:ι)(s:S):Prop:=∃j,bQ j/\pK j<pK i/\bJ b s (st j)
def vx(next:S->Prop)(Q:fX->S->Prop)(e:fX)(s:S):Prop:=match e with| .normal=>next s|e=>Q e s
section
variable {N:S->Prop}{Q:fX->S->Prop}{s:S}
@[go_sem ↓] theorem PS:vx N Q .normal s=N s:=propext Iff.rfl
@[go_sem ↓] theorem W6 {id:Nat}:vx N Q (.exit id) s=Q (.exit id) s:=propext Iff.rfl
@[go_sem ↓] theorem aap:vx N Q .ret s=Q .ret s:=propext Iff.rfl
@[go_sem ↓] theorem xF {v:V}:vx N Q (.bP v) s=Q (.bP v) s:=propext Iff.rfl
end
def vz(b:Nat)(body:(fX->S->Prop)->S->Prop)(Q:fX->S->Prop)(s:Fix S (body,Q)):Prop:=
 ∃ (ι:Type) (st:ι->S) (bQ:ι->Prop) (pK:ι->Nat) (i0:ι),bQ i0/\bJ b s (st i0)/\∀i,bQ i->body (vx (GI b st bQ pK i) Q) (st i)
theorem aF{ι:Type}{b:Nat}{body:(fX->S->Prop)->S->Prop}{Q:fX->S->Prop}{s:S}(st:ι->S)(bQ:ι->Prop)(pK:ι->Nat)(i0:ι)(h0:bQ i0)(hle:bJ b s (st i0))
 (h:∀i,bQ i->body (vx (GI b st bQ pK i) Q) (st i)):vz b body Q s:=⟨ι,st,bQ,pK,i0,h0,hle,h⟩
def xj(P:Program)(n b:Nat)(rd:Bool)(gop:Operand)(ps:List Nat)(x y:IC)(Q:fX->S->Prop)(s:Fix S (x,y,Q))(g:Fix V (x,y,Q)):Prop:=rd=false/\(Cs P n g ps x y Q s\/∃s',bJ b s s'/\Cs P n (s'.ev gop) ps x y Q s')
def lj(P:Program)(n b:Nat)(rd:Bool)(c:IC)(Q:fX->S->Prop)(s:Fix S (c,Q)):Prop:=
 match c with
 | .skip=>Q .normal s
 | .ae l=>tU P (fun v s=>Q (.bP v) s) (Q .normal) l s
 | .dZ l pr=>qL P (PR pr (s.nx+l.length) Q) (CJ pr l s Q) pr l s.nx s []
 | .seq x y=>lj P n b rd x (qz (fun s=>lj P n b rd y Q s) Q) s
 | .cond c x y=>yC (lj P n b rd x Q s) (lj P n b rd y Q s) (s.ev c)
 | .block id x=>lj P n b rd x (fY id Q) s
 | .loop x=>vz b (fun Q s=>lj P n b rd x Q s) Q s
 | .exit id=>Q (.exit id) s
 | .ret=>Q .ret s
 | .H6 g ps x y=>xj P n b rd g ps x y Q s (s.ev g)
 | .bad=>False
section
variable {P:Program}{n b:Nat}{rd:Bool}
theorem CU{s:S}{f:V}{args:List V}{K K':V->(Nat->ab)->Nat->Prop}{X X':V->(Nat->ab)->Nat->Prop}(hK:∀v o n,K v o n->K' v o n)(hX:∀v o n,X v o n->X' v o n)(h:tn P K X s f args):
 match(generalizing:=false) f with
  | .func (.func g) first cap=>match ct s.o (first++args++cap)with
    |some ds=>ve P g ds s.o (put s.o (dk s.o (V.bD (first++args++cap)))) (put s.o (rQ s.o (V.bD (first++args++cap)))) (fun v o'=>K' v o' (s.nx+1)) (fun v o'=>X' v o' (s.nx+1))\/tc P g (first++args++cap) s.o s.nx K' X'
    |none=>tc P g (first++args++cap) s.o s.nx K' X'
  | .jW id=>eh P id args s.o s.nx K' X'
  |_=>False:=by
 unfold tn nI yB at h
 split at h
 ·rename_i g first cap
  cases fG:ct s.o (first++args++cap)with
  |some ds=>
   simp only[fG]at h|-
   rcases h with⟨out,h1,h2|⟨h3,h2⟩|⟨h3,h2⟩⟩|h
   ·exact .inl ⟨out,h1, .inl (by cases out<;>first|exact hK _ _ _ h2|exact hX _ _ _ h2)⟩
   ·exact .inl ⟨out,h1, .inr (.inl ⟨h3,by cases out<;>first|exact hK _ _ _ h2|exact hX _ _ _ h2⟩)⟩
   ·exact .inl ⟨out,h1, .inr (.inr ⟨h3,by cases out<;>first|exact hK _ _ _ h2|exact hX _ _ _ h2⟩)⟩
   ·exact .inr (oU.mono hK hX h)
  |none=>
   simp only[fG]at h|-
   exact oU.mono hK hX h
 ·exact eh.mono hK hX h
 ·exact h.elim
theorem yD{x:Option gN}{K:V->List (Nat×ab)->Prop}(h:lh K x):∃v Δ rd,x=some (v,Δ,rd)/\K v Δ:=by
 unfold lh at h;split at h
 ·exact⟨_,_,_,rfl,h⟩
 ·exact h.elim
theorem AA{s:S}{o:ck}{X X':V->S->Prop}{K K':S->Prop}(hK:∀s,K s->K' s)(hX:∀v s,X v s->X' v s)(h:CQ P X K o s):J9 P s o X' K':=by
 unfold CQ at h
 unfold J9
 have hs:∀ {op:Op},(lh (fun v Δ=>K ⟨bt s.env o.dst v,put s.o Δ,s.nx+1⟩) (gQ P s s.nx op))->(match gQ P s s.nx op with|some (v,Δ,_)=>K' ⟨bt s.env o.dst v,put s.o Δ,s.nx+1⟩|none=>False):=by
  intro op h
  obtain⟨v,Δ,rd,he,h⟩:=yD h
  simp only[he];exact hK _ h
 split at h
 ·rename_i x str hx
  rw[hx]
  unfold Mg at h
  simp only
  split at h
  ·rename_i id l hl
   simp only[hl]
   exact⟨h.1,fun e=>hK _ (h.2.1 e),fun i k x e=>hK _ (h.2.2 i k x e)⟩
  ·rename_i hl
   simp only[hl]
   exact hs (op:= .next x str) h
 ·rename_i c hc
  simp only[hc]
  split at h
  ·rename_i f hf
   simp only[hf]
   exact CU (K:=fun v o' nx'=>K ⟨bt s.env o.dst v,o',nx'⟩) (X:=fun v o' nx'=>X v ⟨s.env,o',nx'⟩) (fun v o n h=>hK _ h) (fun v o n h=>hX _ _ h) h
  ·rename_i r m hf
   simp only[hf]
   unfold Mf at h
   split at h
   ·rename_i g y hr
    simp only[hr]
    unfold CO at h
    split at h
    ·rename_i ds fG
     obtain⟨out,h1,h2⟩:=h
     refine .inl ⟨ds,fG,out,h1, ?_⟩
     rcases h2 with h2|⟨h3,h2⟩|⟨h3,h2⟩
     ·exact .inl (by cases out<;>first|exact hK _ h2|exact hX _ _ h2)
     ·exact .inr (.inl ⟨h3,by cases out<;>first|exact hK _ h2|exact hX _ _ h2⟩)
     ·exact .inr (.inr ⟨h3,by cases out<;>first|exact hK _ h2|exact hX _ _ h2⟩)
    ·exact h.elim
   ·exact h.elim
  ·rename_i hf hi
   rw[hc]at h
   obtain⟨LN,args,ts⟩:=c
   cases LN with
   |value f=>exact absurd rfl (hf f)
   |invoke r m=>exact absurd rfl (hi r m)
   |_=>exact hs h
 ·rename_i x hx
  simp only[hx]
  unfold IP at h
  split at h
  ·rename_i hv;simp only[hv];exact hX _ _ h
  ·rename_i hv;simp only[hv];exact hX _ _ h
  ·exact h.elim
 ·rename_i uj hc hp
  have h2:=hs h
  cases hh:o.op<;>first
   |exact absurd hh (hc _)
   |exact absurd hh (hp _)
   |exact absurd hh (uj _ _)
   |(rw[hh]at h2;exact h2)
theorem Mi{s:S}{o:ck}{X:V->S->Prop}{K:S->Prop}(hp:lF o.op=true){v:V}{Δ:List (Nat×ab)}{rd:List Nat}(he:gQ P s s.nx o.op=some (v,Δ,rd))(h:K ⟨bt s.env o.dst v,put s.o Δ,s.nx+1⟩):J9 P s o X K:=by
 unfold J9
 split
 ·rename_i c hc
  split
  ·rename_i f hf;rw[hc]at hp;simp[lF,hf]at hp
  ·rename_i r m hf;rw[hc]at hp;simp[lF,hf]at hp
  ·rw[he];exact h
 ·rename_i x hx;rw[hx]at hp;simp[lF]at hp
 ·rename_i x str hx;rw[hx]at hp;simp[lF]at hp
 ·rw[he];exact h
theorem yE{X X':V->S->Prop}{K K':S->Prop}(hK:∀s,K s->K' s)(hX:∀v s,X v s->X' v s):∀ (l:List ck) (s:S),tU P X K l s->pH P X' K' l s
 |[],s,h=>hK _ h
 |o::l,s,h=>by
  have ih:=yE hK hX l
  unfold tU at h
  unfold pH
  cases hg:o.gd with
  |none=>
   simp only[hg]at h|-
   exact AA ih hX h
  |some p=>
   obtain⟨d,want⟩:=p
   simp only[hg]at h|-
   unfold Az at h
   split at h
   ·exact h.elim
   ·rename_i c hc
    have hgo:∀ {A B:Prop},(c=true->A)->(c=false->B)->(match s.env d with
     | .d (.bool b)=>if b=want then A else B
     | .cg []=>B
     |_=>False):=by
     intro A B hA hB
     generalize s.env d=v at hc
     unfold mN at hc
     split at hc
     ·rename_i b
      injection hc with hc
      split
      ·rename_i e;exact hA (by rw[<- hc];simp[e])
      ·rename_i e;exact hB (by rw[<- hc];simp[e])
     ·injection hc with hc
      exact hB hc.symm
     ·cases hc
    split at h
    ·rename_i f args Ka
     rcases h with h|h
     case inr=>exact hgo (fun Ty=>AA ih hX (h.1 Ty)) (fun W7=>ih _ (h.2 W7))
     obtain⟨rs,h1,h2⟩:=h
     refine hgo (fun Ty=> ?_) (fun W7=> ?_)
     ·unfold gI at Ka
      split at Ka
      ·rename_i c' Af
       split at Ka
       ·rename_i f' dR
        injection Ka with Ka;injection Ka with e1 e2;subst e1;subst e2
        have cH:=h1 Ty
        unfold J9
        simp only[Af,dR]
        unfold CM at cH
        split at cH
        ·rename_i g first cap w7
         simp only[w7]
         split at cH
         ·rename_i ds fG
          simp only[fG]
          refine .inl ⟨.ret rs,cH.1, .inr (.inl ⟨cH.2, ?_⟩)⟩
          refine ih _ ?_
          rw[Ty]at h2
          exact h2
         ·exact cH.elim
        ·exact cH.elim
       ·cases Ka
      ·cases Ka
     ·refine ih _ ?_
      rw[W7]at h2
      exact h2
    ·split at h
     ·rename_i hp
      obtain⟨v,Δ,rd,he,h⟩:=yD h
      refine hgo (fun Ty=> ?_) (fun W7=> ?_)
      ·rw[Ty]at he
       simp only[lE,if_true]at he
       split at he
       ·rename_i v' uf pZ
        injection he with he;injection he with e1 e2;subst e1
        exact Mi hp pZ (ih _ h)
       ·cases he
      ·rw[W7]at he
       simp only[lE]at he
       injection he with he;injection he with e1 e2;subst e1
       exact ih _ h
     ·exact hgo (fun Ty=>AA ih hX (h.1 Ty)) (fun W7=>ih _ (h.2 W7))
theorem AB{op:Op}{f:Operand}{args:List Operand}(h:gI op=some (f,args)):∃c,op= .call c/\c.callee= .value f/\c.args.toList=args:=by
 unfold gI at h
 split at h
 ·rename_i c
  split at h
  ·rename_i f' dR
   injection h with h;injection h with e1 e2;subst e1;subst e2
   exact⟨c,rfl,dR,rfl⟩
  ·cases h
 ·cases h
theorem IQ{x:Option gN}{rd:List Nat}{K:KD}(h:vw K rd x):∃v Δ r,x=some (v,Δ,r)/\K v Δ rd:=by
 unfold vw at h;split at h
 ·exact⟨_,_,_,rfl,h⟩
 ·exact h.elim
theorem jJ.mono {P:Program}{g:FuncId}{args:List V}{o:Nat->ab}{nx fr:Nat}{K K':KD}{X X':XD}(hK:∀v Δ r,K v Δ r->K' v Δ r)(hX:∀v w r,X v w r->X' v w r)(h:jJ P g args o nx fr K X):jJ P g args o nx fr K' X':=by
 obtain⟨rd,Δ,h1,⟨rs,h2,h3⟩|⟨x,h2,h3⟩|⟨v,h2,h3⟩⟩:=h
 ·exact⟨rd,Δ,h1, .inl ⟨rs,h2,hK _ _ _ h3⟩⟩
 ·exact⟨rd,Δ,h1, .inr (.inl ⟨x,h2,hX _ _ _ h3⟩)⟩
 ·exact⟨rd,Δ,h1, .inr (.inr ⟨v,h2,hK _ _ _ h3⟩)⟩
theorem tj.mono {P:Program}{g:FuncId}{ds:List D}{Kf Kb KX Kf' Kb' KX':V->Prop}(h1:∀v,Kf v->Kf' v)(h2:∀v,Kb v->Kb' v)(h3:∀v,KX v->KX' v)(h:tj P g ds Kf Kb KX):tj P g ds Kf' Kb' KX':=by
 rcases h with⟨rs,a,b|⟨b,c⟩⟩|⟨x,a,b,c⟩|⟨v,a,b⟩
 ·exact .inl ⟨rs,a, .inl (h1 _ b)⟩
 ·exact .inl ⟨rs,a, .inr ⟨b,h2 _ c⟩⟩
 ·exact .inr (.inl ⟨x,a,b,h3 _ c⟩)
 ·exact .inr (.inr ⟨v,a,h1 _ b⟩)
theorem GJ{s:S}{fr:Nat}{o:ck}{K K':KD}{X X':XD}(hK:∀v Δ r,K v Δ r->K' v Δ r)(hX:∀v w r,X v w r->X' v w r)(h:ON P K X fr o s):Bv P s fr o K' X':=by
 unfold ON at h
 split at h
 ·rename_i f args Ka
  obtain⟨c,h1,h2,h3⟩:=AB Ka
  subst h3
  unfold Bv
  simp only[h1,h2]
  unfold CS ss at h
  split at h
  ·rename_i g first cap hf
   simp only[hf]
   split at h
   ·rename_i ds fG
    simp only[fG]
    refine h.elim (fun h=> .inl ?_) (fun h=> .inr (jJ.mono hK hX h))
    refine tj.mono (fun v h=> ?_) (fun v h=> ?_) (fun v h=> ?_) h<;>(rw[h1]at h)
    ·exact hK _ _ _ h
    ·exact hK _ _ _ h
    ·exact hX _ _ _ h
   ·rename_i fG
    simp only[fG]
    exact jJ.mono hK hX h
  ·exact h.elim
 ·rename_i Ka
  obtain⟨v,Δ,rd,he,h⟩:=IQ h
  unfold Bv
  split
  ·rename_i c hc
   split
   ·rename_i f hf
    exact absurd Ka (by simp[gI,hc,hf])
   ·simp only[he];exact hK _ _ _ h
  ·simp only[he];exact hK _ _ _ h
theorem CV{s:S}{fr:Nat}{o:ck}{K K':KD}{X X':XD}(hK:∀v Δ r,K v Δ r->K' v Δ r)(hX:∀v w r,X v w r->X' v w r)(h:Bv P s fr o K X):Bv P s fr o K' X':=by
 unfold Bv at h|-
 split at h
 ·rename_i c hc
  rw[hc]at h|-
  split at h
  ·rename_i f hf
   (try simp only[hf])
   split at h
   ·rename_i w7
    (try simp only[w7])
    split at h
    ·exact h.elim (fun h=> .inl (tj.mono (fun v h=>hK _ _ _ h) (fun v h=>hK _ _ _ h) (fun v h=>hX _ _ _ h) h)) (fun h=> .inr (jJ.mono hK hX h))
    ·exact jJ.mono hK hX h
   ·exact h.elim
  ·rename_i hf
   split at h
   ·rename_i he
    (try simp only[he])
    exact hK _ _ _ h
   ·exact h.elim
 ·split at h
  ·rename_i he
   (try simp only[he]);exact hK _ _ _ h
  ·exact h.elim
theorem jZ{KB KB':List Nat->Fp->Prop}{pr:List (List Nat)}(hK:∀l fp,KB l fp->KB' l fp):∀ (l:List ck) (fr:Nat) (s:S) (fp:Fp) (bad ws:List Nat),je P KB pr l fr s fp bad ws->je P KB' pr l fr s fp bad ws
 |[],_,_,_,_,_,h=>hK _ _ h
 |o::l,fr,s,fp,bad,ws,h=>by
  unfold je at h|-
  split
  ·rename_i hb
   rw[if_pos hb]at h
   exact jZ hK l _ _ _ _ _ h
  ·rename_i hb
   rw[if_neg hb]at h
   split at h
   ·exact CV (fun v Δ r h=>jZ hK l _ _ _ _ _ h) (fun _ _ _ h=>h) h
   ·split at h
    ·split at h
     ·rename_i e;simp only[e,if_true]
      exact CV (fun v Δ r h=>jZ hK l _ _ _ _ _ h) (fun _ _ _ h=>h) h
     ·rename_i e;simp only[e,if_false]
      exact jZ hK l _ _ _ _ _ h
    ·exact jZ hK l _ _ _ _ _ h
    ·exact h.elim
theorem lX{K K':S->Fp->Prop}{KP KP':V->List Nat->Fp->Prop}{pr:List (List Nat)}(hK:∀s fp,K s fp->K' s fp)(hP:∀v l fp,KP v l fp->KP' v l fp):∀ (l:List ck) (fr:Nat) (s:S) (fp:Fp),qL P K KP pr l fr s fp->lD P K' KP' pr l fr s fp
 |[],_,_,_,h=>hK _ _ h
 |o::l,fr,s,fp,h=>by
  have hB:∀v ws (rdl:List Nat),CT P (KP v) pr l (fr+1) (fp++[(rdl,[])]) [fp.length] (ws++fp.flatMap (·.2)) ⟨bt s.env o.dst .aa,s.o,s.nx⟩->
   je P (KP' v) pr l (fr+1) ⟨bt s.env o.dst .aa,s.o,s.nx⟩ (fp++[(rdl,[])]) [fp.length] (ws++fp.flatMap (·.2)):=fun v ws rdl h=>jZ (fun a b h=>hP v a b h) l _ _ _ _ _ h
  unfold qL at h
  unfold lD
  split at h
  ·rename_i hg
   (try simp only[hg])
   exact GJ (fun v Δ r h=>lX hK hP l _ _ _ h) hB h
  ·rename_i d want hg
   (try simp only[hg])
   generalize s.env d=v at h
   unfold kz at h
   split at h
   ·rename_i bb
    by_cases e:bb=want
    ·subst e
     simp only[if_true]
     exact GJ (fun v Δ r h=>lX hK hP l _ _ _ h) hB (h.1 ao)
    ·simp only[if_neg e]
     exact lX hK hP l _ _ _ (h.2 (by simpa using e))
   ·exact lX hK hP l _ _ _ h
   ·exact h.elim
theorem eK:∀ (c:IC) (Q Q':fX->S->Prop) (s:S),(∀e s,Q e s->Q' e s)->lj P n b rd c Q s->uo P n b rd c Q' s
 | .skip,_,_,_,hQ,h=>hQ _ _ h
 | .ae l,_,_,_,hQ,h=>yE (fun s h=>hQ _ _ h) (fun v s h=>hQ _ _ h) l _ h
 | .dZ l pr,_,_,_,hQ,h=> .inl (lX (fun s fp h=>⟨h.1,hQ _ _ h.2⟩) (fun v l fp h=>⟨h.1,hQ _ _ h.2⟩) l _ _ _ h)
 | .seq x y,Q,Q',s,hQ,h=>eK x _ _ s (fun e s h=>by
  unfold qz at h|-
  cases e with
  |normal=>exact eK y _ _ s hQ h
  |_=>exact hQ _ _ h) h
 | .cond c x y,Q,Q',s,hQ,h=>by
   unfold lj yC jB at h
   unfold uo
   split at h
   ·rename_i t ht
    simp only[ht]
    exact⟨fun e=>eK x _ _ s hQ (h.1 e),fun e=>eK y _ _ s hQ (h.2 e)⟩
   ·rename_i ht
    simp only[ht]
    exact⟨eK x _ _ s hQ h.1,eK y _ _ s hQ h.2⟩
   ·exact h.elim
 | .block id x,Q,Q',s,hQ,h=>eK x _ _ s (fun e s h=>by
  unfold fY at h|-
  cases e with
  |exit j=>
   simp only at h|-
   split
   ·rename_i e;rw[if_pos e]at h;exact hQ _ _ h
   ·rename_i e;rw[if_neg e]at h;exact hQ _ _ h
  |_=>exact hQ _ _ h) h
 | .loop x,Q,Q',s,hQ,h=>by
   obtain⟨ι,st,bQ,pK,i0,h0,hle,h2⟩:=h
   refine⟨fun m s=>∃i,bQ i/\pK i=m/\s=st i,⟨pK i0,st i0,hle,i0,h0,rfl,rfl⟩, ?_⟩
   rintro m s0 ⟨i,hg,rfl,rfl⟩
   refine eK x _ _ _ (fun e s h=> ?_) (h2 i hg)
   cases e with
   |normal=>
    obtain⟨j,k1,k2,k3⟩:=h
    exact⟨pK j,st j,k2,k3,j,k1,rfl,rfl⟩
   |_=>exact hQ _ _ h
 | .exit id,_,_,_,hQ,h=>hQ _ _ h
 | .ret,_,_,_,hQ,h=>hQ _ _ h
 | .H6 g ps x y,_,_,_,hQ,h=>⟨h.1,match h.2 with
   | .inl h=>⟨_, .inl rfl,sq hQ h⟩
   | .inr ⟨s',hle,h⟩=>⟨s', .inr hle,sq hQ h⟩⟩
 | .bad,_,_,_,_,h=>h.elim
end
theorem aR.az {P:Program}(bB:P.follows .mixedOrders=true){f:FuncId}{n:Nat}{ic:IC}{rs:List ResultVar}{ds:List D}{out:R}(hf:aG P f n ic rs)(hl:ds.length<=n)
 (h:lj P n 0 false ic (EK P rs out) ⟨cE (ds.map .d),fun _=> .no,0⟩):aR P f ds out:=
 aR.vu bB hf hl (eK ic _ _ _ (fun _ _ h=>h) h)
def su(P:Program)(rs:List ResultVar)(K X:V->(Nat->ab)->Nat->Prop)(e:fX)(s:S):Prop:=my P rs K X e s
theorem cK.az {P:Program}(bB:P.follows .mixedOrders=true){f:FuncId}{n:Nat}{ic:IC}{rs:List ResultVar}{args:List V}{o:Nat->ab}{nx:Nat}{K X:V->(Nat->ab)->Nat->Prop}(hf:aG P f n ic rs)(hl:args.length<=n)
 (h:lj P n nx false ic (su P rs K X) ⟨cE args,o,nx⟩):cK P f args o nx K X:=
 cK.vu bB hf hl (eK ic _ _ _ (fun _ _ h=>h) h)
section
variable {P:Program}{g:FuncId}{ds:List D}{o:Nat->ab}{nx:Nat}{K X:V->(Nat->ab)->Nat->Prop}{all:List V}
theorem ai{rs:List D}(h:aR P g ds (.ret rs))(hf:D.ku rs=true)(hk:K (jR rs) o (nx+1)):tl P g o nx K X ds all:= .inl ⟨.ret rs,h, .inr (.inl ⟨hf,hk⟩)⟩
theorem aP{rs:List D}(h:aR P g ds (.ret rs))(hk:K (jR rs) (put o (dk o (V.bD all))) (nx+1)):tl P g o nx K X ds all:= .inl ⟨.ret rs,h, .inl hk⟩
theorem dX{x:D}(h:aR P g ds (.bP x))(hf:x.flat=true)(hk:X (.d x) o (nx+1)):tl P g o nx K X ds all:= .inl ⟨.bP x,h, .inr (.inl ⟨hf,hk⟩)⟩
theorem c7(h:cK P g all o nx K X):tl P g o nx K X ds all:= .inr (.inl h)
theorem cU{e:Nat->V}{ds:Option (List D)}(h:cK P g all o nx K X):nI P g K X ⟨e,o,nx⟩ all ds:=by
 cases ds with
 |some ds=>exact(.inr (.inl h):tl P g o nx K X ds all)
 |none=>exact(.inl h:CN P g nx K X all o)
theorem bc(h:cK P g all o nx K X):CN P g nx K X all o:= .inl h
variable {K:KD}{X:XD}{rd:List Nat}{fr:Nat}
theorem aw{rs:List D}(h:aR P g ds (.ret rs))(hf:D.ku rs=true)(hk:K (jR rs) [] rd):nJ P g K X o nx fr rd ds all:= .inl (.inl ⟨rs,h, .inr ⟨hf,hk⟩⟩)
theorem ba{rs:List D}(h:aR P g ds (.ret rs))(hk:K (jR rs) (dk o (V.bD all)) rd):nJ P g K X o nx fr rd ds all:= .inl (.inl ⟨rs,h, .inl hk⟩)
theorem cZ{x:D}(h:aR P g ds (.bP x))(hf:x.flat=true)(hk:X (.d x) [] rd):nJ P g K X o nx fr rd ds all:= .inl (.inr (.inl ⟨x,h,hf,hk⟩))
theorem IU{v:V}(h:Tf P g ds v)(hk:K v (dk o (V.bD all)) rd):nJ P g K X o nx fr rd ds all:= .inl (.inr (.inr ⟨v,h,hk⟩))
theorem yF{v:V}{uf:List Nat}{Δ:List (Nat×ab)}(oO:uf.all (fun id=>decide (id<nx))=true)(h:yq P g all uf o fr v Δ)(hk:K v Δ uf):nJ P g K X o nx fr rd ds all:= .inr ⟨uf,Δ,oO, .inr (.inr ⟨v,h,hk⟩)⟩
end
theorem fC{P:Program}{f:V}{args:List V}{o:Nat->ab}{K:V->Prop}{c:Bool}(rs:List D)(h:mM c (CM P f args o rs))(hk:K (V.Ay c (jR rs))):GH P f args o K c:=⟨rs,h,hk⟩
theorem aj{t:Bool}{A B:Prop}(h:t=true->A)(h2:t=false->B):jB A B t:=⟨h,h2⟩
theorem aD{pr:List (List Nat)}{nx:Nat}{Q:fX->S->Prop}{s:S}{fp:List (List Nat×List Nat)}(h:iU pr fp=true)(h2:Q .normal ⟨s.env,s.o,nx⟩):PR pr nx Q s fp:=⟨h,h2⟩
@[go_sem] theorem Mj (o:Nat->ab):put o []=o:=rfl
@[go_sem] theorem IV (o:Nat->ab) (x:Nat×ab) (l:List (Nat×ab)):put o (x::l)=put (aK o x.1 x.2) l:=rfl
@[go_sem] theorem ad {α:Type} (f:Nat->α) (i:Nat) (x:α):aK f i x i=x:=ao
@[go_sem] theorem ak {α:Type} (f:Nat->α) (i j:Nat) (x:α) (h:j≠i):aK f i x j=f j:=by simp[h]
@[go_sem] theorem PT (v:V) (l:List V):cE (v::l) 0=v:=rfl
@[go_sem] theorem PU (v:V) (l:List V) (i:Nat):cE (v::l) (i+1)=cE l i:=rfl
@[go_sem] theorem Tz (i:Nat):cE [] i= .cg []:=by simp[cE]
@[go_sem] theorem aaq {P:Program} {o:Nat->ab} {t:TypeId} {id off:Nat}:nB P o t (.ptr id off)=match o id with
 | .row cs=>match ft P t cs off with
   |some v=>some (v,[],[id])
   |none=>none
 |_=>none:=by unfold nB;exact Eq.trans rfl rfl
@[go_sem] theorem ach {P:Program} {o:Nat->ab} {t:TypeId} {cs:List D} {off:Nat}:nB P o t (.pp cs off)=match ft P t (cs.map .d) off with
 |some v=>some (v,[],[])
 |none=>none:=by unfold nB;exact Eq.trans rfl rfl
@[go_sem] theorem aci {P:Program} {o:Nat->ab} {t:TypeId} {id ep i sz off:Nat}:nB P o t (.pe id ep i sz off)=match o id with
 | .arr jx _ rG es=>if ep=jx/\sz=rG then match es[i]? with
  |some e=>match ft P t (e.cells.map .d) off with
   |some v=>some (v,[],[id])
   |none=>none
  |none=>none
   else none
 |_=>none:=by unfold nB;exact Eq.trans rfl rfl
section
variable {P:Program}{o:Nat->ab}{t:TypeId}{op:BinOp}{pw:Bool}
@[go_sem] theorem aar {k:IntKind} {a b:Int}:eP P o op t pw (.d (.int k a)) (.d (.int k b))=match Cv op k a b with
 |some v=>one v
 |none=>rU P o op t pw (.d (.int k a)) (.d (.int k b)):=by
  simp only[eP,Aj,if_true]
  cases Cv op k a b<;>rfl
@[go_sem] theorem aas {a b:Bool} (h:oA P t=true):eP P o .eql t pw (.d (.bool a)) (.d (.bool b))=one (.d (.bool (a==b))):=by simp only[eP,Aj,LZ,h,if_true]
@[go_sem] theorem aat {a b:Bool} (h:oA P t=true):eP P o .neq t pw (.d (.bool a)) (.d (.bool b))=one (.d (.bool (a !=b))):=by simp only[eP,Aj,LZ,h,if_true]
@[go_sem] theorem aau {a b:List UInt8}:eP P o .eql t pw (.d (.str a)) (.d (.str b))=one (.d (.bool (a==b))):=KN
@[go_sem] theorem aav {a b:List UInt8}:eP P o .neq t pw (.d (.str a)) (.d (.str b))=one (.d (.bool (a !=b))):=KN
@[go_sem] theorem aaw {a b:List D}:eP P o op t pw (.d (.agg a)) (.d (.agg b))=rU P o op t pw (.d (.agg a)) (.d (.agg b)):=KN
theorem O6{x:V}{y:V}(h:match y with| .d (.int _ _)| .d (.bool _)| .d (.str _)=>False|_=>True):Aj P op t x y=none:=by
 unfold Aj
 split<;>first|exact h.elim|rfl
@[go_sem] theorem W8 {x:V}:eP P o op t pw x .br=rU P o op t pw x .br:=Kx
@[go_sem] theorem W9 {x:V}:eP P o op t pw x (.d .fI)=rU P o op t pw x (.d .fI):=Kx
@[go_sem] theorem Xa {x:V}:eP P o op t pw x (.d .mU)=rU P o op t pw x (.d .mU):=Kx
@[go_sem] theorem Xb {x:V}:eP P o op t pw x (.d .bN)=rU P o op t pw x (.d .bN):=Kx
@[go_sem] theorem Xc {x:V}:eP P o op t pw x (.d .jw)=rU P o op t pw x (.d .jw):=Kx
@[go_sem] theorem acj {b:Bool}:HY .not (.d (.bool b))=some (.d (.bool !b)):=KT
@[go_sem] theorem ack:HY .not .fq=some .fq:=KT
@[go_sem] theorem acm {k:IntKind} {n:Int}:HY .neg (.d (.int k n))=some (.d (.int k (k.wrap (-n)))):=KT
end
@[go_sem] theorem D.aax (cs:List D):(D.agg cs).cells=cs:=rfl
@[go_sem] theorem D.aay (k:IntKind) (n:Int):(D.int k n).cells=[.int k n]:=rfl
@[go_sem] theorem D.Xd (b:Bool):(D.bool b).cells=[.bool b]:=rfl
@[go_sem] theorem D.aaz (b:List UInt8):(D.str b).cells=[.str b]:=rfl
@[go_sem] theorem D.acn (b:List D):(D.sl b).cells=[.sl b]:=rfl
@[go_sem] theorem D.aco (a b:List D):(D.mp a b).cells=[.mp a b]:=rfl
@[go_sem] theorem D.TA (t:TypeId) (x:D):(D.iface t x).cells=[.iface t x]:=rfl
@[go_sem] theorem D.Xe:D.fI.cells=[.fI]:=rfl
@[go_sem] theorem D.Xf:D.mU.cells=[.mU]:=rfl
@[go_sem] theorem D.Xg:D.bN.cells=[.bN]:=rfl
@[go_sem] theorem D.Xh:D.jw.cells=[.jw]:=rfl
attribute [go_sem] V.ofConst V.dI Cv LZ qG ER yp o8 ja jb sd hU mA qH qI qJ se jX L0 mq ew ct ft zU sX lO V.cells D.put dk V.ids V.bD jR D.ku D.flat R.flat
attribute [go_sem] Eu List.take_succ_cons List.take_zero List.take_nil List.drop_zero List.drop_succ_cons List.drop_nil
attribute [go_sem] List.map_cons List.map_nil List.length_cons List.length_nil List.cons_append List.nil_append List.append_nil List.getElem?_cons_zero List.getElem?_cons_succ Option.bind_some Option.bind_none Option.map_some Option.map_none ab.cB ab.cA
section
variable {P:Program}{n b:Nat}{rd:Bool}{Q:fX->S->Prop}{s:S}
@[go_sem] theorem acp:lj P n b rd .skip Q s=Q .normal s:=propext Iff.rfl
@[go_sem] theorem PV {l:List ck}:lj P n b rd (.ae l) Q s=tU P (fun v s=>Q (.bP v) s) (Q .normal) l s:=propext Iff.rfl
@[go_sem] theorem ae3 {l:List ck} {pr:List (List Nat)}:lj P n b rd (.dZ l pr) Q s=qL P (PR pr (s.nx+l.length) Q) (CJ pr l s Q) pr l s.nx s []:=propext Iff.rfl
@[go_sem] theorem PW {x y:IC}:lj P n b rd (.seq x y) Q s=lj P n b rd x (qz (fun s=>lj P n b rd y Q s) Q) s:=propext Iff.rfl
@[go_sem] theorem acq {c:Operand} {x y:IC}:lj P n b rd (.cond c x y) Q s=yC (lj P n b rd x Q s) (lj P n b rd y Q s) (s.ev c):=propext Iff.rfl
@[go_sem] theorem aaA {id:Nat} {x:IC}:lj P n b rd (.block id x) Q s=lj P n b rd x (fY id Q) s:=propext Iff.rfl
@[go_sem] theorem acr {x:IC}:lj P n b rd (.loop x) Q s=vz b (fun Q s=>lj P n b rd x Q s) Q s:=propext Iff.rfl
@[go_sem] theorem acs {id:Nat}:lj P n b rd (.exit id) Q s=Q (.exit id) s:=propext Iff.rfl
@[go_sem] theorem ae4:lj P n b rd .ret Q s=Q .ret s:=propext Iff.rfl
@[go_sem] theorem ae5 {g:Operand} {ps:List Nat} {x y:IC}:lj P n b rd (.H6 g ps x y) Q s=xj P n b rd g ps x y Q s (s.ev g):=propext Iff.rfl
@[go_sem] theorem Mk {X:V->S->Prop} {K:S->Prop}:tU P X K [] s=K s:=propext Iff.rfl
@[go_sem] theorem IW {X:V->S->Prop} {K:S->Prop} {d:Option Nat} {op:Op} {l:List ck}:tU P X K (⟨d,op,none⟩::l) s=CQ P X (tU P X K l) ⟨d,op,none⟩ s:=propext Iff.rfl
@[go_sem] theorem aaB {X:V->S->Prop} {K:S->Prop} {d:Option Nat} {op:Op} {g:Nat} {w:Bool} {l:List ck}:tU P X K (⟨d,op,some (g,w)⟩::l) s=Az P X (tU P X K l) ⟨d,op,some (g,w)⟩ s (mN (s.env g) w):=propext Iff.rfl
variable {X:V->S->Prop}{K:S->Prop}{d:Option Nat}{op:Op}{g:Option (Nat×Bool)}{f:Operand}{args:Array Operand}{ts:Array TypeId}{c:Bool}
@[reducible] def Xi:Op->Bool
  | .call c=>match c.callee with
    | .value _=>true
    | .invoke .. =>true
    |_=>false
  | .panic _=>true
  | .next .. =>true
  |_=>false
@[go_sem] theorem Xj (h:Xi op=false):CQ P X K ⟨d,op,g⟩ s=lh (fun v Δ=>K ⟨bt s.env d v,put s.o Δ,s.nx+1⟩) (gQ P s s.nx op):=by
  unfold CQ
  cases op with
  |call c=>
   obtain⟨LN,args,ts⟩:=c
   cases LN with
   |value f=>simp[Xi]at h
   |invoke r m=>simp[Xi]at h
   |_=>rfl
  |panic x=>simp[Xi]at h
  |next x str=>simp[Xi]at h
  |_=>rfl
@[go_sem] theorem acu {x:Operand} {str:Bool}:CQ P X K ⟨d, .next x str,g⟩ s=Mg (fun v Δ=>K ⟨bt s.env d v,put s.o Δ,s.nx+1⟩) str (oY s.o (s.ev x) str) (oZ s.o (s.ev x)):=propext Iff.rfl
@[go_sem] theorem acv:CQ P X K ⟨d, .call ⟨.value f,args,ts⟩,g⟩ s=tn P (fun v o' nx'=>K ⟨bt s.env d v,o',nx'⟩) (fun v o' nx'=>X v ⟨s.env,o',nx'⟩) s (s.ev f) (args.toList.map s.ev):=propext Iff.rfl
@[go_sem] theorem Xk {m:String}:CQ P X K ⟨d, .call ⟨.invoke f m,args,ts⟩,g⟩ s=Mf P (fun v o' nx'=>K ⟨bt s.env d v,o',nx'⟩) (fun v o' nx'=>X v ⟨s.env,o',nx'⟩) s (args.toList.map s.ev) (u5 P m (s.ev f)):=propext Iff.rfl
@[go_sem] theorem aaC:CQ P X K ⟨d, .panic f,g⟩ s=IP (fun v=>X v s) (s.ev f):=propext Iff.rfl
@[go_sem] theorem aaD:Az P X K ⟨d, .call ⟨.value f,args,ts⟩,g⟩ s (some c)=E7 P X K ⟨d, .call ⟨.value f,args,ts⟩,g⟩ s f args.toList c:=propext Iff.rfl
theorem gR{e:Nat->V}{ob:Nat->ab}{nx:Nat}(h:GH P ((⟨e,ob,nx⟩:S).ev f) (args.toList.map (⟨e,ob,nx⟩:S).ev) ob (fun v=>K ⟨bt e d v,ob,nx+1⟩) c):E7 P X K ⟨d,op,g⟩ ⟨e,ob,nx⟩ f args.toList c:= .inl h
theorem CW{s:S}{o:ck}{l:List Operand}(h:jB (CQ P X K o s) (K ⟨bt s.env o.dst (.cg []),s.o,s.nx+1⟩) c):E7 P X K o s f l c:= .inr h
@[go_sem] theorem aaE (h:lF op=true):Az P X K ⟨d,op,g⟩ s (some c)=lh (fun v _=>K ⟨bt s.env d v,s.o,s.nx+1⟩) (lE c (gQ P s s.nx op)):=by
  have h2:gI op=none:=by
   cases hc:gI op with
   |none=>rfl
   |some x=>
    exfalso
    unfold gI at hc
    split at hc
    ·split at hc
     ·rename_i hv;simp[lF,hv]at h
     ·cases hc
    ·cases hc
  simp only[Az,h2,h,if_true]
@[go_sem] theorem aaF (h:lF op=false) (h2:gI op=none):Az P X K ⟨d,op,g⟩ s (some c)=jB (CQ P X K ⟨d,op,g⟩ s) (K ⟨bt s.env d (.cg []),s.o,s.nx+1⟩) c:=by
  simp[Az,h2,h]
@[go_sem] theorem Xl {l:List Operand}:E7 P X K ⟨d,op,g⟩ s f l false=K ⟨bt s.env d (.cg []),s.o,s.nx+1⟩:=by
  refine propext ⟨fun h=> ?_,fun h=> .inr ⟨(fun e=>by cases e),fun _=>h⟩⟩
  rcases h with⟨rs,_,h⟩|h
  ·exact h
  ·exact h.2 rfl
@[go_sem] theorem aaG {l:List Operand} (hl:args.toList=l):E7 P X K ⟨d, .call ⟨.value f,args,ts⟩,g⟩ s f l true=CQ P X K ⟨d, .call ⟨.value f,args,ts⟩,g⟩ s:=by
  subst hl
  refine propext ⟨fun h=> ?_,fun h=> .inr ⟨fun _=>h,(fun e=>by cases e)⟩⟩
  rcases h with⟨rs,h1,h⟩|h
  ·have h1:=h1 rfl
   unfold CM at h1
   unfold CQ tn nI
   simp only
   split at h1
   ·rename_i fv gg first cap hf
    simp only[hf]
    split at h1
    ·rename_i ds fG
     simp only[fG]
     exact .inl ⟨.ret rs,h1.1, .inr (.inl ⟨h1.2,h⟩)⟩
    ·exact h1.elim
   ·exact h1.elim
  ·exact h.1 rfl
variable {KV:KD}{XV:XD}
@[go_sem] theorem acw {fr:Nat}:ON P KV XV fr ⟨d, .call ⟨.value f,args,ts⟩,g⟩ s=CS P KV XV s.o s.nx fr (oS s (.call ⟨.value f,args,ts⟩)) (s.ev f) (args.toList.map s.ev):=propext Iff.rfl
@[go_sem] theorem afP {fr:Nat} (h2:gI op=none):ON P KV XV fr ⟨d,op,g⟩ s=vw KV (oS s op) (gQ P s fr op):=by simp[ON,h2]
variable {KS:S->Prop}
@[go_sem ↓] theorem AD:qz KS Q .normal s=KS s:=propext Iff.rfl
@[go_sem ↓] theorem Xm {id:Nat}:qz KS Q (.exit id) s=Q (.exit id) s:=propext Iff.rfl
@[go_sem ↓] theorem aaH:qz KS Q .ret s=Q .ret s:=propext Iff.rfl
@[go_sem ↓] theorem xE {v:V}:qz KS Q (.bP v) s=Q (.bP v) s:=propext Iff.rfl
@[go_sem ↓] theorem OO {id:Nat}:fY id Q .normal s=Q .normal s:=propext Iff.rfl
@[go_sem ↓] theorem TC {id:Nat}:fY id Q (.exit id) s=Q .normal s:=by simp[fY]
@[go_sem ↓] theorem PX {id j:Nat} (h:j≠id):fY id Q (.exit j) s=Q (.exit j) s:=by simp[fY,h]
@[go_sem ↓] theorem Xn {id:Nat}:fY id Q .ret s=Q .ret s:=propext Iff.rfl
@[go_sem ↓] theorem uI {id:Nat} {v:V}:fY id Q (.bP v) s=Q (.bP v) s:=propext Iff.rfl
def PY(out:R)(x:Option (List D)):Prop:=match x with|some ds=>out= .ret ds|none=>False
@[go_sem] theorem aaI {out:R} {ds:List D}:PY out (some ds)=(out= .ret ds):=propext Iff.rfl
def Xo(out:R)(x:Option D):Prop:=match x with|some d=>out= .bP d|none=>False
@[go_sem] theorem xH {out:R} {d:D}:Xo out (some d)=(out= .bP d):=propext Iff.rfl
def PZ(out:R)(o:Nat->ab)(x:Option (List V)):Prop:=match x with|some vs=>PY out (ct o vs)|none=>False
@[go_sem] theorem aaJ {out:R} {o:Nat->ab} {vs:List V}:PZ out o (some vs)=PY out (ct o vs):=propext Iff.rfl
variable {rs:List ResultVar}{out:R}
@[go_sem ↓] theorem aaK:EK P rs out .ret s=PZ out s.o (mq P s rs):=propext Iff.rfl
@[go_sem ↓] theorem P6:EK P rs out .normal s=PZ out s.o (mq P s rs):=propext Iff.rfl
@[go_sem ↓] theorem xG {v:V}:EK P rs out (.bP v) s=Xo out (ew s.o v):=propext Iff.rfl
def CX(K:V->(Nat->ab)->Nat->Prop)(o:Nat->ab)(nx:Nat)(x:Fix (Option (List V)) (K,o,nx)):Prop:=match x with
 |some [v]=>K v o nx
 |some vs=>K (.cg vs) o nx
 |none=>False
@[go_sem] theorem acx {K:V->(Nat->ab)->Nat->Prop} {o:Nat->ab} {nx:Nat} {v:V}:CX K o nx (some [v])=K v o nx:=propext Iff.rfl
@[go_sem] theorem acy {K:V->(Nat->ab)->Nat->Prop} {o:Nat->ab} {nx:Nat}:CX K o nx (some [])=K (.cg []) o nx:=propext Iff.rfl
@[go_sem] theorem acz {K:V->(Nat->ab)->Nat->Prop} {o:Nat->ab} {nx:Nat} {v u:V} {l:List V}:CX K o nx (some (v::u::l))=K (.cg (v::u::l)) o nx:=propext Iff.rfl
theorem GK{K X:V->(Nat->ab)->Nat->Prop}:my P rs K X .ret s=CX K s.o s.nx (mq P s rs):=by
 unfold my CX
 cases mq P s rs with
 |none=>rfl
 |some l=>match l with
  |[]=>rfl
  |[_]=>rfl
  |_::_::_=>rfl
@[go_sem ↓] theorem acA {K X:V->(Nat->ab)->Nat->Prop}:su P rs K X .ret s=CX K s.o s.nx (mq P s rs):=GK
@[go_sem ↓] theorem TD {K X:V->(Nat->ab)->Nat->Prop}:su P rs K X .normal s=CX K s.o s.nx (mq P s rs):=(GK (X:=X):my P rs K X .ret s=_)
@[go_sem ↓] theorem BA {K X:V->(Nat->ab)->Nat->Prop} {v:V}:su P rs K X (.bP v) s=X v s.o s.nx:=propext Iff.rfl
variable {KE:S->Fp->Prop}{KP:V->List Nat->Fp->Prop}{pr:List (List Nat)}{fr:Nat}{fp:Fp}
@[go_sem] theorem acB:qL P KE KP pr [] fr s fp=KE s fp:=propext Iff.rfl
@[go_sem] theorem aaL {d:Option Nat} {op:Op} {l:List ck}:qL P KE KP pr (⟨d,op,none⟩::l) fr s fp=
 ON P (fun v Δ rd=>qL P KE KP pr l (fr+1) ⟨bt s.env d v,put s.o Δ,s.nx⟩ (fp++[(rd,Δ.map (·.1))]))
  (fun v ws rd=>CT P (KP v) pr l (fr+1) (fp++[(rd,[])]) [fp.length] (ws++fp.flatMap (·.2)) ⟨bt s.env d .aa,s.o,s.nx⟩) fr ⟨d,op,none⟩ s:=propext Iff.rfl
@[go_sem] theorem aaM {d:Option Nat} {op:Op} {g:Nat} {w:Bool} {l:List ck}:qL P KE KP pr (⟨d,op,some (g,w)⟩::l) fr s fp=
 kz w (ON P (fun v Δ rd=>qL P KE KP pr l (fr+1) ⟨bt s.env d v,put s.o Δ,s.nx⟩ (fp++[(rd,Δ.map (·.1))]))
  (fun v ws rd=>CT P (KP v) pr l (fr+1) (fp++[(rd,[])]) [fp.length] (ws++fp.flatMap (·.2)) ⟨bt s.env d .aa,s.o,s.nx⟩) fr ⟨d,op,some (g,w)⟩ s)
   (qL P KE KP pr l (fr+1) ⟨bt s.env d (.cg []),s.o,s.nx⟩ (fp++[([],[])])) (s.env g):=propext Iff.rfl
end
attribute [go_sem] Xi gI lF gQ one lW bt S.ev CM
theorem au{ι:Type}{b:Nat}{st:ι->S}{bQ:ι->Prop}{pK:ι->Nat}{i:ι}{s:S}(j:ι)(h1:bQ j)(h2:pK j<pK i)(h3:bJ b s (st j)):GI b st bQ pK i s:=⟨j,h1,h2,h3⟩
attribute [irreducible] lj tU CQ Az E7 tn nI CO Me Mf GH tl CN lh IP jB kz Mh nJ sr ss CS vw ON qL CT xj yB su CX PR yC vz PY Xo PZ vx GI
end
section
section
variable (ρ:Nat->Option Nat)(o' o:Nat->ab)(nx:Nat)
end
section
variable {M M':Nat->Prop}{φ aN:Place}{H H':Hp}{w:World}{ρ:Nat->Option Nat}{nx:Nat}
end
end
@[go_sem] theorem oB (v:V) (l:List V):bp (v::l) 0=v:=rfl
@[go_sem] theorem oC (v:V) (l:List V) (i:Nat):bp (v::l) (i+1)=bp l i:=rfl
@[go_sem] theorem qM (i:Nat):bp [] i= .aa:=by simp[bp]
@[go_sem] theorem TE (k:Nat):(0<=(k:Int))=True:=ao
attribute [go_sem] List.getElem?_map List.length_map Int.toNat_natCast
attribute [go_sem] fu List.flatMap_cons List.flatMap_nil
attribute [go_sem] isConst rU Pm rS rT BW rR qj Ev Po xU H8 pq pt xT uR uS qk
attribute [go_sem] oS V.refs V.aL
attribute [go_sem] List.all_nil List.all_cons Option.some.injEq D.int.injEq D.bool.injEq Nat.zero_add Nat.add_zero
theorem wrap64{n:Int}(h1: -9223372036854775808<=n)(h2:n<=9223372036854775807):IntKind.i64.wrap n=n:=by
 unfold IntKind.wrap
 have e1:((2:Int)^IntKind.i64.bits)=18446744073709551616:=bE
 have e2:((2:Int)^(IntKind.i64.bits - 1))=9223372036854775808:=bE
 have e3:IntKind.i64.signed=true:=rfl
 simp only[e1,e2,e3,Bool.true_and,decide_eq_true_eq]
 split<;>omega
end Go.Proofs.YtonbelhklnmjnaaGreat
