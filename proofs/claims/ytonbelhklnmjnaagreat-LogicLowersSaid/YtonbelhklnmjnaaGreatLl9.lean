/-
  A PART OF THE PROOF. Conditions: none.
-/
import Derived.Test.YtonbelhklnmjnaaGreatLl8
set_option linter.unusedSimpArgs false
set_option linter.unusedVariables false
namespace Go.Proofs.YtonbelhklnmjnaaGreat
section
def tR(P:Program)(g:FuncId)(ds:List D)(Kf Kb KX:V->Prop):Prop:=
 (∃rs,aQ P g ds (.ret rs)/\(Kf (ke rs)\/(D.kO rs=true/\Kb (ke rs))))\/(∃x,aQ P g ds (.bW x)/\x.flat=true/\KX (.d x))\/(∃v,UR P g ds v/\Kf v)
def jR(P:Program)(g:FuncId)(args:List V)(o:Nat->ab)(nx fr:Nat)(K:V->List (Nat×ab)->List Nat->Prop)(KX:V->List Nat->List Nat->Prop):Prop:=
 ∃rd Δ,rd.all (fun id=>decide (id<nx))=true/\((∃rs,Hy P g args rd o (.ret rs) Δ/\K (ke rs) Δ rd)\/(∃x,Hy P g args rd o (.bW x) Δ/\KX (.d x) (Δ.map (·.1)) rd)\/(∃v,zi P g args rd o fr v Δ/\K v Δ rd))
def Cd(P:Program)(s:S)(fr:Nat)(o:cq)(K:V->List (Nat×ab)->List Nat->Prop)(KX:V->List Nat->List Nat->Prop):Prop:=
 match o.op with
 | .call c=>match c.callee with
   | .value f=>match s.ev f with
     | .func (.func g) first cap=>match cA s.o (first++c.args.toList.map s.ev++cap)with
       |some ds=>tR P g ds (fun v=>K v (dw s.o (V.bK (first++c.args.toList.map s.ev++cap))) (pB s o.op)) (fun v=>K v [] (pB s o.op)) (fun v=>KX v [] (pB s o.op))\/jR P g (first++c.args.toList.map s.ev++cap) s.o s.nx fr K KX
       |none=>jR P g (first++c.args.toList.map s.ev++cap) s.o s.nx fr K KX
     |_=>False
   |_=>match gZ P s fr o.op with
    |some (v,Δ,_)=>K v Δ (pB s o.op)
    |none=>False
 |op=>match gZ P s fr op with
  |some (v,Δ,_)=>K v Δ (pB s o.op)
  |none=>False
abbrev Fp:=List (List Nat×List Nat)
def jo(P:Program)(KB:List Nat->Fp->Prop)(pr:List (List Nat)):List cq->Nat->S->Fp->List Nat->List Nat->Prop
 |[],_,_,fp,_,ws=>KB ws fp
 |o::l,fr,s,fp,bad,ws=>if(pr.getD fp.length []).any (fun j=>bad.contains j)=true then jo P KB pr l (fr+1) ⟨bB s.env o.dst .aa,s.o,s.nx⟩ (fp++[([],[])]) (bad++[fp.length]) ws
  else match o.gd with
  |none=>Cd P s fr o (fun v Δ rd=>jo P KB pr l (fr+1) ⟨bB s.env o.dst v,put s.o Δ,s.nx⟩ (fp++[(rd,Δ.map (·.1))]) bad (ws++Δ.map (·.1))) (fun _ _ _=>False)
  |some (d,want)=>match s.env d with
   | .d (.bool b)=>if b=want then Cd P s fr o (fun v Δ rd=>jo P KB pr l (fr+1) ⟨bB s.env o.dst v,put s.o Δ,s.nx⟩ (fp++[(rd,Δ.map (·.1))]) bad (ws++Δ.map (·.1))) (fun _ _ _=>False)
    else jo P KB pr l (fr+1) ⟨bB s.env o.dst (.cn []),s.o,s.nx⟩ (fp++[([],[])]) bad ws
   | .cn []=>jo P KB pr l (fr+1) ⟨bB s.env o.dst (.cn []),s.o,s.nx⟩ (fp++[([],[])]) bad ws
   |_=>False
def lR(P:Program)(K:S->Fp->Prop)(KP:V->List Nat->Fp->Prop)(pr:List (List Nat)):List cq->Nat->S->Fp->Prop
 |[],_,s,fp=>K s fp
 |o::l,fr,s,fp=>match o.gd with
  |none=>Cd P s fr o (fun v Δ rd=>lR P K KP pr l (fr+1) ⟨bB s.env o.dst v,put s.o Δ,s.nx⟩ (fp++[(rd,Δ.map (·.1))]))
   (fun v ws rd=>jo P (KP v) pr l (fr+1) ⟨bB s.env o.dst .aa,s.o,s.nx⟩ (fp++[(rd,[])]) [fp.length] (ws++fp.flatMap (·.2)))
  |some (d,want)=>match s.env d with
   | .d (.bool b)=>if b=want then Cd P s fr o (fun v Δ rd=>lR P K KP pr l (fr+1) ⟨bB s.env o.dst v,put s.o Δ,s.nx⟩ (fp++[(rd,Δ.map (·.1))]))
         (fun v ws rd=>jo P (KP v) pr l (fr+1) ⟨bB s.env o.dst .aa,s.o,s.nx⟩ (fp++[(rd,[])]) [fp.length] (ws++fp.flatMap (·.2)))
    else lR P K KP pr l (fr+1) ⟨bB s.env o.dst (.cn []),s.o,s.nx⟩ (fp++[([],[])])
   | .cn []=>lR P K KP pr l (fr+1) ⟨bB s.env o.dst (.cn []),s.o,s.nx⟩ (fp++[([],[])])
   |_=>False
def FW(pr:List (List Nat))(nx:Nat)(Q:gf->S->Prop)(s:S)(fp:Fp):Prop:=je pr fp=true/\Q .normal ⟨s.env,s.o,nx⟩
def dstsOf(l:List cq):List Nat:=l.filterMap (·.dst)
def Dt(pr:List (List Nat))(l:List cq)(s0:S)(Q:gf->S->Prop)(v:V)(wl:List Nat)(fp:Fp):Prop:=je pr fp=true/\Q (.bW v) (sv (dstsOf l) wl l.length s0)
def nX:List cq->List gh->S->Nat->S
 |_,_,s,0=>s
 |o::l,x::xs,s,j+1=>nX l xs (xH o.dst x s) j
 |_,_,s,_=>s
def zq(cE:List gh):Fp:=cE.map fun x=>(x8 x,lP x)
section
variable {P:Program}{n b:Nat}
theorem Du{s:S}{fr:Nat}{o:cq}{K:V->List (Nat×ab)->List Nat->Prop}{KX:V->List Nat->List Nat->Prop}(h:Cd P s fr o K KX):(∃v Δ rd,zj P s fr o.op v Δ rd/\K v Δ rd)\/(∃v ws rd,Dl P s o.op v ws rd/\KX v ws rd):=by
 have hs:∀ {op:Op},o.op=op->(match gZ P s fr op with|some (v,Δ,_)=>K v Δ (pB s o.op)|none=>False)->(∃v Δ rd,zj P s fr o.op v Δ rd/\K v Δ rd):=by
  intro op eJ h
  split at h
  ·rename_i v Δ rd he;exact⟨v,Δ,_, .inl ⟨⟨rd,by rw[eJ];exact he⟩,rfl⟩,h⟩
  ·exact h.elim
 unfold Cd at h
 split at h
 ·rename_i c hc
  split at h
  ·rename_i f fS
   split at h
   ·rename_i g first cap hf
    split at h
    ·rename_i ds fT
     rcases h with(⟨rs,hP,h|⟨qH,h⟩⟩|⟨x,hP,qH,h⟩|⟨v,hP,h⟩)|⟨rd,Δ,pw,⟨rs,hH,h⟩|⟨x,hH,h⟩|⟨v,hH,h⟩⟩
     ·exact .inl ⟨_,_,_, .inr ⟨c,f,g,first,cap,hc,fS,hf, .inl ⟨ds,rs,fT,hP,rfl,rfl, .inl rfl⟩⟩,h⟩
     ·exact .inl ⟨_,_,_, .inr ⟨c,f,g,first,cap,hc,fS,hf, .inl ⟨ds,rs,fT,hP,rfl,rfl, .inr ⟨qH,rfl⟩⟩⟩,h⟩
     ·exact .inr ⟨_,_,_,⟨c,f,g,first,cap,hc,fS,hf, .inl ⟨ds,x,fT,hP,qH,rfl,rfl,rfl⟩⟩,h⟩
     ·exact .inl ⟨_,_,_, .inr ⟨c,f,g,first,cap,hc,fS,hf, .inr (.inr (.inl ⟨ds,fT,hP,rfl,rfl⟩))⟩,h⟩
     ·exact acE
     ·exact acH
     ·exact acF
    ·obtain⟨rd,Δ,pw,⟨rs,hH,h⟩|⟨x,hH,h⟩|⟨v,hH,h⟩⟩:=h
     ·exact acE
     ·exact acH
     ·exact acF
   ·exact h.elim
  ·rw[hc]at h;exact .inl (hs hc (by rw[hc];exact h))
 ·exact .inl (hs rfl h)
def Ra(P:Program)(KB:List Nat->Fp->Prop)(pr:List (List Nat))(l:List cq)(fr:Nat)(s:S)(fp:Fp)(bad ws:List Nat):Prop:=
    ∃cE:List gh,cE.length=l.length/\(∀j o x,l[j]? =some o->cE[j]? =some x->US P (nX l cE s j) (fr+j) o x)/\
     (∀ (j:Nat),cE[j]? =some gh.fk->∃i∈pr.getD (fp.length+j) [],i∈bad\/∃j',j'<j/\i=fp.length+j'/\cE[j']? =some .fk)/\(∀x∈cE,x= .fk\/x.ok=true)/\
     ∃wl,KB wl (fp++zq cE)/\(∀id∈ws,id∈wl)/\∀x∈cE,∀id∈lP x,id∈wl
theorem Dv{KB:List Nat->Fp->Prop}{pr:List (List Nat)}:∀ (l:List cq) (fr:Nat) (s:S) (fp:Fp) (bad ws:List Nat),jo P KB pr l fr s fp bad ws->Ra P KB pr l fr s fp bad ws
 |[],fr,s,fp,bad,ws,h=>⟨[],rfl,fun j o x hj=>by simp at hj,fun j hj=>by simp at hj,fun x hx=>by simp at hx,ws,by simpa[zq,jo]using h,fun _ h=>h,fun x hx=>by simp at hx⟩
 |o::l,fr,s,fp,bad,ws,h=>by
  have step:∀ (x:gh) (Rb UW:List Nat),US P s fr o x->jo P KB pr l (fr+1) (xH o.dst x s) (fp++[(x8 x,lP x)]) Rb UW->(x= .fk\/x.ok=true)->(x= .fk->∃i∈pr.getD fp.length [],i∈bad)->
   (∀i∈Rb,i∈bad\/(i=fp.length/\x= .fk))->(∀id∈ws,id∈UW)->(∀id∈lP x,id∈UW)->
   Ra P KB pr (o::l) fr s fp bad ws:=by
   intro x Rb UW bw hr hbo JC Yl Q9 hW
   obtain⟨cE,h1,h2,h3,h4,wl,h5,h6,h7⟩:=Dv l (fr+1) _ _ Rb UW hr
   refine⟨x::cE,by simp[h1],fun j o' y hj hy=> ?_,fun j hj=> ?_,fun y hy=> ?_,wl,by simpa[zq]using h5,fun id aG=>h6 id (Q9 id aG),fun y hy id aG=> ?_⟩
   ·cases j with
    |zero=>exact LP
    |succ j=>
     have:=h2 j o' y nz (by simpa using hy)
     exact My
   ·cases j with
    |zero=>
     simp at hj
     obtain⟨i,i1,i2⟩:=JC hj
     exact⟨i,by simpa using i1, .inl i2⟩
    |succ j=>
     obtain⟨i,i1,i2⟩:=h3 j nz
     simp only[List.length_append,List.length_cons,List.length_nil]at i1 i2
     refine⟨i,by rw[show fp.length+(j+1)=fp.length+(0+1)+j by omega];exact i1, ?_⟩
     rcases i2 with i2|⟨j',j1,j2,j3⟩
     ·rcases Yl i i2 with hb|⟨e1,e2⟩
      ·exact .inl hb
      ·exact .inr ⟨0,af,af,by simp[e2]⟩
     ·exact .inr ⟨j'+1,af,af,by simpa using j3⟩
   ·rcases List.mem_cons.1 hy with rfl|hy
    ·exact hbo
    ·exact h4 y hy
   ·rcases List.mem_cons.1 hy with rfl|hy
    ·exact h6 id (hW id aG)
    ·exact h7 y hy id aG
  simp only[jo]at h
  split at h
  ·rename_i hb
   obtain⟨j,hj1,hj2⟩:=List.any_eq_true.1 hb
   exact step .fk _ _ trivial h (.inl rfl) (fun _=>⟨j,hj1,by simpa using hj2⟩) (fun i hi=>by
    rcases List.mem_append.1 hi with hi|hi
    ·exact .inl hi
    ·exact .inr ⟨by simpa using hi,rfl⟩) (fun _ h=>h) (fun id aG=>by simp[lP]at aG)
  ·have vW:eO s o.gd true->Cd P s fr o (fun v Δ rd=>jo P KB pr l (fr+1) ⟨bB s.env o.dst v,put s.o Δ,s.nx⟩ (fp++[(rd,Δ.map (·.1))]) bad (ws++Δ.map (·.1))) (fun _ _ _=>False)->Ra P KB pr (o::l) fr s fp bad ws:=fun hg h=>by
    rcases Du h with⟨v,Δ,rd,ny,h⟩|⟨v,UW,rd,_,h⟩
    ·exact step (.val v Δ rd) bad (ws++Δ.map (·.1)) ⟨hg,ny⟩ h (.inr rfl) (fun h=>by cases h) (fun i hi=> .inl hi) (fun id aG=>List.mem_append.2 (.inl aG)) (fun id aG=>List.mem_append.2 (.inr aG))
    ·exact h.elim
   have skip:eO s o.gd false->jo P KB pr l (fr+1) ⟨bB s.env o.dst (.cn []),s.o,s.nx⟩ (fp++[([],[])]) bad ws->Ra P KB pr (o::l) fr s fp bad ws:=fun hg h=>
    step .skip bad ws hg h (.inr rfl) (fun h=>by cases h) (fun i hi=> .inl hi) (fun id aG=>aG) (fun id aG=>by simp[lP]at aG)
   split at h
   ·rename_i hg;exact vW (by rw[hg];rfl) h
   ·rename_i d want hg
    split at h
    ·rename_i c hv
     split at h
     ·rename_i e;exact vW GU h
     ·rename_i e;exact skip GU h
    ·rename_i hv;exact skip (by rw[hg];simp[eO,hv]) h
    ·exact h.elim
def Nn(P:Program)(K:S->Fp->Prop)(KP:V->List Nat->Fp->Prop)(pr:List (List Nat))(l:List cq)(fr:Nat)(s:S)(fp:Fp):Prop:=
 ∃cE:List gh,cE.length=l.length/\(∀j o x,l[j]? =some o->cE[j]? =some x->US P (nX l cE s j) (fr+j) o x)/\
  (((∀x∈cE,x.ok=true)/\K (nX l cE s l.length) (fp++zq cE))\/
   ∃v wl,(∀ (j:Nat) (v':V) (ws rd:List Nat),cE[j]? =some (gh.bW v' ws rd)->v'=v/\∀id∈ws,id∈wl)/\(∃x∈cE,x.ok=false)/\
    (∀ (j:Nat),cE[j]? =some gh.fk->∃i∈pr.getD (fp.length+j) [],∃j',i=fp.length+j'/\∃y,cE[j']? =some y/\y.ok=false)/\KP v wl (fp++zq cE)/\(∀x∈cE,∀id∈lP x,id∈wl)/\∀id∈fp.flatMap (·.2),id∈wl)
theorem vX{K:S->Fp->Prop}{KP:V->List Nat->Fp->Prop}{pr:List (List Nat)}:∀ (l:List cq) (fr:Nat) (s:S) (fp:Fp),lR P K KP pr l fr s fp->Nn P K KP pr l fr s fp
 |[],fr,s,fp,h=>⟨[],rfl,fun j o x hj=>by simp at hj, .inl ⟨fun x hx=>by simp at hx,by simpa[nX,zq,lR]using h⟩⟩
 |o::l,fr,s,fp,h=>by
  have step:∀ (x:gh),x.ok=true->US P s fr o x->lR P K KP pr l (fr+1) (xH o.dst x s) (fp++[(x8 x,lP x)])->Nn P K KP pr (o::l) fr s fp:=by
   intro x Qg bw hr
   obtain⟨cE,h1,h2,h3⟩:=vX l (fr+1) _ _ hr
   refine⟨x::cE,by simp[h1],fun j o' y hj hy=> ?_, ?_⟩
   ·cases j with
    |zero=>exact LP
    |succ j=>
     have:=h2 j o' y nz (by simpa using hy)
     exact My
   ·rcases h3 with⟨h3,h4⟩|⟨v,wl,g1,g2,g3,g4,g5,g6⟩
    ·left
     refine⟨fun y hy=> ?_,by simpa[nX,zq]using h4⟩
     rcases List.mem_cons.1 hy with rfl|hy
     ·exact Qg
     ·exact h3 y hy
    ·right
     refine⟨v,wl,fun j v' ws rd hj=> ?_, ?_,fun j hj=> ?_,by simpa[zq]using g4,fun y hy id aG=> ?_,fun id aG=>g6 id (by simp only[List.flatMap_append,List.mem_append];exact .inl aG)⟩
     ·cases j with
      |zero=>simp at hj;rw[hj]at Qg;cases Qg
      |succ j=>exact g1 j v' ws rd nz
     ·obtain⟨y,y1,y2⟩:=g2;exact⟨y,by simp[y1],y2⟩
     ·cases j with
      |zero=>simp at hj;rw[hj]at Qg;cases Qg
      |succ j=>
       obtain⟨i,i1,j',i2,y,i3,i4⟩:=g3 j nz
       simp only[List.length_append,List.length_cons,List.length_nil]at i1 i2
       exact⟨i,by rw[show fp.length+(j+1)=fp.length+(0+1)+j by omega];exact i1,j'+1,af,y,by simpa using i3,i4⟩
     ·rcases List.mem_cons.1 hy with rfl|hy
      ·exact g6 id (by simp only[List.flatMap_append,List.mem_append];exact .inr (by simpa using aG))
      ·exact g5 y hy id aG
  have bW:∀ (v:V) (ws rd:List Nat),US P s fr o (.bW v ws rd)->jo P (KP v) pr l (fr+1) ⟨bB s.env o.dst .aa,s.o,s.nx⟩ (fp++[(rd,[])]) [fp.length] (ws++fp.flatMap (·.2))->Nn P K KP pr (o::l) fr s fp:=by
   intro v ws rd bw hr
   obtain⟨cE,h1,h2,h3,h4,wl,h5,h6,h7⟩:=Dv l (fr+1) _ _ _ _ hr
   refine⟨gh.bW v ws rd::cE,by simp[h1],fun j o' y hj hy=> ?_, .inr ⟨v,wl,fun j v' UW uO hj=> ?_,⟨gh.bW v ws rd,ao,rfl⟩,fun j hj=> ?_,by simpa[zq,x8,lP]using h5,fun y hy id aG=> ?_,fun id aG=>h6 id (List.mem_append.2 (.inr aG))⟩⟩
   ·cases j with
    |zero=>exact LP
    |succ j=>
     have:=h2 j o' y nz (by simpa using hy)
     exact My
   ·cases j with
    |zero=>simp at hj;obtain⟨rfl,rfl,rfl⟩:=hj;exact⟨rfl,fun id aG=>h6 id (List.mem_append.2 (.inl aG))⟩
    |succ j=>
     have hm:=List.mem_of_getElem? (show cE[j]? =some (.bW v' UW uO) by simpa using hj)
     rcases h4 _ hm with h|h<;>cases h
   ·cases j with
    |zero=>simp at hj
    |succ j=>
     obtain⟨i,i1,i2⟩:=h3 j nz
     simp only[List.length_append,List.length_cons,List.length_nil]at i1 i2
     refine⟨i,by rw[show fp.length+(j+1)=fp.length+(0+1)+j by omega];exact i1, ?_⟩
     rcases i2 with i2|⟨j',j1,j2,j3⟩
     ·exact⟨0,by simpa using i2,_,rfl,rfl⟩
     ·exact⟨j'+1,af, .fk,by simpa using j3,rfl⟩
   ·rcases List.mem_cons.1 hy with rfl|hy
    ·simp[lP]at aG
    ·exact h7 y hy id aG
  have vW:eO s o.gd true->Cd P s fr o (fun v Δ rd=>lR P K KP pr l (fr+1) ⟨bB s.env o.dst v,put s.o Δ,s.nx⟩ (fp++[(rd,Δ.map (·.1))]))
   (fun v ws rd=>jo P (KP v) pr l (fr+1) ⟨bB s.env o.dst .aa,s.o,s.nx⟩ (fp++[(rd,[])]) [fp.length] (ws++fp.flatMap (·.2)))->Nn P K KP pr (o::l) fr s fp:=fun hg h=>by
   rcases Du h with⟨v,Δ,rd,ny,h⟩|⟨v,ws,rd,ny,h⟩
   ·exact step (.val v Δ rd) rfl ⟨hg,ny⟩ h
   ·exact bW v ws rd ⟨hg,ny⟩ h
  have skip:eO s o.gd false->lR P K KP pr l (fr+1) ⟨bB s.env o.dst (.cn []),s.o,s.nx⟩ (fp++[([],[])])->Nn P K KP pr (o::l) fr s fp:=fun hg h=>step .skip rfl hg h
  simp only[lR]at h
  split at h
  ·rename_i hg;exact vW (by rw[hg];rfl) h
  ·rename_i d want hg
   split at h
   ·rename_i c hv
    split at h
    ·rename_i e;exact vW GU h
    ·rename_i e;exact skip GU h
   ·rename_i hv;exact skip (by rw[hg];simp[eO,hv]) h
   ·exact h.elim
end
end
section
def nY(env:Nat->V):List Nat->List V->Nat->V
 |t::ps,v::vs=>nY (aM env t v) ps vs
 |_,_=>env
def Np(pr:List (List Nat))(m:Nat):Bool:=(List.range pr.length).all fun k=>Nat.blt k m||Nat.beq ((fb pr []).getD k 0) (2^k - 1)
def Nq(P:Program)(l:List cq)(pr:List (List Nat))(Q:gf->S->Prop)(s:S):Prop:=
 ∃m,m<=l.length/\Np pr m=true/\lR P (fun s' fp=>je pr fp=true/\qe P (fun v s=>Q (.bW v) s) (Q .normal) (l.drop m) ⟨s'.env,s'.o,s.nx+m⟩) (fun _ _ _=>False) pr (l.take m) s.nx s []
def uV(P:Program)(n b:Nat)(rd:Bool):IC->(gf->S->Prop)->S->Prop
 | .skip,Q,s=>Q .normal s
 | .ad l,Q,s=>qe P (fun v s=>Q (.bW v) s) (Q .normal) l s
 | .dp l pr,Q,s=>lR P (FW pr (s.nx+l.length) Q) (Dt pr l s Q) pr l s.nx s []\/Nq P l pr Q s
 | .seq x y,Q,s=>uV P n b rd x (rh (uV P n b rd y Q) Q) s
 | .cond c x y,Q,s=>match s.ev c with
   | .d (.bool t)=>rz t (uV P n b rd x Q s) (uV P n b rd y Q s)
   | .fI=>uV P n b rd x Q s/\uV P n b rd y Q s
   |_=>False
 | .block id x,Q,s=>uV P n b rd x (gA id Q) s
 | .loop x,Q,s=>Ng b (uV P n b rd x) Q s
 | .exit id,Q,s=>Q (.exit id) s
 | .ret,Q,s=>Q .ret s
 | .I8 g ps x y,Q,s=>rd=false/\adC P n b g ps x y Q s
 | .bad,_,_=>False
section
variable {P:Program}{n b:Nat}{rd:Bool}
theorem vY:∀ (l:List cq) (cE:List gh) (s:S) (k:Nat) (o:cq) (x:gh),l[k]? =some o->cE[k]? =some x->nX l cE s (k+1)=xH o.dst x (nX l cE s k)
 |[],_,_,_,_,_,h,_=>by simp at h
 |o::l,[],_,_,_,_,_,h=>by simp at h
 |o::l,x::xs,s,0,o',x',h,h'=>by simp at h h';subst h;subst h';cases l<;>cases xs<;>rfl
 |o::l,x::xs,s,k+1,o',x',h,h'=>by
  simp only[nX]
  exact vY l xs _ k o' x' yG (by simpa using h')
theorem zr(l:List cq)(cE:List gh)(s:S)(hl:cE.length=l.length):∀k,k<=l.length->fA (cj l) (fun i=>cE.getD i default) (fun _=>true) s k=nX l cE s k:=by
 intro k
 induction k with
 |zero=>intro _;cases l<;>cases cE<;>rfl
 |succ k ih=>
  intro hk
  have h1:l[k]? =some (cj l k):=by simp[cj,List.getD_eq_getElem?_getD,List.getElem?_eq_getElem (by omega:k<l.length)]
  have h2:cE[k]? =some (cE.getD k default):=by simp[List.getD_eq_getElem?_getD,List.getElem?_eq_getElem (by omega:k<cE.length)]
  simp only[fA,if_true,ih (by omega)]
  rw[vY l cE s k _ _ h1 h2]
theorem nZ{ops:Array Oper}:∀ (l:List Oper) (l':List cq),lZ n ops l=some l'->l'.length=l.length
 |[],_,h=>by simp[lZ]at h;subst h;rfl
 |o::l,l',h=>by
  simp only[lZ]at h
  split at h
  ·rename_i hx;injection h with h;subst h;simp[nZ l _ hx]
  ·cases h
theorem JG(bI:P.follows .mixedOrders=true){id:Nat}{ops:Array Oper}{l:List cq}{Q Q':gf->S->Prop}{s:S}(hQ:∀e s,Q e s->Q' e s)(sX:lZ n ops ops.toList=some l)(ht:AH l (iH ops)=true)
 (hp:XZ (iH ops)=true) (h:lR P (FW (iH ops) (s.nx+l.length) Q) (Dt (iH ops) l s Q) (iH ops) l s.nx s []):j6 P n b rd (.region id ops true) Q' s:=by
 intro M cU H0 w0 cx φ a w ro k hs
 obtain⟨cE,hl,bw,kQ⟩:=vX l _ _ _ h
 have hlen:l.length=ops.size:=by rw[nZ _ _ sX];simp
 have uR:∀k,k<ops.size->(iH ops).getD k []=bT ops k:=by
  intro k hk;simp[iH,List.getD_eq_getElem?_getD,List.getElem?_map,List.getElem?_range hk]
 have yP:(iH ops).length=ops.size:=by simp[iH]
 have ny:=zr l cE s hl
 have I0:∀k,k<ops.size->l[k]? =some (cj l k):=fun k hk=>by simp[cj,List.getD_eq_getElem?_getD,List.getElem?_eq_getElem (by omega:k<l.length)]
 have xD:∀k,k<ops.size->cE[k]? =some (cE.getD k default):=fun k hk=>by simp[List.getD_eq_getElem?_getD,List.getElem?_eq_getElem (by omega:k<cE.length)]
 have sQ:∀k,k<ops.size->cE.getD k default∈cE:=fun k hk=>List.mem_of_getElem? (xD k hk)
 have QW:∀k,k<ops.size->(zq cE)[k]? =some (x8 (cE.getD k default),lP (cE.getD k default)):=fun k hk=>by
  simp only[zq,List.getElem?_map,xD k hk,Option.map_some]
 have Ym:(zq cE).length=ops.size:=by simp[zq,hl,hlen]
 simp only[List.nil_append,List.length_nil,Nat.zero_add]at kQ
 have vB:je (iH ops) (zq cE)=true:=by
  rcases kQ with⟨_,h⟩|⟨v,wl,_,_,_,h,_⟩
  ·exact h.1
  ·exact h.1
 have JH:∀k,k<ops.size->∀j∈bT ops k,j<k:=fun k hk j hj=>by
  have:=List.all_eq_true.1 hp k (by simpa[yP]using hk)
  rw[uR k hk]at this
  simpa using List.all_eq_true.1 this j hj
 have Nr:∀k,k<(iH ops).length->∀j∈(iH ops).getD k [],j<k:=fun k hk j hj=>by
  rw[yP]at hk;rw[uR k hk]at hj;exact JH k hk j hj
 let po:Nat->Nat->Prop:=fun k j=>((fb (iH ops) []).getD k 0).testBit j=true
 have HC:∀E:Nat->Bool,(∀k,k<ops.size->E k=true->∀j∈bT ops k,E j=true)->∀k,k<ops.size->(∀j∈bT ops k,E j=true)->∀j,po k j->E j=true:=fun E hE k hk hj j hb=>
  qK Nr (fun k hk im j hj=>by rw[yP]at hk;rw[uR k hk]at hj;exact hE k hk im j hj) k (by rw[yP];exact hk) (by rw[uR k hk];exact hj) j hb
 have Dr:∀k,k<ops.size->∀j,po k j->j<k:=fun k hk j hb=>CA Nr k (by rw[yP];exact hk) j hb
 have Bh:∀i j,i<j->j<ops.size-> ¬po j i->Compat (cj l) (fun i=>cE.getD i default) (fun i=>x8 (cE.getD i default)) i j:=by
  intro i j hij hj hn
  have Fc:=List.all_eq_true.1 (List.all_eq_true.1 ht j (by simpa[hlen]using hj)) i (by simpa using hij)
  have Cl:=List.all_eq_true.1 (List.all_eq_true.1 vB j (by simpa[Ym]using hj)) i (by simpa using hij)
  have hnc:((fb (iH ops) []).getD j 0).testBit i=false:=by simpa[po]using hn
  rw[hnc,Bool.false_or]at Fc Cl
  simp only[Bool.and_eq_true]at Fc Cl
  have gi:=QW i af
  have gj:=QW j hj
  simp only[List.getD_eq_getElem?_getD (l:=zq cE),gi,gj,Option.getD_some]at Cl
  have dj:∀ {xs ys:List Nat},nC xs ys=true->∀x∈xs,x∉ys:=fun h x hx=>by simpa using List.all_eq_true.1 h x hx
  have fo:∀ {x y:cq},sC x y=true->∀d,x.dst=some d->d∉fU y:=fun h d hd=>by simpa[sC,hd]using h
  exact acL
 have UX:∀i,i<ops.size->US P (fA (cj l) (fun i=>cE.getD i default) (fun _=>true) s i) (s.nx+i) (cj l i) (cE.getD i default):=fun i hi=>by
  rw[ny i (by omega)];exact bw i _ _ (I0 i hi) (xD i hi)
 have dq:∀i,i<ops.size->∀t,(cj l i).dst=some t->(dstsOf l).contains t=true:=fun i hi t ht=>by
  simp only[List.contains_iff_mem,dstsOf,List.mem_filterMap]
  exact⟨cj l i,List.mem_of_getElem? (I0 i hi),ht⟩
 rcases kQ with⟨bH,kQ⟩|⟨v,wl,q1,q2,q3,q4,q5,q6⟩
 ·refine Dq (ac:=fun i=>cE.getD i default) (dl:=dstsOf l) (wl:=(cE.flatMap lP)) bI sX JH hs UX (fun i hi hb=> ?_) HC Dr Bh dq (fun i hi id aG=> ?_) (fun i v ws uO hi hb=> ?_) (fun _ φ a w jC=> ?_) (fun i v ws uO hi hb=> ?_)
  ·have:=bH _ (sQ i hi);rw[hb]at this;cases this
  ·simp only[List.contains_iff_mem,List.mem_flatMap];exact⟨_,sQ i hi,aG⟩
  ·have:=bH _ (sQ i hi);rw[hb]at this;cases this
  ·rw[ny ops.size (by omega), <- hlen]at jC
   exact⟨.normal,_,φ,hQ _ _ kQ.2,jC,trivial⟩
  ·have:=bH _ (sQ i hi);rw[hb]at this;cases this
 ·refine Dq (ac:=fun i=>cE.getD i default) (dl:=dstsOf l) (wl:=wl) bI sX JH hs UX (fun i hi hb=> ?_) HC Dr Bh dq (fun i hi id aG=> ?_) (fun i v' ws uO hi hb=> ?_) (fun bH φ a w jC=> ?_) (fun i v' ws uO hi hb φ a w val jC hd=> ?_)
  ·obtain⟨j,j1,j',e,y,j3,j4⟩:=q3 i LW
   rw[uR i hi,e]at j1
   refine⟨j',j1, ?_⟩
   simp only[List.getD_eq_getElem?_getD,j3,Option.getD_some,j4]
  ·simp only[List.contains_iff_mem];exact q5 _ (sQ i hi) id aG
  ·intro id aG
   simp only[List.contains_iff_mem]
   exact(q1 i v' ws uO LW).2 id aG
  ·obtain⟨x,x1,x2⟩:=q2
   obtain⟨i,QP,X4⟩:=List.getElem_of_mem x1
   have hi:i<ops.size:=af
   have:=bH i hi
   have e:cE.getD i default=x:=by simp[List.getD_eq_getElem?_getD,List.getElem?_eq_getElem QP,X4]
   rw[e,x2]at this;cases this
  ·have e:=(q1 i v' ws uO LW).1
   subst e
   rw[<- hlen]at jC hd
   exact⟨.bW v',_,φ,hQ _ _ q4.2,jC,val,rfl,hd⟩
theorem zu{ops:Array Oper}:∀ (l:List Oper) (l':List cq) (m:Nat),lZ n ops l=some l'->lZ n ops (l.drop m)=some (l'.drop m)
 |l,l',0,h=>h
 |[],l',m+1,h=>by simp[lZ]at h;subst h;simp[lZ]
 |o::l,l',m+1,h=>by
  simp only[lZ]at h
  split at h
  ·rename_i x xs hx CS
   injection h with h;subst h
   exact zu l xs m CS
  ·cases h
theorem Ns{l:List cq}{ac:Nat->gh}{E:Nat->Bool}{s:S}{m:Nat}:∀k,k<=m->fA (cj l) ac E s k=fA (cj (l.take m)) ac E s k:=by
 intro k
 induction k with
 |zero=>intro _;rfl
 |succ k ih=>
  intro hk
  have:cj l k=cj (l.take m) k:=by simp[cj,List.getD_eq_getElem?_getD,List.getElem?_take,(by omega:k<m)]
  simp only[fA,ih (by omega),this]
theorem FX(bI:P.follows .mixedOrders=true){id:Nat}{ops:Array Oper}{l:List cq}{Q Q':gf->S->Prop}{s:S}(hQ:∀e s,Q e s->Q' e s)(sX:lZ n ops ops.toList=some l)(ht:AH l (iH ops)=true)
 (hp:XZ (iH ops)=true) (h:Nq P l (iH ops) Q s):j6 P n b rd (.region id ops true) Q' s:=by
 intro M cU H0 w0 cx φ a w ro k hs
 obtain⟨m,QY,hto,h⟩:=h
 obtain⟨cE,hl,bw,kQ⟩:=vX (l.take m) _ _ _ h
 have hlm:(l.take m).length=m:=by rw[List.length_take];omega
 have hlen:l.length=ops.size:=by rw[nZ _ _ sX];simp
 have kQ:=kQ.resolve_right (fun⟨_,_,_,_,_,q4,_,_⟩=>q4)
 obtain⟨bH,kQ⟩:=kQ
 have Yc:cE.length=m:=af
 have uR:∀k,k<ops.size->(iH ops).getD k []=bT ops k:=by
  intro k hk;simp[iH,List.getD_eq_getElem?_getD,List.getElem?_map,List.getElem?_range hk]
 have yP:(iH ops).length=ops.size:=by simp[iH]
 have ny:∀k,k<=m->fA (cj l) (fun i=>cE.getD i default) (fun _=>true) s k=nX (l.take m) cE s k:=fun k hk=>by
  rw[Ns k hk];exact zr (l.take m) cE s hl k af
 have I0:∀k,k<m->(l.take m)[k]? =some (cj l k):=fun k hk=>by
  rw[List.getElem?_take,if_pos hk]
  simp[cj,List.getD_eq_getElem?_getD,List.getElem?_eq_getElem (by omega:k<l.length)]
 have xD:∀k,k<m->cE[k]? =some (cE.getD k default):=fun k hk=>by simp[List.getD_eq_getElem?_getD,List.getElem?_eq_getElem (by omega:k<cE.length)]
 have sQ:∀k,k<m->cE.getD k default∈cE:=fun k hk=>List.mem_of_getElem? (xD k hk)
 have QW:∀k,k<m->(zq cE)[k]? =some (x8 (cE.getD k default),lP (cE.getD k default)):=fun k hk=>by
  simp only[zq,List.getElem?_map,xD k hk,Option.map_some]
 have Ym:(zq cE).length=m:=by simp[zq,Yc]
 simp only[List.nil_append]at kQ
 obtain⟨vB,Rc⟩:=kQ
 have JH:∀k,k<ops.size->∀j∈bT ops k,j<k:=fun k hk j hj=>by
  have:=List.all_eq_true.1 hp k (by simpa[yP]using hk)
  rw[uR k hk]at this
  simpa using List.all_eq_true.1 this j hj
 have Nr:∀k,k<(iH ops).length->∀j∈(iH ops).getD k [],j<k:=fun k hk j hj=>by
  rw[yP]at hk;rw[uR k hk]at hj;exact JH k hk j hj
 let po:Nat->Nat->Prop:=fun k j=>((fb (iH ops) []).getD k 0).testBit j=true
 have HC:∀E:Nat->Bool,(∀k,k<ops.size->E k=true->∀j∈bT ops k,E j=true)->∀k,k<ops.size->(∀j∈bT ops k,E j=true)->∀j,po k j->E j=true:=fun E hE k hk hj j hb=>
  qK Nr (fun k hk im j hj=>by rw[yP]at hk;rw[uR k hk]at hj;exact hE k hk im j hj) k (by rw[yP];exact hk) (by rw[uR k hk];exact hj) j hb
 have Dr:∀k,k<ops.size->∀j,po k j->j<k:=fun k hk j hb=>CA Nr k (by rw[yP];exact hk) j hb
 have Bh:∀i j,i<j->j<m-> ¬po j i->Compat (cj l) (fun i=>cE.getD i default) (fun i=>x8 (cE.getD i default)) i j:=by
  intro i j hij hj hn
  have Fc:=List.all_eq_true.1 (List.all_eq_true.1 ht j qE) i (by simpa using hij)
  have Cl:=List.all_eq_true.1 (List.all_eq_true.1 vB j (by simpa[Ym]using hj)) i (by simpa using hij)
  have hnc:((fb (iH ops) []).getD j 0).testBit i=false:=by simpa[po]using hn
  rw[hnc,Bool.false_or]at Fc Cl
  simp only[Bool.and_eq_true]at Fc Cl
  have gi:=QW i af
  have gj:=QW j hj
  simp only[List.getD_eq_getElem?_getD (l:=zq cE),gi,gj,Option.getD_some]at Cl
  have dj:∀ {xs ys:List Nat},nC xs ys=true->∀x∈xs,x∉ys:=fun h x hx=>by simpa using List.all_eq_true.1 h x hx
  have fo:∀ {x y:cq},sC x y=true->∀d,x.dst=some d->d∉fU y:=fun h d hd=>by simpa[sC,hd]using h
  exact acL
 have htl:∀k,m<=k->k<ops.size->∀j,j<k->po k j:=fun k hmk hk j hj=>by
  have:=List.all_eq_true.1 hto k (by simpa[yP]using hk)
  simp only[Bool.or_eq_true]at this
  rcases this with this|this
  ·exact absurd (Nat.blt_eq.mp this) af
  ·show((fb (iH ops) []).getD k 0).testBit j=true
   rw[Nat.eq_of_beq_eq_true this,Nat.testBit_two_pow_sub_one]
   exact decide_eq_true hj
 refine FV (ac:=fun i=>cE.getD i default) (m:=m) (X:=fun v s=>Q' (.bW v) s) (K:=Q' .normal) bI sX JH af hs (fun i hi=> ?_) (fun i hi=>bH _ (sQ i hi)) HC Dr Bh htl ?_ (fun s φ a w hk jC=>⟨.normal,s,φ,hk,jC,trivial⟩) (fun v s' aS a' w' val hx jC hd=>⟨.bW v,s',aS,hx,jC,val,rfl,hd⟩)
 ·rw[ny i (by omega)];exact bw i _ _ (I0 i hi) (xD i hi)
 ·rw[ny m (Nat.le_refl _)]
  rw[hlm]at Rc
  exact kx (fun s hs=>hQ _ _ hs) (fun v s hs=>hQ _ _ hs) _ _ _ (zu _ _ m sX) Rc
theorem sY{g:V}{ps:List Nat}{x y:IC}{Q Q':gf->S->Prop}{s:S}(hQ:∀e s,Q e s->Q' e s)(h:Dc P n g ps x y Q s):Dc P n g ps x y Q' s:=by
 obtain⟨env,h1,h2⟩:=h
 refine⟨env,h1, ?_⟩
 split at h2
 ·refine pC.mono (fun v o n h=> ?_) (fun v o n h=>hQ _ _ h) h2
  obtain⟨nf,m,e,p,c,d,st,pd,k1,k2,k3⟩:=h
  refine⟨nf,m,e,p,c,d,st,pd,k1,k2, ?_⟩
  cases pd with
  |none=>exact hQ _ _ k3
  |some j=>cases j<;>exact hQ _ _ k3
 ·exact h2
theorem jq(bI:P.follows .mixedOrders=true):∀ (c:Code) (Q Q':gf->S->Prop) (s:S),(∀e s,Q e s->Q' e s)->uV P n b rd (low n c) Q s->j6 P n b rd c Q' s:=by
 intro c
 induction c with
 |skip=>exact fun Q Q' s hQ h=>hQ _ _ h
 |scope x ih=>exact fun Q Q' s hQ h=>ih Q Q' s hQ h
 |label l=>exact fun Q Q' s hQ h=>hQ _ _ h
 |exit id=>exact fun Q Q' s hQ h=>hQ _ _ h
 |ret=>exact fun Q Q' s hQ h=>hQ _ _ h
 |goto l=>exact fun Q Q' s hQ h=>h.elim
 |refuse y=>exact fun Q Q' s hQ h=>h.elim
 |rangeFunc f p x y=>
  intro Q Q' s hQ h
  obtain⟨h1,s',hle,h2⟩:=h
  exact⟨h1,s',hle,sY hQ h2⟩
 |region id ops draw=>
  intro Q Q' s hQ h
  cases draw with
  |true=>
   simp only[low]at h
   split at h
   ·rename_i l hl
    split at h
    ·rename_i hc
     simp only[Bool.and_eq_true]at hc
     rcases h with h|h
     ·exact JG bI hQ hl hc.1 hc.2 h
     ·exact FX bI hQ hl hc.1 hc.2 h
    ·exact h.elim
   ·exact h.elim
  |false=>
   simp only[low]at h
   split at h
   ·rename_i l hl;exact kx (fun s hs=>hQ _ _ hs) (fun v s hs=>hQ _ _ hs) _ l s hl h
   ·exact h.elim
 |seq x y Q6 Q7=>
  intro Q Q' s hQ h
  refine Q6 _ _ s (fun e s he=> ?_) h
  cases e<;>first|exact Q7 Q Q' s hQ he|exact hQ _ _ he
 |cond c x y Q6 Q7=>
  intro Q Q' s hQ h
  simp only[low,uV]at h
  simp only[j6]
  split at h
  ·rename_i t hc
   simp only[hc]
   exact⟨fun ht=>Q6 Q Q' s hQ (h.1 ht),fun ht=>Q7 Q Q' s hQ (h.2 ht)⟩
  ·rename_i hc
   simp only[hc]
   exact⟨Q6 Q Q' s hQ h.1,Q7 Q Q' s hQ h.2⟩
  ·exact h.elim
 |block id x ih=>
  intro Q Q' s hQ h
  refine ih _ _ s (fun e s he=> ?_) h
  cases e<;>simp only[gA]at he|- <;>first
   |exact hQ _ _ he
   |(split at he<;>rename_i e
     ·rw[if_pos e];exact hQ _ _ he
     ·rw[if_neg e];exact hQ _ _ he)
 |loop x ih=>
  intro Q Q' s hQ h
  obtain⟨J,h0,hr⟩:=h
  refine⟨J,h0,fun m s0 hJ=>ih _ _ s0 (fun e s he=> ?_) (hr m s0 hJ)⟩
  cases e<;>first|exact hQ _ _ he|exact he
structure aE (P:Program) (f:FuncId) (n:Nat) (ic:IC) (rs:List ResultVar):Prop where
 get:∃fn,P.funcs[f]? =some fn/\(fn.name== "runtime.NumGoroutine")=false/\fn.ntmps=n/\fn.results.toList=rs/\∃c,fn.body=some c/\low n c=ic
theorem cR.vZ (bI:P.follows .mixedOrders=true){f:FuncId}{ic:IC}{rs:List ResultVar}(hf:aE P f n ic rs){args:List V}{o:Nat->ab}{nx:Nat}{K X:V->(Nat->ab)->Nat->Prop}(hl:args.length<=n)(h:uV P n nx false ic (mM P rs K X) ⟨cN args,o,nx⟩):cR P f args o nx K X:=by
 obtain⟨fn,h1,h2,rfl,rfl,c,h3,rfl⟩:=hf.get
 exact cR.Hw h1 h2 h3 hl (jq bI c _ _ _ (fun _ _ h=>h) h)
theorem aQ.vZ (bI:P.follows .mixedOrders=true){f:FuncId}{ic:IC}{rs:List ResultVar}(hf:aE P f n ic rs){ds:List D}{out:R}(hl:ds.length<=n)(h:uV P n 0 false ic (FB P rs out) ⟨cN (ds.map .d),fun _=> .no,0⟩):aQ P f ds out:=by
 obtain⟨fn,h1,h2,rfl,rfl,c,h3,rfl⟩:=hf.get
 exact aQ.mN (cR.Hw h1 h2 h3 (by simpa using hl) (jq bI c _ _ _ (fun e s h=>Jw e s h) h))
end
end
section
abbrev Fix(α:Type){β:Type}(_:β):Type:=α
def lH(K:V->List (Nat×ab)->Prop)(x:Fix (Option gY) K):Prop:=match x with|some (v,Δ,_)=>K v Δ|none=>False
@[go_sem] theorem FY {v:V} {Δ:List (Nat×ab)} {rd:List Nat} {K}:lH K (some (v,Δ,rd))=K v Δ:=propext Iff.rfl
@[go_sem] theorem Yn {K}:lH K none=False:=propext Iff.rfl
def V.Bi (c:Bool)(v:V):V:=if c=true then v else .cn []
@[go_sem] theorem adJ (b:Bool):(!!b)=b:=ao
attribute [go_sem] true_or or_true false_or ne_eq not_false_eq_true decide_true decide_false Bool.not_true Bool.not_false Bool.and_true Bool.true_and Bool.and_false Bool.false_and Bool.or_true Bool.true_or Bool.or_false Bool.false_or beq_self_eq_true Bool.true_eq_false Bool.false_eq_true not_true_eq_false and_true true_and and_false false_and eq_self
@[go_sem] theorem V.adK (v:V):V.Bi true v=v:=rfl
@[go_sem] theorem V.abG (v:V):V.Bi false v= .cn []:=rfl
def nb(c:Bool)(p:Prop):Prop:=c=true->p
@[congr] theorem UY {c c':Bool} {p p':Prop} (h:c=c') (h2:c'=true->p=p'):nb c p=nb c' p':=by
  subst h;cases c
  ·simp[nb]
  ·simp[nb,h2 rfl]
@[go_sem] theorem Yo (p:Prop):nb true p=p:=by simp[nb]
@[go_sem] theorem UZ (p:Prop):nb false p=True:=by simp[nb]
@[go_sem] theorem Yp (a:Bool):nb a True=True:=by simp[nb]
def ng(v:V)(want:Bool):Option Bool:=
 match v with
 | .d (.bool b)=>some (b==want)
 | .cn []=>some false
 |_=>none
@[go_sem] theorem Yq (b:Bool):ng (.d (.bool b)) true=some b:=by simp[ng]
@[go_sem] theorem U0 (b:Bool):ng (.d (.bool b)) false=some (!b):=by simp[ng]
@[go_sem] theorem adL (want:Bool):ng (.cn []) want=some false:=rfl
@[go_sem] theorem abH (c b want:Bool):ng (V.Bi c (.d (.bool b))) want=some (c&&(b==want)):=by cases c<;>simp[ng,V.Bi]
@[go_sem] theorem Yr (c b e want:Bool):ng (V.Bi c (V.Bi e (.d (.bool b)))) want=some (c&&e&&(b==want)):=by cases c<;>cases e<;>simp[ng,V.Bi]
def lS(c:Bool)(x:Option gY):Option gY:=
 if c=true then(match x with|some (v,[],_)=>some (v,[],[])|_=>none)else some (.cn [],[],[])
@[congr] theorem Re {c c':Bool} {x x':Option gY} (h:c=c') (h2:c'=true->x=x'):lS c x=lS c' x':=by
  subst h;cases c
  ·rfl
  ·simp[lS,h2 rfl]
def okR(v:V)(rd:List Nat):Option gY:=some (v,[],rd)
@[go_sem] theorem ah7 (v:V) (rd:List Nat):(some (v,[],rd):Option gY)=okR v rd:=by unfold okR;exact Eq.trans rfl rfl
@[go_sem] theorem Ys (c:Bool) (v:V) (rd:List Nat):lS c (okR v rd)=okR (V.Bi c v) []:=by cases c<;>rfl
@[go_sem] theorem abI {v:V} {rd:List Nat} {K}:lH K (okR v rd)=K v []:=propext Iff.rfl
@[go_sem] theorem U1 (c:Bool) (v:V) (rd:List Nat):lS c (some (v,[],rd))=some (V.Bi c v,[],[]):=by cases c<;>rfl
@[go_sem] theorem Rf (x:Option gY):lS false x=some (.cn [],[],[]):=rfl
@[go_sem] theorem adM (b x:Bool):rp (.d (.bool b)) (V.Bi b (.d (.bool x))) (.d (.bool false))=some (.d (.bool (b&&x))):=Ct
@[go_sem] theorem ahm (b x:Bool):rp (.d (.bool b)) (.d (.bool true)) (V.Bi (!b) (.d (.bool x)))=some (.d (.bool (b||x))):=Ct
@[go_sem] theorem adN (b x:Bool):rp (.d (.bool (!b))) (.d (.bool true)) (V.Bi b (.d (.bool x)))=some (.d (.bool (!b||x))):=Ct
@[go_sem] theorem abJ (x y:V):rp (.d (.bool true)) x y=some x:=rfl
@[go_sem] theorem Yt (x y:V):rp (.d (.bool false)) x y=some y:=rfl
@[reducible] def lT:Op->Bool
  | .move _| .assign _| .pick .. | .load .. | .binOp .. | .unOp .. | .nilCheck _| .convert .. | .makeInterface .. | .makeFunc .. | .fieldAddr .. | .indexAddr .. | .extract .. | .build .. | .index .. | .field .. | .lookup .. =>true
  | .call c=>match c.callee with
    | .builtin .len=>true
    | .builtin .min=>true
    | .builtin .max=>true
    |_=>false
  |_=>false
def Dw(P:Program)(f:V)(args:List V)(o:Nat->ab)(rs:List D):Prop:=
 match f with
 | .func (.func g) first cap=>match cA o (first++args++cap)with
   |some ds=>aQ P g ds (.ret rs)/\D.kO rs=true
   |none=>False
 |_=>False
def HE(P:Program)(f:V)(args:List V)(o:Nat->ab)(K:V->Prop)(c:Fix Bool (f,args,o,K)):Prop:=
 ∃rs,nb c (Dw P f args o rs)/\K (V.Bi c (ke rs))
def Dx(P:Program)(g:FuncId)(nx:Nat)(K X:V->(Nat->ab)->Nat->Prop)(args:Fix (List V) (K,X))(o:Fix (Nat->ab) (K,X)):Prop:=tM P g args o nx K X
def tS(P:Program)(g:FuncId)(o:Nat->ab)(nx:Nat)(K X:V->(Nat->ab)->Nat->Prop)(ds:Fix (List D) (o,nx,K,X))(all:Fix (List V) (o,nx,K,X)):Prop:=
 vR P g ds o (put o (dw o (V.bK all))) (put o (sG o (V.bK all))) (fun v o'=>K v o' (nx+1)) (fun v o'=>X v o' (nx+1))\/tM P g all o nx K X
def od(P:Program)(g:FuncId)(K X:V->(Nat->ab)->Nat->Prop)(s:S)(all:List V)(ds:Fix (Option (List D)) (K,X,s,all)):Prop:=
 match ds with
 |some ds=>tS P g s.o s.nx K X ds all
 |none=>Dx P g s.nx K X all s.o
@[go_sem] theorem U2 {P:Program} {s:S} {ds:List D} {g:FuncId} {all:List V} {K X}:
 od P g K X s all (some ds)=tS P g s.o s.nx K X ds all:=propext Iff.rfl
def zw(P:Program)(id:Nat)(K X:V->(Nat->ab)->Nat->Prop)(s:S)(args:Fix (List V) (K,X,s)):Prop:=eD P id args s.o s.nx K X
@[go_sem] theorem U3 {P:Program} {s:S} {g:FuncId} {all:List V} {K X}:od P g K X s all none=Dx P g s.nx K X all s.o:=propext Iff.rfl
def tT(P:Program)(K X:V->(Nat->ab)->Nat->Prop)(s:S)(f:Fix V (K,X,s))(args:Fix (List V) (K,X,s)):Prop:=
 match f with
 | .func (.func g) first cap=>od P g K X s (first++args++cap) (cA s.o (first++args++cap))
 | .kq id=>zw P id K X s args
 |_=>False
@[go_sem] theorem abK {P:Program} {s:S} {id:Nat} {args:List V} {K X}:tT P K X s (.kq id) args=zw P id K X s args:=propext Iff.rfl
@[go_sem] theorem Yu {P:Program} {s:S} {g:FuncId} {first cap args:List V} {K X}:tT P K X s (.func (.func g) first cap) args=od P g K X s (first++args++cap) (cA s.o (first++args++cap)):=propext Iff.rfl
def Nt(P:Program)(g:FuncId)(o:Nat->ab)(nx:Nat)(K X:V->(Nat->ab)->Nat->Prop)(ds:Fix (List D) (o,nx,K,X))(all:Fix (List V) (o,nx,K,X)):Prop:=
 vR P g ds o (put o (dw o (V.bK all))) (put o (sG o (V.bK all))) (fun v o'=>K v o' (nx+1)) (fun v o'=>X v o' (nx+1))
def Dy(P:Program)(g:FuncId)(K X:V->(Nat->ab)->Nat->Prop)(s:S)(all:List V)(ds:Fix (Option (List D)) (K,X,s,all)):Prop:=
 match ds with
 |some ds=>Nt P g s.o s.nx K X ds all
 |none=>False
@[go_sem] theorem Yv {P:Program} {s:S} {ds:List D} {g:FuncId} {all:List V} {K X}:Dy P g K X s all (some ds)=Nt P g s.o s.nx K X ds all:=propext Iff.rfl
def Nu(P:Program)(K X:V->(Nat->ab)->Nat->Prop)(s:S)(args:Fix (List V) (K,X,s))(r:Fix (Option (FuncId×V)) (K,X,s)):Prop:=
 match r with
 |some (g,y)=>Dy P g K X s (y::args) (cA s.o (y::args))
 |none=>False
@[go_sem] theorem abL {P:Program} {s:S} {g:FuncId} {y:V} {args:List V} {K X}:Nu P K X s args (some (g,y))=Dy P g K X s (y::args) (cA s.o (y::args)):=propext Iff.rfl
def JI(K:V->Prop)(v:Fix V K):Prop:=
 match v with
 | .d (.iface t y)=>K (.d (.iface t y))
 | .iface t y=>K (.iface t y)
 |_=>False
@[go_sem] theorem ah8 {t:TypeId} {y:D} {K}:JI K (.d (.iface t y))=K (.d (.iface t y)):=propext Iff.rfl
@[go_sem] theorem ah9 {t:TypeId} {y:V} {K}:JI K (.iface t y)=K (.iface t y):=propext Iff.rfl
def Dz(K:V->List (Nat×ab)->Prop)(id:Nat)(l:Fix (List (D×D)) (K,id)):Prop:=Hf id l fun v Δ _=>K v Δ
def Nv(K:V->List (Nat×ab)->Prop)(str:Bool)(det:Fix (Option gY) (K,str))(left:Fix (Option (Nat×List (D×D))) (K,str)):Prop:=
 match left with
 |some (id,l)=>str=false/\Dz K id l
 |none=>lH K det
@[go_sem] theorem abM {K} {det:Option gY} {id:Nat} {l:List (D×D)}:Nv K false det (some (id,l))=Dz K id l:=propext ⟨fun h=>h.2,fun h=>⟨rfl,h⟩⟩
@[go_sem] theorem abN {K} {str:Bool} {det:Option gY}:Nv K str det none=lH K det:=propext Iff.rfl
def DA(P:Program)(X:V->S->Prop)(K:S->Prop)(o:cq)(s:Fix S (X,K,o)):Prop:=
 match o.op with
 | .next x str=>Nv (fun v Δ=>K ⟨bB s.env o.dst v,put s.o Δ,s.nx+1⟩) str (pH s.o (s.ev x) str) (pI s.o (s.ev x))
 | .call c=>match c.callee with
   | .value f=>tT P (fun v o' nx'=>K ⟨bB s.env o.dst v,o',nx'⟩) (fun v o' nx'=>X v ⟨s.env,o',nx'⟩) s (s.ev f) (c.args.toList.map s.ev)
   | .invoke r m=>Nu P (fun v o' nx'=>K ⟨bB s.env o.dst v,o',nx'⟩) (fun v o' nx'=>X v ⟨s.env,o',nx'⟩) s (c.args.toList.map s.ev) (vL P m (s.ev r))
   |_=>lH (fun v Δ=>K ⟨bB s.env o.dst v,put s.o Δ,s.nx+1⟩) (gZ P s s.nx o.op)
 | .panic x=>JI (fun v=>X v s) (s.ev x)
 |op=>lH (fun v Δ=>K ⟨bB s.env o.dst v,put s.o Δ,s.nx+1⟩) (gZ P s s.nx op)
@[reducible] def gR:Op->Option (Operand×List Operand)
  | .call c=>match c.callee with
    | .value f=>some (f,c.args.toList)
    |_=>none
  |_=>none
def jI(A B:Prop)(t:Fix Bool (A,B)):Prop:=rz t A B
@[go_sem] theorem Yw (A B:Prop):jI A B true=A:=vS A B
@[go_sem] theorem U4 (A B:Prop):jI A B false=B:=tN A B
def FZ(P:Program)(X:V->S->Prop)(K:S->Prop)(o:cq)(s:S)(f:Operand)(args:List Operand)(c:Fix Bool (X,K,o,s,f,args)):Prop:=
 HE P (s.ev f) (args.map s.ev) s.o (fun v=>K ⟨bB s.env o.dst v,s.o,s.nx+1⟩) c\/jI (DA P X K o s) (K ⟨bB s.env o.dst (.cn []),s.o,s.nx+1⟩) c
def Bj(P:Program)(X:V->S->Prop)(K:S->Prop)(o:cq)(s:S)(c:Fix (Option Bool) (X,K,o,s)):Prop:=
 match c with
 |none=>False
 |some c=>match gR o.op with
  |some (f,args)=>FZ P X K o s f args c
  |none=>if lT o.op=true then lH (fun v _=>K ⟨bB s.env o.dst v,s.o,s.nx+1⟩) (lS c (gZ P s s.nx o.op))
   else jI (DA P X K o s) (K ⟨bB s.env o.dst (.cn []),s.o,s.nx+1⟩) c
def uE(P:Program)(X:V->S->Prop)(K:S->Prop)(l:List cq)(s:Fix S (X,K,l)):Prop:=
 match l with
 |[]=>K s
 |o::l=>match o.gd with
  |none=>DA P X (uE P X K l) o s
  |some (d,want)=>Bj P X (uE P X K l) o s (ng (s.env d) want)
def kR(want:Bool)(A B:Prop)(v:Fix V (A,B)):Prop:=
 match v with
 | .d (.bool b)=>rz (b==want) A B
 | .cn []=>B
 |_=>False
@[go_sem] theorem U5 (b:Bool) (A B:Prop):kR true A B (.d (.bool b))=jI A B b:=by simp[kR,jI]
@[go_sem] theorem Rg (b:Bool) (A B:Prop):kR false A B (.d (.bool b))=jI A B (!b):=by simp[kR,jI]
@[go_sem] theorem abO (want:Bool) (A B:Prop):kR want A B (.cn [])=B:=propext Iff.rfl
@[go_sem] theorem Yx (c b want:Bool) (A B:Prop):kR want A B (V.Bi c (.d (.bool b)))=jI A B (c&&(b==want)):=by cases c<;>simp[kR,V.Bi,jI]
abbrev KD:=V->List (Nat×ab)->List Nat->Prop
abbrev XD:=V->List Nat->List Nat->Prop
def Nw(P:Program)(g:FuncId)(K:KD)(X:XD)(o:Nat->ab)(rd:List Nat)(ds:Fix (List D) (K,X,o,rd))(all:Fix (List V) (K,X,o,rd)):Prop:=
 tR P g ds (fun v=>K v (dw o (V.bK all)) rd) (fun v=>K v [] rd) (fun v=>X v [] rd)
def sZ(P:Program)(g:FuncId)(K:KD)(X:XD)(o:Nat->ab)(nx fr:Nat)(all:Fix (List V) (K,X,o,nx)):Prop:=jR P g all o nx fr K X
def og(P:Program)(g:FuncId)(K:KD)(X:XD)(o:Nat->ab)(nx fr:Nat)(rd:List Nat)(ds:Fix (List D) (K,X,o,nx,rd))(all:Fix (List V) (K,X,o,nx,rd)):Prop:=Nw P g K X o rd ds all\/sZ P g K X o nx fr all
def s5(P:Program)(K:KD)(X:XD)(o:Nat->ab)(nx fr:Nat)(rd:List Nat)(g:FuncId)(all:List V)(ds:Fix (Option (List D)) (K,X,o,nx,rd,all)):Prop:=
 match ds with
 |some ds=>og P g K X o nx fr rd ds all
 |none=>sZ P g K X o nx fr all
@[go_sem] theorem U6 {P:Program} {o:Nat->ab} {nx fr:Nat} {rd:List Nat} {ds:List D} {g:FuncId} {all:List V} {K X}:s5 P K X o nx fr rd g all (some ds)=og P g K X o nx fr rd ds all:=propext Iff.rfl
@[go_sem] theorem U7 {P:Program} {o:Nat->ab} {nx fr:Nat} {rd:List Nat} {g:FuncId} {all:List V} {K X}:s5 P K X o nx fr rd g all none=sZ P g K X o nx fr all:=propext Iff.rfl
def DB(P:Program)(K:KD)(X:XD)(o:Nat->ab)(nx fr:Nat)(rd:Fix (List Nat) (K,X,o,nx))(f:Fix V (K,X,o,nx))(args:Fix (List V) (K,X,o,nx)):Prop:=
 match f with
 | .func (.func g) first cap=>s5 P K X o nx fr rd g (first++args++cap) (cA o (first++args++cap))
 |_=>False
@[go_sem] theorem Yy {P:Program} {o:Nat->ab} {nx fr:Nat} {rd:List Nat} {g:FuncId} {first cap args:List V} {K X}:DB P K X o nx fr rd (.func (.func g) first cap) args=s5 P K X o nx fr rd g (first++args++cap) (cA o (first++args++cap)):=propext Iff.rfl
def v7(K:KD)(rd:List Nat)(x:Fix (Option gY) (K,rd)):Prop:=match x with|some (v,Δ,_)=>K v Δ rd|none=>False
@[go_sem] theorem Yz {v:V} {Δ:List (Nat×ab)} {r rd:List Nat} {K}:v7 K rd (some (v,Δ,r))=K v Δ rd:=propext Iff.rfl
@[go_sem] theorem abP {v:V} {r rd:List Nat} {K}:v7 K rd (okR v r)=K v [] rd:=propext Iff.rfl
def Qh(P:Program)(K:KD)(X:XD)(fr:Nat)(o:cq)(s:Fix S (K,X,o)):Prop:=
 match gR o.op with
 |some (f,args)=>DB P K X s.o s.nx fr (pB s o.op) (s.ev f) (args.map s.ev)
 |none=>v7 K (pB s o.op) (gZ P s fr o.op)
def DC(P:Program)(KB:List Nat->Fp->Prop)(pr:List (List Nat))(l:List cq)(fr:Nat)(fp:Fix Fp (KB,l))(bad ws:Fix (List Nat) (KB,l))(s:Fix S (KB,l)):Prop:=jo P KB pr l fr s fp bad ws
def rA(P:Program)(K:S->Fp->Prop)(KP:V->List Nat->Fp->Prop)(pr:List (List Nat))(l:List cq)(fr:Nat)(s:Fix S (K,KP,l))(fp:Fix Fp (K,KP,l)):Prop:=
 match l with
 |[]=>K s fp
 |o::l=>match o.gd with
  |none=>Qh P (fun v Δ rd=>rA P K KP pr l (fr+1) ⟨bB s.env o.dst v,put s.o Δ,s.nx⟩ (fp++[(rd,Δ.map (·.1))]))
   (fun v ws rd=>DC P (KP v) pr l (fr+1) (fp++[(rd,[])]) [fp.length] (ws++fp.flatMap (·.2)) ⟨bB s.env o.dst .aa,s.o,s.nx⟩) fr o s
  |some (d,want)=>kR want (Qh P (fun v Δ rd=>rA P K KP pr l (fr+1) ⟨bB s.env o.dst v,put s.o Δ,s.nx⟩ (fp++[(rd,Δ.map (·.1))]))
   (fun v ws rd=>DC P (KP v) pr l (fr+1) (fp++[(rd,[])]) [fp.length] (ws++fp.flatMap (·.2)) ⟨bB s.env o.dst .aa,s.o,s.nx⟩) fr o s)
   (rA P K KP pr l (fr+1) ⟨bB s.env o.dst (.cn []),s.o,s.nx⟩ (fp++[([],[])])) (s.env d)
def Rh(pr:List (List Nat))(nx:Nat)(Q:gf->S->Prop)(s:Fix S Q)(fp:Fix Fp Q):Prop:=FW pr nx Q s fp
def zx(A B:Prop)(v:Fix V (A,B)):Prop:=
 match v with
 | .d (.bool t)=>jI A B t
 | .fI=>A/\B
 |_=>False
@[go_sem] theorem abQ (A B:Prop):zx A B .fI=(A/\B):=propext Iff.rfl
@[go_sem] theorem YA (t:Bool) (A B:Prop):zx A B (.d (.bool t))=jI A B t:=propext Iff.rfl
def HG{ι:Type}(b:Nat)(st:ι->S)(bX:ι->Prop)(qg:ι->Nat)(i:ι)(s:S):Prop:=∃j,bX j/\qg j<qg i/\bM b s (st j)
def v8(next:S->Prop)(Q:gf->S->Prop)(e:gf)(s:S):Prop:=match e with| .normal=>next s|e=>Q e s
section
variable {N:S->Prop}{Q:gf->S->Prop}{s:S}
@[go_sem ↓] theorem Ri:v8 N Q .normal s=N s:=propext Iff.rfl
@[go_sem ↓] theorem YB {id:Nat}:v8 N Q (.exit id) s=Q (.exit id) s:=propext Iff.rfl
@[go_sem ↓] theorem abR:v8 N Q .ret s=Q .ret s:=propext Iff.rfl
@[go_sem ↓] theorem yx {v:V}:v8 N Q (.bW v) s=Q (.bW v) s:=propext Iff.rfl
end
def rB(b:Nat)(body:(gf->S->Prop)->S->Prop)(Q:gf->S->Prop)(s:Fix S (body,Q)):Prop:=
 ∃ (ι:Type) (st:ι->S) (bX:ι->Prop) (qg:ι->Nat) (i0:ι),bX i0/\bM b s (st i0)/\∀i,bX i->body (v8 (HG b st bX qg i) Q) (st i)
theorem aH{ι:Type}{b:Nat}{body:(gf->S->Prop)->S->Prop}{Q:gf->S->Prop}{s:S}(st:ι->S)(bX:ι->Prop)(qg:ι->Nat)(i0:ι)(h0:bX i0)(hle:bM b s (st i0))
 (h:∀i,bX i->body (v8 (HG b st bX qg i) Q) (st i)):rB b body Q s:=⟨ι,st,bX,qg,i0,h0,hle,h⟩
def x9(P:Program)(n b:Nat)(rd:Bool)(gop:Operand)(ps:List Nat)(x y:IC)(Q:gf->S->Prop)(s:Fix S (x,y,Q))(g:Fix V (x,y,Q)):Prop:=rd=false/\(Dc P n g ps x y Q s\/∃s',bM b s s'/\Dc P n (s'.ev gop) ps x y Q s')
def ll(P:Program)(n b:Nat)(rd:Bool)(c:IC)(Q:gf->S->Prop)(s:Fix S (c,Q)):Prop:=
 match c with
 | .skip=>Q .normal s
 | .ad l=>uE P (fun v s=>Q (.bW v) s) (Q .normal) l s
 | .dp l pr=>rA P (Rh pr (s.nx+l.length) Q) (Dt pr l s Q) pr l s.nx s []
 | .seq x y=>ll P n b rd x (rh (fun s=>ll P n b rd y Q s) Q) s
 | .cond c x y=>zx (ll P n b rd x Q s) (ll P n b rd y Q s) (s.ev c)
 | .block id x=>ll P n b rd x (gA id Q) s
 | .loop x=>rB b (fun Q s=>ll P n b rd x Q s) Q s
 | .exit id=>Q (.exit id) s
 | .ret=>Q .ret s
 | .I8 g ps x y=>x9 P n b rd g ps x y Q s (s.ev g)
 | .bad=>False
section
variable {P:Program}{n b:Nat}{rd:Bool}
theorem DD{s:S}{f:V}{args:List V}{K K':V->(Nat->ab)->Nat->Prop}{X X':V->(Nat->ab)->Nat->Prop}(hK:∀v o n,K v o n->K' v o n)(hX:∀v o n,X v o n->X' v o n)(h:tT P K X s f args):
 match(generalizing:=false) f with
  | .func (.func g) first cap=>match cA s.o (first++args++cap)with
    |some ds=>vR P g ds s.o (put s.o (dw s.o (V.bK (first++args++cap)))) (put s.o (sG s.o (V.bK (first++args++cap)))) (fun v o'=>K' v o' (s.nx+1)) (fun v o'=>X' v o' (s.nx+1))\/tM P g (first++args++cap) s.o s.nx K' X'
    |none=>tM P g (first++args++cap) s.o s.nx K' X'
  | .kq id=>eD P id args s.o s.nx K' X'
  |_=>False:=by
 unfold tT od zw at h
 split at h
 ·rename_i g first cap
  cases fT:cA s.o (first++args++cap)with
  |some ds=>
   simp only[fT]at h|-
   rcases h with⟨out,h1,h2|⟨h3,h2⟩|⟨h3,h2⟩⟩|h
   ·exact .inl ⟨out,h1, .inl (by cases out<;>first|exact hK _ _ _ h2|exact hX _ _ _ h2)⟩
   ·exact .inl ⟨out,h1, .inr (.inl ⟨h3,by cases out<;>first|exact hK _ _ _ h2|exact hX _ _ _ h2⟩)⟩
   ·exact .inl ⟨out,h1, .inr (.inr ⟨h3,by cases out<;>first|exact hK _ _ _ h2|exact hX _ _ _ h2⟩)⟩
   ·exact .inr (pC.mono hK hX h)
  |none=>
   simp only[fT]at h|-
   exact pC.mono hK hX h
 ·exact eD.mono hK hX h
 ·exact h.elim
theorem zy{x:Option gY}{K:V->List (Nat×ab)->Prop}(h:lH K x):∃v Δ rd,x=some (v,Δ,rd)/\K v Δ:=by
 unfold lH at h;split at h
 ·exact⟨_,_,_,rfl,h⟩
 ·exact h.elim
theorem Bk{s:S}{o:cq}{X X':V->S->Prop}{K K':S->Prop}(hK:∀s,K s->K' s)(hX:∀v s,X v s->X' v s)(h:DA P X K o s):Lf P s o X' K':=by
 unfold DA at h
 unfold Lf
 have hs:∀ {op:Op},(lH (fun v Δ=>K ⟨bB s.env o.dst v,put s.o Δ,s.nx+1⟩) (gZ P s s.nx op))->(match gZ P s s.nx op with|some (v,Δ,_)=>K' ⟨bB s.env o.dst v,put s.o Δ,s.nx+1⟩|none=>False):=by
  intro op h
  obtain⟨v,Δ,rd,he,h⟩:=zy h
  simp only[he];exact hK _ h
 split at h
 ·rename_i x str hx
  rw[hx]
  unfold Nv at h
  simp only
  split at h
  ·rename_i id l hl
   simp only[hl]
   exact⟨h.1,fun e=>hK _ (h.2.1 e),fun i k x e=>hK _ (h.2.2 i k x e)⟩
  ·rename_i hl
   simp only[hl]
   exact hs (op:= .next x str) h
 ·rename_i c hc
  simp only[hc]
  split at h
  ·rename_i f hf
   simp only[hf]
   exact DD (K:=fun v o' nx'=>K ⟨bB s.env o.dst v,o',nx'⟩) (X:=fun v o' nx'=>X v ⟨s.env,o',nx'⟩) (fun v o n h=>hK _ h) (fun v o n h=>hX _ _ h) h
  ·rename_i r m hf
   simp only[hf]
   unfold Nu at h
   split at h
   ·rename_i g y hr
    simp only[hr]
    unfold Dy at h
    split at h
    ·rename_i ds fT
     obtain⟨out,h1,h2⟩:=h
     refine .inl ⟨ds,fT,out,h1, ?_⟩
     rcases h2 with h2|⟨h3,h2⟩|⟨h3,h2⟩
     ·exact .inl (by cases out<;>first|exact hK _ h2|exact hX _ _ h2)
     ·exact .inr (.inl ⟨h3,by cases out<;>first|exact hK _ h2|exact hX _ _ h2⟩)
     ·exact .inr (.inr ⟨h3,by cases out<;>first|exact hK _ h2|exact hX _ _ h2⟩)
    ·exact h.elim
   ·exact h.elim
  ·rename_i hf hi
   rw[hc]at h
   obtain⟨MY,args,ts⟩:=c
   cases MY with
   |value f=>exact absurd rfl (hf f)
   |invoke r m=>exact absurd rfl (hi r m)
   |_=>exact hs h
 ·rename_i x hx
  simp only[hx]
  unfold JI at h
  split at h
  ·rename_i hv;simp only[hv];exact hX _ _ h
  ·rename_i hv;simp only[hv];exact hX _ _ h
  ·exact h.elim
 ·rename_i uS hc hp
  have h2:=hs h
  cases hh:o.op<;>first
   |exact absurd hh (hc _)
   |exact absurd hh (hp _)
   |exact absurd hh (uS _ _)
   |(rw[hh]at h2;exact h2)
theorem Nx{s:S}{o:cq}{X:V->S->Prop}{K:S->Prop}(hp:lT o.op=true){v:V}{Δ:List (Nat×ab)}{rd:List Nat}(he:gZ P s s.nx o.op=some (v,Δ,rd))(h:K ⟨bB s.env o.dst v,put s.o Δ,s.nx+1⟩):Lf P s o X K:=by
 unfold Lf
 split
 ·rename_i c hc
  split
  ·rename_i f hf;rw[hc]at hp;simp[lT,hf]at hp
  ·rename_i r m hf;rw[hc]at hp;simp[lT,hf]at hp
  ·rw[he];exact h
 ·rename_i x hx;rw[hx]at hp;simp[lT]at hp
 ·rename_i x str hx;rw[hx]at hp;simp[lT]at hp
 ·rw[he];exact h
theorem zA{X X':V->S->Prop}{K K':S->Prop}(hK:∀s,K s->K' s)(hX:∀v s,X v s->X' v s):∀ (l:List cq) (s:S),uE P X K l s->qe P X' K' l s
 |[],s,h=>hK _ h
 |o::l,s,h=>by
  have ih:=zA hK hX l
  unfold uE at h
  unfold qe
  cases hg:o.gd with
  |none=>
   simp only[hg]at h|-
   exact Bk ih hX h
  |some p=>
   obtain⟨d,want⟩:=p
   simp only[hg]at h|-
   unfold Bj at h
   split at h
   ·exact h.elim
   ·rename_i c hc
    have hgo:∀ {A B:Prop},(c=true->A)->(c=false->B)->(match s.env d with
     | .d (.bool b)=>if b=want then A else B
     | .cn []=>B
     |_=>False):=by
     intro A B hA hB
     generalize s.env d=v at hc
     unfold ng at hc
     split at hc
     ·rename_i b
      injection hc with hc
      split
      ·rename_i e;exact hA (by rw[<- hc];simp[e])
      ·rename_i e;exact hB (by rw[<- hc];simp[e])
     ·injection hc with hc
      exact hB hc.symm
     ·cases hc
    split at h
    ·rename_i f args Lg
     rcases h with h|h
     case inr=>exact hgo (fun U8=>Bk ih hX (h.1 U8)) (fun YC=>ih _ (h.2 YC))
     obtain⟨rs,h1,h2⟩:=h
     refine hgo (fun U8=> ?_) (fun YC=> ?_)
     ·unfold gR at Lg
      split at Lg
      ·rename_i c' qC
       split at Lg
       ·rename_i f' fu
        injection Lg with Lg;injection Lg with e1 e2;subst e1;subst e2
        have bL:=h1 U8
        unfold Lf
        simp only[qC,fu]
        unfold Dw at bL
        split at bL
        ·rename_i g first cap xN
         simp only[xN]
         split at bL
         ·rename_i ds fT
          simp only[fT]
          refine .inl ⟨.ret rs,bL.1, .inr (.inl ⟨bL.2, ?_⟩)⟩
          refine ih _ ?_
          rw[U8]at h2
          exact h2
         ·exact bL.elim
        ·exact bL.elim
       ·cases Lg
      ·cases Lg
     ·refine ih _ ?_
      rw[YC]at h2
      exact h2
    ·split at h
     ·rename_i hp
      obtain⟨v,Δ,rd,he,h⟩:=zy h
      refine hgo (fun U8=> ?_) (fun YC=> ?_)
      ·rw[U8]at he
       simp only[lS,if_true]at he
       split at he
       ·rename_i v' uO qz
        injection he with he;injection he with e1 e2;subst e1
        exact Nx hp qz (ih _ h)
       ·cases he
      ·rw[YC]at he
       simp only[lS]at he
       injection he with he;injection he with e1 e2;subst e1
       exact ih _ h
     ·exact hgo (fun U8=>Bk ih hX (h.1 U8)) (fun YC=>ih _ (h.2 YC))
theorem Bl{op:Op}{f:Operand}{args:List Operand}(h:gR op=some (f,args)):∃c,op= .call c/\c.callee= .value f/\c.args.toList=args:=by
 unfold gR at h
 split at h
 ·rename_i c
  split at h
  ·rename_i f' fu
   injection h with h;injection h with e1 e2;subst e1;subst e2
   exact⟨c,rfl,fu,rfl⟩
  ·cases h
 ·cases h
theorem JJ{x:Option gY}{rd:List Nat}{K:KD}(h:v7 K rd x):∃v Δ r,x=some (v,Δ,r)/\K v Δ rd:=by
 unfold v7 at h;split at h
 ·exact⟨_,_,_,rfl,h⟩
 ·exact h.elim
theorem jR.mono {P:Program}{g:FuncId}{args:List V}{o:Nat->ab}{nx fr:Nat}{K K':KD}{X X':XD}(hK:∀v Δ r,K v Δ r->K' v Δ r)(hX:∀v w r,X v w r->X' v w r)(h:jR P g args o nx fr K X):jR P g args o nx fr K' X':=by
 obtain⟨rd,Δ,h1,⟨rs,h2,h3⟩|⟨x,h2,h3⟩|⟨v,h2,h3⟩⟩:=h
 ·exact⟨rd,Δ,h1, .inl ⟨rs,h2,hK _ _ _ h3⟩⟩
 ·exact⟨rd,Δ,h1, .inr (.inl ⟨x,h2,hX _ _ _ h3⟩)⟩
 ·exact⟨rd,Δ,h1, .inr (.inr ⟨v,h2,hK _ _ _ h3⟩)⟩
theorem tR.mono {P:Program}{g:FuncId}{ds:List D}{Kf Kb KX Kf' Kb' KX':V->Prop}(h1:∀v,Kf v->Kf' v)(h2:∀v,Kb v->Kb' v)(h3:∀v,KX v->KX' v)(h:tR P g ds Kf Kb KX):tR P g ds Kf' Kb' KX':=by
 rcases h with⟨rs,a,b|⟨b,c⟩⟩|⟨x,a,b,c⟩|⟨v,a,b⟩
 ·exact .inl ⟨rs,a, .inl (h1 _ b)⟩
 ·exact .inl ⟨rs,a, .inr ⟨b,h2 _ c⟩⟩
 ·exact .inr (.inl ⟨x,a,b,h3 _ c⟩)
 ·exact .inr (.inr ⟨v,a,h1 _ b⟩)
theorem HH{s:S}{fr:Nat}{o:cq}{K K':KD}{X X':XD}(hK:∀v Δ r,K v Δ r->K' v Δ r)(hX:∀v w r,X v w r->X' v w r)(h:Qh P K X fr o s):Cd P s fr o K' X':=by
 unfold Qh at h
 split at h
 ·rename_i f args Lg
  obtain⟨c,h1,h2,h3⟩:=Bl Lg
  subst h3
  unfold Cd
  simp only[h1,h2]
  unfold DB s5 at h
  split at h
  ·rename_i g first cap hf
   simp only[hf]
   split at h
   ·rename_i ds fT
    simp only[fT]
    refine h.elim (fun h=> .inl ?_) (fun h=> .inr (jR.mono hK hX h))
    refine tR.mono (fun v h=> ?_) (fun v h=> ?_) (fun v h=> ?_) h<;>(rw[h1]at h)
    ·exact hK _ _ _ h
    ·exact hK _ _ _ h
    ·exact hX _ _ _ h
   ·rename_i fT
    simp only[fT]
    exact jR.mono hK hX h
  ·exact h.elim
 ·rename_i Lg
  obtain⟨v,Δ,rd,he,h⟩:=JJ h
  unfold Cd
  split
  ·rename_i c hc
   split
   ·rename_i f hf
    exact absurd Lg (by simp[gR,hc,hf])
   ·simp only[he];exact hK _ _ _ h
  ·simp only[he];exact hK _ _ _ h
theorem DE{s:S}{fr:Nat}{o:cq}{K K':KD}{X X':XD}(hK:∀v Δ r,K v Δ r->K' v Δ r)(hX:∀v w r,X v w r->X' v w r)(h:Cd P s fr o K X):Cd P s fr o K' X':=by
 unfold Cd at h|-
 split at h
 ·rename_i c hc
  rw[hc]at h|-
  split at h
  ·rename_i f hf
   (try simp only[hf])
   split at h
   ·rename_i xN
    (try simp only[xN])
    split at h
    ·exact h.elim (fun h=> .inl (tR.mono (fun v h=>hK _ _ _ h) (fun v h=>hK _ _ _ h) (fun v h=>hX _ _ _ h) h)) (fun h=> .inr (jR.mono hK hX h))
    ·exact jR.mono hK hX h
   ·exact h.elim
  ·rename_i hf
   split at h
   ·rename_i he
    (try simp only[he])
    exact hK _ _ _ h
   ·exact h.elim
 ·split at h
  ·rename_i he
   (try simp only[he]);exact hK _ _ _ h
  ·exact h.elim
theorem ky{KB KB':List Nat->Fp->Prop}{pr:List (List Nat)}(hK:∀l fp,KB l fp->KB' l fp):∀ (l:List cq) (fr:Nat) (s:S) (fp:Fp) (bad ws:List Nat),jo P KB pr l fr s fp bad ws->jo P KB' pr l fr s fp bad ws
 |[],_,_,_,_,_,h=>hK _ _ h
 |o::l,fr,s,fp,bad,ws,h=>by
  unfold jo at h|-
  split
  ·rename_i hb
   rw[if_pos hb]at h
   exact ky hK l _ _ _ _ _ h
  ·rename_i hb
   rw[if_neg hb]at h
   split at h
   ·exact DE (fun v Δ r h=>ky hK l _ _ _ _ _ h) (fun _ _ _ h=>h) h
   ·split at h
    ·split at h
     ·rename_i e;simp only[e,if_true]
      exact DE (fun v Δ r h=>ky hK l _ _ _ _ _ h) (fun _ _ _ h=>h) h
     ·rename_i e;simp only[e,if_false]
      exact ky hK l _ _ _ _ _ h
    ·exact ky hK l _ _ _ _ _ h
    ·exact h.elim
theorem me{K K':S->Fp->Prop}{KP KP':V->List Nat->Fp->Prop}{pr:List (List Nat)}(hK:∀s fp,K s fp->K' s fp)(hP:∀v l fp,KP v l fp->KP' v l fp):∀ (l:List cq) (fr:Nat) (s:S) (fp:Fp),rA P K KP pr l fr s fp->lR P K' KP' pr l fr s fp
 |[],_,_,_,h=>hK _ _ h
 |o::l,fr,s,fp,h=>by
  have hB:∀v ws (rdl:List Nat),DC P (KP v) pr l (fr+1) (fp++[(rdl,[])]) [fp.length] (ws++fp.flatMap (·.2)) ⟨bB s.env o.dst .aa,s.o,s.nx⟩->
   jo P (KP' v) pr l (fr+1) ⟨bB s.env o.dst .aa,s.o,s.nx⟩ (fp++[(rdl,[])]) [fp.length] (ws++fp.flatMap (·.2)):=fun v ws rdl h=>ky (fun a b h=>hP v a b h) l _ _ _ _ _ h
  unfold rA at h
  unfold lR
  split at h
  ·rename_i hg
   (try simp only[hg])
   exact HH (fun v Δ r h=>me hK hP l _ _ _ h) hB h
  ·rename_i d want hg
   (try simp only[hg])
   generalize s.env d=v at h
   unfold kR at h
   split at h
   ·rename_i bb
    by_cases e:bb=want
    ·subst e
     simp only[if_true]
     exact HH (fun v Δ r h=>me hK hP l _ _ _ h) hB (h.1 ao)
    ·simp only[if_neg e]
     exact me hK hP l _ _ _ (h.2 (by simpa using e))
   ·exact me hK hP l _ _ _ h
   ·exact h.elim
theorem eV:∀ (c:IC) (Q Q':gf->S->Prop) (s:S),(∀e s,Q e s->Q' e s)->ll P n b rd c Q s->uV P n b rd c Q' s
 | .skip,_,_,_,hQ,h=>hQ _ _ h
 | .ad l,_,_,_,hQ,h=>zA (fun s h=>hQ _ _ h) (fun v s h=>hQ _ _ h) l _ h
 | .dp l pr,_,_,_,hQ,h=> .inl (me (fun s fp h=>⟨h.1,hQ _ _ h.2⟩) (fun v l fp h=>⟨h.1,hQ _ _ h.2⟩) l _ _ _ h)
 | .seq x y,Q,Q',s,hQ,h=>eV x _ _ s (fun e s h=>by
  unfold rh at h|-
  cases e with
  |normal=>exact eV y _ _ s hQ h
  |_=>exact hQ _ _ h) h
 | .cond c x y,Q,Q',s,hQ,h=>by
   unfold ll zx jI at h
   unfold uV
   split at h
   ·rename_i t ht
    simp only[ht]
    exact⟨fun e=>eV x _ _ s hQ (h.1 e),fun e=>eV y _ _ s hQ (h.2 e)⟩
   ·rename_i ht
    simp only[ht]
    exact⟨eV x _ _ s hQ h.1,eV y _ _ s hQ h.2⟩
   ·exact h.elim
 | .block id x,Q,Q',s,hQ,h=>eV x _ _ s (fun e s h=>by
  unfold gA at h|-
  cases e with
  |exit j=>
   simp only at h|-
   split
   ·rename_i e;rw[if_pos e]at h;exact hQ _ _ h
   ·rename_i e;rw[if_neg e]at h;exact hQ _ _ h
  |_=>exact hQ _ _ h) h
 | .loop x,Q,Q',s,hQ,h=>by
   obtain⟨ι,st,bX,qg,i0,h0,hle,h2⟩:=h
   refine⟨fun m s=>∃i,bX i/\qg i=m/\s=st i,⟨qg i0,st i0,hle,i0,h0,rfl,rfl⟩, ?_⟩
   rintro m s0 ⟨i,hg,rfl,rfl⟩
   refine eV x _ _ _ (fun e s h=> ?_) (h2 i hg)
   cases e with
   |normal=>
    obtain⟨j,k1,k2,k3⟩:=h
    exact⟨qg j,st j,k2,k3,j,k1,rfl,rfl⟩
   |_=>exact hQ _ _ h
 | .exit id,_,_,_,hQ,h=>hQ _ _ h
 | .ret,_,_,_,hQ,h=>hQ _ _ h
 | .I8 g ps x y,_,_,_,hQ,h=>⟨h.1,match h.2 with
   | .inl h=>⟨_, .inl rfl,sY hQ h⟩
   | .inr ⟨s',hle,h⟩=>⟨s', .inr hle,sY hQ h⟩⟩
 | .bad,_,_,_,_,h=>h.elim
end
theorem aQ.ay {P:Program}(bI:P.follows .mixedOrders=true){f:FuncId}{n:Nat}{ic:IC}{rs:List ResultVar}{ds:List D}{out:R}(hf:aE P f n ic rs)(hl:ds.length<=n)
 (h:ll P n 0 false ic (FB P rs out) ⟨cN (ds.map .d),fun _=> .no,0⟩):aQ P f ds out:=
 aQ.vZ bI hf hl (eV ic _ _ _ (fun _ _ h=>h) h)
def s6(P:Program)(rs:List ResultVar)(K X:V->(Nat->ab)->Nat->Prop)(e:gf)(s:S):Prop:=mM P rs K X e s
theorem cR.ay {P:Program}(bI:P.follows .mixedOrders=true){f:FuncId}{n:Nat}{ic:IC}{rs:List ResultVar}{args:List V}{o:Nat->ab}{nx:Nat}{K X:V->(Nat->ab)->Nat->Prop}(hf:aE P f n ic rs)(hl:args.length<=n)
 (h:ll P n nx false ic (s6 P rs K X) ⟨cN args,o,nx⟩):cR P f args o nx K X:=
 cR.vZ bI hf hl (eV ic _ _ _ (fun _ _ h=>h) h)
section
variable {P:Program}{g:FuncId}{ds:List D}{o:Nat->ab}{nx:Nat}{K X:V->(Nat->ab)->Nat->Prop}{all:List V}
theorem ah{rs:List D}(h:aQ P g ds (.ret rs))(hf:D.kO rs=true)(hk:K (ke rs) o (nx+1)):tS P g o nx K X ds all:= .inl ⟨.ret rs,h, .inr (.inl ⟨hf,hk⟩)⟩
theorem aT{rs:List D}(h:aQ P g ds (.ret rs))(hk:K (ke rs) (put o (dw o (V.bK all))) (nx+1)):tS P g o nx K X ds all:= .inl ⟨.ret rs,h, .inl hk⟩
theorem ew{x:D}(h:aQ P g ds (.bW x))(hf:x.flat=true)(hk:X (.d x) o (nx+1)):tS P g o nx K X ds all:= .inl ⟨.bW x,h, .inr (.inl ⟨hf,hk⟩)⟩
theorem cW(h:cR P g all o nx K X):tS P g o nx K X ds all:= .inr (.inl h)
theorem dg{e:Nat->V}{ds:Option (List D)}(h:cR P g all o nx K X):od P g K X ⟨e,o,nx⟩ all ds:=by
 cases ds with
 |some ds=>exact(.inr (.inl h):tS P g o nx K X ds all)
 |none=>exact(.inl h:Dx P g nx K X all o)
theorem bn(h:cR P g all o nx K X):Dx P g nx K X all o:= .inl h
variable {K:KD}{X:XD}{rd:List Nat}{fr:Nat}
theorem aq{rs:List D}(h:aQ P g ds (.ret rs))(hf:D.kO rs=true)(hk:K (ke rs) [] rd):og P g K X o nx fr rd ds all:= .inl (.inl ⟨rs,h, .inr ⟨hf,hk⟩⟩)
theorem aN{rs:List D}(h:aQ P g ds (.ret rs))(hk:K (ke rs) (dw o (V.bK all)) rd):og P g K X o nx fr rd ds all:= .inl (.inl ⟨rs,h, .inl hk⟩)
theorem dk{x:D}(h:aQ P g ds (.bW x))(hf:x.flat=true)(hk:X (.d x) [] rd):og P g K X o nx fr rd ds all:= .inl (.inr (.inl ⟨x,h,hf,hk⟩))
theorem JK{v:V}(h:UR P g ds v)(hk:K v (dw o (V.bK all)) rd):og P g K X o nx fr rd ds all:= .inl (.inr (.inr ⟨v,h,hk⟩))
theorem zB{v:V}{uO:List Nat}{Δ:List (Nat×ab)}(pw:uO.all (fun id=>decide (id<nx))=true)(h:zi P g all uO o fr v Δ)(hk:K v Δ uO):og P g K X o nx fr rd ds all:= .inr ⟨uO,Δ,pw, .inr (.inr ⟨v,h,hk⟩)⟩
end
theorem fO{P:Program}{f:V}{args:List V}{o:Nat->ab}{K:V->Prop}{c:Bool}(rs:List D)(h:nb c (Dw P f args o rs))(hk:K (V.Bi c (ke rs))):HE P f args o K c:=⟨rs,h,hk⟩
theorem aj{t:Bool}{A B:Prop}(h:t=true->A)(h2:t=false->B):jI A B t:=⟨h,h2⟩
theorem aw{pr:List (List Nat)}{nx:Nat}{Q:gf->S->Prop}{s:S}{fp:List (List Nat×List Nat)}(h:je pr fp=true)(h2:Q .normal ⟨s.env,s.o,nx⟩):Rh pr nx Q s fp:=⟨h,h2⟩
@[go_sem] theorem Ny (o:Nat->ab):put o []=o:=rfl
@[go_sem] theorem JL (o:Nat->ab) (x:Nat×ab) (l:List (Nat×ab)):put o (x::l)=put (aM o x.1 x.2) l:=rfl
@[go_sem] theorem ae {α:Type} (f:Nat->α) (i:Nat) (x:α):aM f i x i=x:=ao
@[go_sem] theorem ak {α:Type} (f:Nat->α) (i j:Nat) (x:α) (h:j≠i):aM f i x j=f j:=by simp[h]
@[go_sem] theorem Rj (v:V) (l:List V):cN (v::l) 0=v:=rfl
@[go_sem] theorem Rk (v:V) (l:List V) (i:Nat):cN (v::l) (i+1)=cN l i:=rfl
@[go_sem] theorem U9 (i:Nat):cN [] i= .cn []:=by simp[cN]
@[go_sem] theorem abS {P:Program} {o:Nat->ab} {t:TypeId} {id off:Nat}:nT P o t (.ptr id off)=match o id with
 | .row cs=>match fK P t cs off with
   |some v=>some (v,[],[id])
   |none=>none
 |_=>none:=by unfold nT;exact Eq.trans rfl rfl
@[go_sem] theorem adO {P:Program} {o:Nat->ab} {t:TypeId} {cs:List D} {off:Nat}:nT P o t (.pp cs off)=match fK P t (cs.map .d) off with
 |some v=>some (v,[],[])
 |none=>none:=by unfold nT;exact Eq.trans rfl rfl
@[go_sem] theorem adP {P:Program} {o:Nat->ab} {t:TypeId} {id ep i sz off:Nat}:nT P o t (.pe id ep i sz off)=match o id with
 | .arr jE _ sq es=>if ep=jE/\sz=sq then match es[i]? with
  |some e=>match fK P t (e.cells.map .d) off with
   |some v=>some (v,[],[id])
   |none=>none
  |none=>none
   else none
 |_=>none:=by unfold nT;exact Eq.trans rfl rfl
section
variable {P:Program}{o:Nat->ab}{t:TypeId}{op:BinOp}{pW:Bool}
@[go_sem] theorem abT {k:IntKind} {a b:Int}:e7 P o op t pW (.d (.int k a)) (.d (.int k b))=match Df op k a b with
 |some v=>one v
 |none=>sK P o op t pW (.d (.int k a)) (.d (.int k b)):=by
  simp only[e7,A4,if_true]
  cases Df op k a b<;>rfl
@[go_sem] theorem abU {a b:Bool} (h:oV P t=true):e7 P o .eql t pW (.d (.bool a)) (.d (.bool b))=one (.d (.bool (a==b))):=by simp only[e7,A4,Nb,h,if_true]
@[go_sem] theorem abV {a b:Bool} (h:oV P t=true):e7 P o .neq t pW (.d (.bool a)) (.d (.bool b))=one (.d (.bool (a !=b))):=by simp only[e7,A4,Nb,h,if_true]
@[go_sem] theorem abW {a b:List UInt8}:e7 P o .eql t pW (.d (.str a)) (.d (.str b))=one (.d (.bool (a==b))):=LX
@[go_sem] theorem abX {a b:List UInt8}:e7 P o .neq t pW (.d (.str a)) (.d (.str b))=one (.d (.bool (a !=b))):=LX
@[go_sem] theorem abY {a b:List D}:e7 P o op t pW (.d (.agg a)) (.d (.agg b))=sK P o op t pW (.d (.agg a)) (.d (.agg b)):=LX
theorem QA{x:V}{y:V}(h:match y with| .d (.int _ _)| .d (.bool _)| .d (.str _)=>False|_=>True):A4 P op t x y=none:=by
 unfold A4
 split<;>first|exact h.elim|rfl
@[go_sem] theorem YD {x:V}:e7 P o op t pW x .bO=sK P o op t pW x .bO:=LG
@[go_sem] theorem YE {x:V}:e7 P o op t pW x (.d .fV)=sK P o op t pW x (.d .fV):=LG
@[go_sem] theorem YF {x:V}:e7 P o op t pW x (.d .nn)=sK P o op t pW x (.d .nn):=LG
@[go_sem] theorem YG {x:V}:e7 P o op t pW x (.d .bV)=sK P o op t pW x (.d .bV):=LG
@[go_sem] theorem YH {x:V}:e7 P o op t pW x (.d .jD)=sK P o op t pW x (.d .jD):=LG
@[go_sem] theorem adQ {b:Bool}:I3 .not (.d (.bool b))=some (.d (.bool !b)):=L0
@[go_sem] theorem adR:I3 .not .fI=some .fI:=L0
@[go_sem] theorem adS {k:IntKind} {n:Int}:I3 .neg (.d (.int k n))=some (.d (.int k (k.wrap (-n)))):=L0
end
@[go_sem] theorem D.abZ (cs:List D):(D.agg cs).cells=cs:=rfl
@[go_sem] theorem D.ab0 (k:IntKind) (n:Int):(D.int k n).cells=[.int k n]:=rfl
@[go_sem] theorem D.YI (b:Bool):(D.bool b).cells=[.bool b]:=rfl
@[go_sem] theorem D.ab1 (b:List UInt8):(D.str b).cells=[.str b]:=rfl
@[go_sem] theorem D.adT (b:List D):(D.sl b).cells=[.sl b]:=rfl
@[go_sem] theorem D.adU (a b:List D):(D.mp a b).cells=[.mp a b]:=rfl
@[go_sem] theorem D.Va (t:TypeId) (x:D):(D.iface t x).cells=[.iface t x]:=rfl
@[go_sem] theorem D.YJ:D.fV.cells=[.fV]:=rfl
@[go_sem] theorem D.YK:D.nn.cells=[.nn]:=rfl
@[go_sem] theorem D.YL:D.bV.cells=[.bV]:=rfl
@[go_sem] theorem D.YM:D.jD.cells=[.jD]:=rfl
attribute [go_sem] V.ofConst V.dS Df Nb rq FI zh pM jk jl sT iw mO rr rv ry sU ku Nc mJ eI cA fK AM tE na V.cells D.put dw V.ids V.bK ke D.kO D.flat R.flat
attribute [go_sem] Fh List.take_succ_cons List.take_zero List.take_nil List.drop_zero List.drop_succ_cons List.drop_nil
attribute [go_sem] List.map_cons List.map_nil List.length_cons List.length_nil List.cons_append List.nil_append List.append_nil List.getElem?_cons_zero List.getElem?_cons_succ Option.bind_some Option.bind_none Option.map_some Option.map_none ab.cK ab.cJ
section
variable {P:Program}{n b:Nat}{rd:Bool}{Q:gf->S->Prop}{s:S}
@[go_sem] theorem adV:ll P n b rd .skip Q s=Q .normal s:=propext Iff.rfl
@[go_sem] theorem Rm {l:List cq}:ll P n b rd (.ad l) Q s=uE P (fun v s=>Q (.bW v) s) (Q .normal) l s:=propext Iff.rfl
@[go_sem] theorem ahn {l:List cq} {pr:List (List Nat)}:ll P n b rd (.dp l pr) Q s=rA P (Rh pr (s.nx+l.length) Q) (Dt pr l s Q) pr l s.nx s []:=propext Iff.rfl
@[go_sem] theorem Rn {x y:IC}:ll P n b rd (.seq x y) Q s=ll P n b rd x (rh (fun s=>ll P n b rd y Q s) Q) s:=propext Iff.rfl
@[go_sem] theorem adW {c:Operand} {x y:IC}:ll P n b rd (.cond c x y) Q s=zx (ll P n b rd x Q s) (ll P n b rd y Q s) (s.ev c):=propext Iff.rfl
@[go_sem] theorem ab2 {id:Nat} {x:IC}:ll P n b rd (.block id x) Q s=ll P n b rd x (gA id Q) s:=propext Iff.rfl
@[go_sem] theorem adX {x:IC}:ll P n b rd (.loop x) Q s=rB b (fun Q s=>ll P n b rd x Q s) Q s:=propext Iff.rfl
@[go_sem] theorem adY {id:Nat}:ll P n b rd (.exit id) Q s=Q (.exit id) s:=propext Iff.rfl
@[go_sem] theorem aho:ll P n b rd .ret Q s=Q .ret s:=propext Iff.rfl
@[go_sem] theorem ahp {g:Operand} {ps:List Nat} {x y:IC}:ll P n b rd (.I8 g ps x y) Q s=x9 P n b rd g ps x y Q s (s.ev g):=propext Iff.rfl
@[go_sem] theorem Nz {X:V->S->Prop} {K:S->Prop}:uE P X K [] s=K s:=propext Iff.rfl
@[go_sem] theorem JM {X:V->S->Prop} {K:S->Prop} {d:Option Nat} {op:Op} {l:List cq}:uE P X K (⟨d,op,none⟩::l) s=DA P X (uE P X K l) ⟨d,op,none⟩ s:=propext Iff.rfl
@[go_sem] theorem ab3 {X:V->S->Prop} {K:S->Prop} {d:Option Nat} {op:Op} {g:Nat} {w:Bool} {l:List cq}:uE P X K (⟨d,op,some (g,w)⟩::l) s=Bj P X (uE P X K l) ⟨d,op,some (g,w)⟩ s (ng (s.env g) w):=propext Iff.rfl
variable {X:V->S->Prop}{K:S->Prop}{d:Option Nat}{op:Op}{g:Option (Nat×Bool)}{f:Operand}{args:Array Operand}{ts:Array TypeId}{c:Bool}
@[reducible] def YN:Op->Bool
  | .call c=>match c.callee with
    | .value _=>true
    | .invoke .. =>true
    |_=>false
  | .panic _=>true
  | .next .. =>true
  |_=>false
@[go_sem] theorem YO (h:YN op=false):DA P X K ⟨d,op,g⟩ s=lH (fun v Δ=>K ⟨bB s.env d v,put s.o Δ,s.nx+1⟩) (gZ P s s.nx op):=by
  unfold DA
  cases op with
  |call c=>
   obtain⟨MY,args,ts⟩:=c
   cases MY with
   |value f=>simp[YN]at h
   |invoke r m=>simp[YN]at h
   |_=>rfl
  |panic x=>simp[YN]at h
  |next x str=>simp[YN]at h
  |_=>rfl
@[go_sem] theorem adZ {x:Operand} {str:Bool}:DA P X K ⟨d, .next x str,g⟩ s=Nv (fun v Δ=>K ⟨bB s.env d v,put s.o Δ,s.nx+1⟩) str (pH s.o (s.ev x) str) (pI s.o (s.ev x)):=propext Iff.rfl
@[go_sem] theorem ad0:DA P X K ⟨d, .call ⟨.value f,args,ts⟩,g⟩ s=tT P (fun v o' nx'=>K ⟨bB s.env d v,o',nx'⟩) (fun v o' nx'=>X v ⟨s.env,o',nx'⟩) s (s.ev f) (args.toList.map s.ev):=propext Iff.rfl
@[go_sem] theorem YP {m:String}:DA P X K ⟨d, .call ⟨.invoke f m,args,ts⟩,g⟩ s=Nu P (fun v o' nx'=>K ⟨bB s.env d v,o',nx'⟩) (fun v o' nx'=>X v ⟨s.env,o',nx'⟩) s (args.toList.map s.ev) (vL P m (s.ev f)):=propext Iff.rfl
@[go_sem] theorem ab4:DA P X K ⟨d, .panic f,g⟩ s=JI (fun v=>X v s) (s.ev f):=propext Iff.rfl
@[go_sem] theorem ab5:Bj P X K ⟨d, .call ⟨.value f,args,ts⟩,g⟩ s (some c)=FZ P X K ⟨d, .call ⟨.value f,args,ts⟩,g⟩ s f args.toList c:=propext Iff.rfl
theorem hU{e:Nat->V}{ob:Nat->ab}{nx:Nat}(h:HE P ((⟨e,ob,nx⟩:S).ev f) (args.toList.map (⟨e,ob,nx⟩:S).ev) ob (fun v=>K ⟨bB e d v,ob,nx+1⟩) c):FZ P X K ⟨d,op,g⟩ ⟨e,ob,nx⟩ f args.toList c:= .inl h
theorem DF{s:S}{o:cq}{l:List Operand}(h:jI (DA P X K o s) (K ⟨bB s.env o.dst (.cn []),s.o,s.nx+1⟩) c):FZ P X K o s f l c:= .inr h
@[go_sem] theorem ab6 (h:lT op=true):Bj P X K ⟨d,op,g⟩ s (some c)=lH (fun v _=>K ⟨bB s.env d v,s.o,s.nx+1⟩) (lS c (gZ P s s.nx op)):=by
  have h2:gR op=none:=by
   cases hc:gR op with
   |none=>rfl
   |some x=>
    exfalso
    unfold gR at hc
    split at hc
    ·split at hc
     ·rename_i hv;simp[lT,hv]at h
     ·cases hc
    ·cases hc
  simp only[Bj,h2,h,if_true]
@[go_sem] theorem ab7 (h:lT op=false) (h2:gR op=none):Bj P X K ⟨d,op,g⟩ s (some c)=jI (DA P X K ⟨d,op,g⟩ s) (K ⟨bB s.env d (.cn []),s.o,s.nx+1⟩) c:=by
  simp[Bj,h2,h]
@[go_sem] theorem YQ {l:List Operand}:FZ P X K ⟨d,op,g⟩ s f l false=K ⟨bB s.env d (.cn []),s.o,s.nx+1⟩:=by
  refine propext ⟨fun h=> ?_,fun h=> .inr ⟨(fun e=>by cases e),fun _=>h⟩⟩
  rcases h with⟨rs,_,h⟩|h
  ·exact h
  ·exact h.2 rfl
@[go_sem] theorem ab8 {l:List Operand} (hl:args.toList=l):FZ P X K ⟨d, .call ⟨.value f,args,ts⟩,g⟩ s f l true=DA P X K ⟨d, .call ⟨.value f,args,ts⟩,g⟩ s:=by
  subst hl
  refine propext ⟨fun h=> ?_,fun h=> .inr ⟨fun _=>h,(fun e=>by cases e)⟩⟩
  rcases h with⟨rs,h1,h⟩|h
  ·have h1:=h1 rfl
   unfold Dw at h1
   unfold DA tT od
   simp only
   split at h1
   ·rename_i fv gg first cap hf
    simp only[hf]
    split at h1
    ·rename_i ds fT
     simp only[fT]
     exact .inl ⟨.ret rs,h1.1, .inr (.inl ⟨h1.2,h⟩)⟩
    ·exact h1.elim
   ·exact h1.elim
  ·exact h.1 rfl
variable {KV:KD}{XV:XD}
@[go_sem] theorem ad1 {fr:Nat}:Qh P KV XV fr ⟨d, .call ⟨.value f,args,ts⟩,g⟩ s=DB P KV XV s.o s.nx fr (pB s (.call ⟨.value f,args,ts⟩)) (s.ev f) (args.toList.map s.ev):=propext Iff.rfl
@[go_sem] theorem aia {fr:Nat} (h2:gR op=none):Qh P KV XV fr ⟨d,op,g⟩ s=v7 KV (pB s op) (gZ P s fr op):=by simp[Qh,h2]
variable {KS:S->Prop}
@[go_sem ↓] theorem Bm:rh KS Q .normal s=KS s:=propext Iff.rfl
@[go_sem ↓] theorem YR {id:Nat}:rh KS Q (.exit id) s=Q (.exit id) s:=propext Iff.rfl
@[go_sem ↓] theorem ab9:rh KS Q .ret s=Q .ret s:=propext Iff.rfl
@[go_sem ↓] theorem yw {v:V}:rh KS Q (.bW v) s=Q (.bW v) s:=propext Iff.rfl
@[go_sem ↓] theorem Qi {id:Nat}:gA id Q .normal s=Q .normal s:=propext Iff.rfl
@[go_sem ↓] theorem Vb {id:Nat}:gA id Q (.exit id) s=Q .normal s:=by simp[gA]
@[go_sem ↓] theorem Ro {id j:Nat} (h:j≠id):gA id Q (.exit j) s=Q (.exit j) s:=by simp[gA,h]
@[go_sem ↓] theorem YS {id:Nat}:gA id Q .ret s=Q .ret s:=propext Iff.rfl
@[go_sem ↓] theorem vh {id:Nat} {v:V}:gA id Q (.bW v) s=Q (.bW v) s:=propext Iff.rfl
def Rp(out:R)(x:Option (List D)):Prop:=match x with|some ds=>out= .ret ds|none=>False
@[go_sem] theorem aca {out:R} {ds:List D}:Rp out (some ds)=(out= .ret ds):=propext Iff.rfl
def YT(out:R)(x:Option D):Prop:=match x with|some d=>out= .bW d|none=>False
@[go_sem] theorem yz {out:R} {d:D}:YT out (some d)=(out= .bW d):=propext Iff.rfl
def Rq(out:R)(o:Nat->ab)(x:Option (List V)):Prop:=match x with|some vs=>Rp out (cA o vs)|none=>False
@[go_sem] theorem acb {out:R} {o:Nat->ab} {vs:List V}:Rq out o (some vs)=Rp out (cA o vs):=propext Iff.rfl
variable {rs:List ResultVar}{out:R}
@[go_sem ↓] theorem acd:FB P rs out .ret s=Rq out s.o (mJ P s rs):=propext Iff.rfl
@[go_sem ↓] theorem Rr:FB P rs out .normal s=Rq out s.o (mJ P s rs):=propext Iff.rfl
@[go_sem ↓] theorem yy {v:V}:FB P rs out (.bW v) s=YT out (eI s.o v):=propext Iff.rfl
def DG(K:V->(Nat->ab)->Nat->Prop)(o:Nat->ab)(nx:Nat)(x:Fix (Option (List V)) (K,o,nx)):Prop:=match x with
 |some [v]=>K v o nx
 |some vs=>K (.cn vs) o nx
 |none=>False
@[go_sem] theorem ad2 {K:V->(Nat->ab)->Nat->Prop} {o:Nat->ab} {nx:Nat} {v:V}:DG K o nx (some [v])=K v o nx:=propext Iff.rfl
@[go_sem] theorem ad3 {K:V->(Nat->ab)->Nat->Prop} {o:Nat->ab} {nx:Nat}:DG K o nx (some [])=K (.cn []) o nx:=propext Iff.rfl
@[go_sem] theorem ad4 {K:V->(Nat->ab)->Nat->Prop} {o:Nat->ab} {nx:Nat} {v u:V} {l:List V}:DG K o nx (some (v::u::l))=K (.cn (v::u::l)) o nx:=propext Iff.rfl
theorem HI{K X:V->(Nat->ab)->Nat->Prop}:mM P rs K X .ret s=DG K s.o s.nx (mJ P s rs):=by
 unfold mM DG
 cases mJ P s rs with
 |none=>rfl
 |some l=>match l with
  |[]=>rfl
  |[_]=>rfl
  |_::_::_=>rfl
@[go_sem ↓] theorem ad5 {K X:V->(Nat->ab)->Nat->Prop}:s6 P rs K X .ret s=DG K s.o s.nx (mJ P s rs):=HI
@[go_sem ↓] theorem Vc {K X:V->(Nat->ab)->Nat->Prop}:s6 P rs K X .normal s=DG K s.o s.nx (mJ P s rs):=(HI (X:=X):mM P rs K X .ret s=_)
@[go_sem ↓] theorem Cj {K X:V->(Nat->ab)->Nat->Prop} {v:V}:s6 P rs K X (.bW v) s=X v s.o s.nx:=propext Iff.rfl
variable {KE:S->Fp->Prop}{KP:V->List Nat->Fp->Prop}{pr:List (List Nat)}{fr:Nat}{fp:Fp}
@[go_sem] theorem ad6:rA P KE KP pr [] fr s fp=KE s fp:=propext Iff.rfl
@[go_sem] theorem ace {d:Option Nat} {op:Op} {l:List cq}:rA P KE KP pr (⟨d,op,none⟩::l) fr s fp=
 Qh P (fun v Δ rd=>rA P KE KP pr l (fr+1) ⟨bB s.env d v,put s.o Δ,s.nx⟩ (fp++[(rd,Δ.map (·.1))]))
  (fun v ws rd=>DC P (KP v) pr l (fr+1) (fp++[(rd,[])]) [fp.length] (ws++fp.flatMap (·.2)) ⟨bB s.env d .aa,s.o,s.nx⟩) fr ⟨d,op,none⟩ s:=propext Iff.rfl
@[go_sem] theorem acf {d:Option Nat} {op:Op} {g:Nat} {w:Bool} {l:List cq}:rA P KE KP pr (⟨d,op,some (g,w)⟩::l) fr s fp=
 kR w (Qh P (fun v Δ rd=>rA P KE KP pr l (fr+1) ⟨bB s.env d v,put s.o Δ,s.nx⟩ (fp++[(rd,Δ.map (·.1))]))
  (fun v ws rd=>DC P (KP v) pr l (fr+1) (fp++[(rd,[])]) [fp.length] (ws++fp.flatMap (·.2)) ⟨bB s.env d .aa,s.o,s.nx⟩) fr ⟨d,op,some (g,w)⟩ s)
   (rA P KE KP pr l (fr+1) ⟨bB s.env d (.cn []),s.o,s.nx⟩ (fp++[([],[])])) (s.env g):=propext Iff.rfl
end
attribute [go_sem] YN gR lT gZ one mc bB S.ev Dw
theorem au{ι:Type}{b:Nat}{st:ι->S}{bX:ι->Prop}{qg:ι->Nat}{i:ι}{s:S}(j:ι)(h1:bX j)(h2:qg j<qg i)(h3:bM b s (st j)):HG b st bX qg i s:=⟨j,h1,h2,h3⟩
attribute [irreducible] ll uE DA Bj FZ tT od Dy Nt Nu HE tS Dx lH JI jI kR Nw og sZ s5 DB v7 Qh rA DC x9 zw s6 DG Rh zx rB Rp YT Rq v8 HG
end
section
section
variable (ρ:Nat->Option Nat)(o' o:Nat->ab)(nx:Nat)
end
section
variable {M M':Nat->Prop}{φ aS:Place}{H H':Hp}{w:World}{ρ:Nat->Option Nat}{nx:Nat}
end
end
@[go_sem] theorem oW (v:V) (l:List V):br (v::l) 0=v:=rfl
@[go_sem] theorem oX (v:V) (l:List V) (i:Nat):br (v::l) (i+1)=br l i:=rfl
@[go_sem] theorem rC (i:Nat):br [] i= .aa:=by simp[br]
@[go_sem] theorem Vd (k:Nat):(0<=(k:Int))=True:=ao
attribute [go_sem] List.getElem?_map List.length_map Int.toNat_natCast
attribute [go_sem] fL List.flatMap_cons List.flatMap_nil
attribute [go_sem] isConst sK QL sI sJ CG sH qN Fi QM yM Ja pT pU yL vy vz qO
attribute [go_sem] pB V.refs V.aO
attribute [go_sem] List.all_nil List.all_cons Option.some.injEq D.int.injEq D.bool.injEq Nat.zero_add Nat.add_zero
theorem wrap64{n:Int}(h1: -9223372036854775808<=n)(h2:n<=9223372036854775807):IntKind.i64.wrap n=n:=by
 unfold IntKind.wrap
 have e1:((2:Int)^IntKind.i64.bits)=18446744073709551616:=bG
 have e2:((2:Int)^(IntKind.i64.bits - 1))=9223372036854775808:=bG
 have e3:IntKind.i64.signed=true:=rfl
 simp only[e1,e2,e3,Bool.true_and,decide_eq_true_eq]
 split<;>omega
end Go.Proofs.YtonbelhklnmjnaaGreat
