/-
  A PART OF THE PROOF. Conditions: none.
-/
import Derived.Test.YtealblliddhgiaaGreatCp7
set_option linter.unusedSimpArgs false
set_option linter.unusedVariables false
namespace Go.Proofs.YtealblliddhgiaaGreat
def qy(P:Program)(g:FuncId)(ds:List D)(Kf Kb KX:V->Prop):Prop:=
 (∃rs,cq P g ds (.ret rs)/\(Kf (iM rs)\/(D.jk rs=true/\Kb (iM rs))))\/(∃x,cq P g ds (.bK x)/\x.flat=true/\KX (.d x))\/(∃v,Ou P g ds v/\Kf v)
def iD(P:Program)(g:FuncId)(args:List V)(o:Nat->ae)(nx fr:Nat)(K:V->List (Nat×ae)->List Nat->Prop)(KX:V->List Nat->List Nat->Prop):Prop:=
 ∃rd Δ,rd.all (fun id=>decide (id<nx))=true/\((∃rs,zH P g args rd o (.ret rs) Δ/\K (iM rs) Δ rd)\/(∃x,zH P g args rd o (.bK x) Δ/\KX (.d x) (Δ.map (·.1)) rd)\/(∃v,Aq P g args rd o fr v Δ/\K v Δ rd))
def xb(P:Program)(s:S)(fr:Nat)(o:cf)(K:V->List (Nat×ae)->List Nat->Prop)(KX:V->List Nat->List Nat->Prop):Prop:=
 match o.op with
 | .call c=>match c.callee with
   | .value f=>match s.ev f with
     | .func (.func g) first cap=>match bZ s.o (first++c.args.toList.map s.ev++cap)with
       |some ds=>qy P g ds (fun v=>K v (cw s.o (V.ba (first++c.args.toList.map s.ev++cap))) (iX s o.op)) (fun v=>K v [] (iX s o.op)) (fun v=>KX v [] (iX s o.op))\/iD P g (first++c.args.toList.map s.ev++cap) s.o s.nx fr K KX
       |none=>iD P g (first++c.args.toList.map s.ev++cap) s.o s.nx fr K KX
     |_=>False
   |_=>match gf P s fr o.op with
    |some (v,Δ,_)=>K v Δ (iX s o.op)
    |none=>False
 |op=>match gf P s fr op with
  |some (v,Δ,_)=>K v Δ (iX s o.op)
  |none=>False
abbrev Fp:=List (List Nat×List Nat)
def gP(P:Program)(KB:List Nat->Fp->Prop)(pr:List (List Nat)):List cf->Nat->S->Fp->List Nat->List Nat->Prop
 |[],_,_,fp,_,ws=>KB ws fp
 |o::l,fr,s,fp,bad,ws=>if(pr.getD fp.length []).any (fun j=>bad.contains j)=true then gP P KB pr l (fr+1) ⟨aY s.env o.dst .ab,s.o,s.nx⟩ (fp++[([],[])]) (bad++[fp.length]) ws
  else match o.gd with
  |none=>xb P s fr o (fun v Δ rd=>gP P KB pr l (fr+1) ⟨aY s.env o.dst v,put s.o Δ,s.nx⟩ (fp++[(rd,Δ.map (·.1))]) bad (ws++Δ.map (·.1))) (fun _ _ _=>False)
  |some (d,want)=>match s.env d with
   | .d (.bool b)=>if b=want then xb P s fr o (fun v Δ rd=>gP P KB pr l (fr+1) ⟨aY s.env o.dst v,put s.o Δ,s.nx⟩ (fp++[(rd,Δ.map (·.1))]) bad (ws++Δ.map (·.1))) (fun _ _ _=>False)
    else gP P KB pr l (fr+1) ⟨aY s.env o.dst (.bW []),s.o,s.nx⟩ (fp++[([],[])]) bad ws
   | .bW []=>gP P KB pr l (fr+1) ⟨aY s.env o.dst (.bW []),s.o,s.nx⟩ (fp++[([],[])]) bad ws
   |_=>False
def j7(P:Program)(K:S->Fp->Prop)(KP:V->List Nat->Fp->Prop)(pr:List (List Nat)):List cf->Nat->S->Fp->Prop
 |[],_,s,fp=>K s fp
 |o::l,fr,s,fp=>match o.gd with
  |none=>xb P s fr o (fun v Δ rd=>j7 P K KP pr l (fr+1) ⟨aY s.env o.dst v,put s.o Δ,s.nx⟩ (fp++[(rd,Δ.map (·.1))]))
   (fun v ws rd=>gP P (KP v) pr l (fr+1) ⟨aY s.env o.dst .ab,s.o,s.nx⟩ (fp++[(rd,[])]) [fp.length] (ws++fp.flatMap (·.2)))
  |some (d,want)=>match s.env d with
   | .d (.bool b)=>if b=want then xb P s fr o (fun v Δ rd=>j7 P K KP pr l (fr+1) ⟨aY s.env o.dst v,put s.o Δ,s.nx⟩ (fp++[(rd,Δ.map (·.1))]))
         (fun v ws rd=>gP P (KP v) pr l (fr+1) ⟨aY s.env o.dst .ab,s.o,s.nx⟩ (fp++[(rd,[])]) [fp.length] (ws++fp.flatMap (·.2)))
    else j7 P K KP pr l (fr+1) ⟨aY s.env o.dst (.bW []),s.o,s.nx⟩ (fp++[([],[])])
   | .bW []=>j7 P K KP pr l (fr+1) ⟨aY s.env o.dst (.bW []),s.o,s.nx⟩ (fp++[([],[])])
   |_=>False
def AA(pr:List (List Nat))(nx:Nat)(Q:fq->S->Prop)(s:S)(fp:Fp):Prop:=eE pr fp=true/\Q .normal ⟨s.env,s.o,nx⟩
def dstsOf(l:List cf):List Nat:=l.filterMap (·.dst)
def yd(pr:List (List Nat))(l:List cf)(s0:S)(Q:fq->S->Prop)(v:V)(wl:List Nat)(fp:Fp):Prop:=eE pr fp=true/\Q (.bK v) (si (dstsOf l) wl l.length s0)
def mz:List cf->List fe->S->Nat->S
 |_,_,s,0=>s
 |o::l,x::xs,s,j+1=>mz l xs (tz o.dst x s) j
 |_,_,s,_=>s
def uF(cc:List fe):Fp:=cc.map fun x=>(tI x,j5 x)
section
variable {P:Program}{n b:Nat}
theorem ye{s:S}{fr:Nat}{o:cf}{K:V->List (Nat×ae)->List Nat->Prop}{KX:V->List Nat->List Nat->Prop}(h:xb P s fr o K KX):(∃v Δ rd,uB P s fr o.op v Δ rd/\K v Δ rd)\/(∃v ws rd,x4 P s o.op v ws rd/\KX v ws rd):=by
 have hs:∀ {op:Op},o.op=op->(match gf P s fr op with|some (v,Δ,_)=>K v Δ (iX s o.op)|none=>False)->(∃v Δ rd,uB P s fr o.op v Δ rd/\K v Δ rd):=by
  intro op dD h
  split at h
  ·rename_i v Δ rd he;exact⟨v,Δ,_, .inl ⟨⟨rd,by rw[dD];exact he⟩,rfl⟩,h⟩
  ·exact h.elim
 unfold xb at h
 split at h
 ·rename_i c hc
  split at h
  ·rename_i f eg
   split at h
   ·rename_i g first cap hf
    split at h
    ·rename_i ds eW
     rcases h with(⟨rs,hP,h|⟨la,h⟩⟩|⟨x,hP,la,h⟩|⟨v,hP,h⟩)|⟨rd,Δ,me,⟨rs,hH,h⟩|⟨x,hH,h⟩|⟨v,hH,h⟩⟩
     ·exact .inl ⟨_,_,_, .inr ⟨c,f,g,first,cap,hc,eg,hf, .inl ⟨ds,rs,eW,hP,rfl,rfl, .inl rfl⟩⟩,h⟩
     ·exact .inl ⟨_,_,_, .inr ⟨c,f,g,first,cap,hc,eg,hf, .inl ⟨ds,rs,eW,hP,rfl,rfl, .inr ⟨la,rfl⟩⟩⟩,h⟩
     ·exact .inr ⟨_,_,_,⟨c,f,g,first,cap,hc,eg,hf, .inl ⟨ds,x,eW,hP,la,rfl,rfl,rfl⟩⟩,h⟩
     ·exact .inl ⟨_,_,_, .inr ⟨c,f,g,first,cap,hc,eg,hf, .inr (.inr (.inl ⟨ds,eW,hP,rfl,rfl⟩))⟩,h⟩
     ·exact .inl ⟨_,_,_, .inr ⟨c,f,g,first,cap,hc,eg,hf, .inr (.inl ⟨rs,hH,rfl,fun id aj=>by simpa using List.all_eq_true.1 me id aj⟩)⟩,h⟩
     ·exact .inr ⟨_,_,_,⟨c,f,g,first,cap,hc,eg,hf, .inr ⟨x,Δ,hH,rfl,rfl,fun id aj=>by simpa using List.all_eq_true.1 me id aj⟩⟩,h⟩
     ·exact .inl ⟨_,_,_, .inr ⟨c,f,g,first,cap,hc,eg,hf, .inr (.inr (.inr ⟨hH,fun id aj=>by simpa using List.all_eq_true.1 me id aj⟩))⟩,h⟩
    ·obtain⟨rd,Δ,me,⟨rs,hH,h⟩|⟨x,hH,h⟩|⟨v,hH,h⟩⟩:=h
     ·exact .inl ⟨_,_,_, .inr ⟨c,f,g,first,cap,hc,eg,hf, .inr (.inl ⟨rs,hH,rfl,fun id aj=>by simpa using List.all_eq_true.1 me id aj⟩)⟩,h⟩
     ·exact .inr ⟨_,_,_,⟨c,f,g,first,cap,hc,eg,hf, .inr ⟨x,Δ,hH,rfl,rfl,fun id aj=>by simpa using List.all_eq_true.1 me id aj⟩⟩,h⟩
     ·exact .inl ⟨_,_,_, .inr ⟨c,f,g,first,cap,hc,eg,hf, .inr (.inr (.inr ⟨hH,fun id aj=>by simpa using List.all_eq_true.1 me id aj⟩))⟩,h⟩
   ·exact h.elim
  ·rw[hc]at h;exact .inl (hs hc (by rw[hc];exact h))
 ·exact .inl (hs rfl h)
def HC(P:Program)(KB:List Nat->Fp->Prop)(pr:List (List Nat))(l:List cf)(fr:Nat)(s:S)(fp:Fp)(bad ws:List Nat):Prop:=
    ∃cc:List fe,cc.length=l.length/\(∀j o x,l[j]? =some o->cc[j]? =some x->Ji P (mz l cc s j) (fr+j) o x)/\
     (∀ (j:Nat),cc[j]? =some fe.dS->∃i∈pr.getD (fp.length+j) [],i∈bad\/∃j',j'<j/\i=fp.length+j'/\cc[j']? =some .dS)/\(∀x∈cc,x= .dS\/x.ok=true)/\
     ∃wl,KB wl (fp++uF cc)/\(∀id∈ws,id∈wl)/\∀x∈cc,∀id∈j5 x,id∈wl
theorem yf{KB:List Nat->Fp->Prop}{pr:List (List Nat)}:∀ (l:List cf) (fr:Nat) (s:S) (fp:Fp) (bad ws:List Nat),gP P KB pr l fr s fp bad ws->HC P KB pr l fr s fp bad ws
 |[],fr,s,fp,bad,ws,h=>⟨[],rfl,fun j o x hj=>by simp at hj,fun j hj=>by simp at hj,fun x hx=>by simp at hx,ws,by simpa[uF,gP]using h,fun _ h=>h,fun x hx=>by simp at hx⟩
 |o::l,fr,s,fp,bad,ws,h=>by
  have step:∀ (x:fe) (HD Jm:List Nat),Ji P s fr o x->gP P KB pr l (fr+1) (tz o.dst x s) (fp++[(tI x,j5 x)]) HD Jm->(x= .dS\/x.ok=true)->(x= .dS->∃i∈pr.getD fp.length [],i∈bad)->
   (∀i∈HD,i∈bad\/(i=fp.length/\x= .dS))->(∀id∈ws,id∈Jm)->(∀id∈j5 x,id∈Jm)->
   HC P KB pr (o::l) fr s fp bad ws:=by
   intro x HD Jm bz hr YW Db KO HA hW
   obtain⟨cc,h1,h2,h3,h4,wl,h5,h6,h7⟩:=yf l (fr+1) _ _ HD Jm hr
   refine⟨x::cc,by simp[h1],fun j o' y hj hy=> ?_,fun j hj=> ?_,fun y hy=> ?_,wl,by simpa[uF]using h5,fun id aj=>h6 id (HA id aj),fun y hy id aj=> ?_⟩
   ·cases j with
    |zero=>simp at hj hy;subst hj;subst hy;exact bz
    |succ j=>
     have:=h2 j o' y (by simpa using hj) (by simpa using hy)
     rw[show fr+(j+1)=fr+1+j by omega]
     exact this
   ·cases j with
    |zero=>
     simp at hj
     obtain⟨i,i1,i2⟩:=Db hj
     exact⟨i,by simpa using i1, .inl i2⟩
    |succ j=>
     obtain⟨i,i1,i2⟩:=h3 j (by simpa using hj)
     simp only[List.length_append,List.length_cons,List.length_nil]at i1 i2
     refine⟨i,by rw[show fp.length+(j+1)=fp.length+(0+1)+j by omega];exact i1, ?_⟩
     rcases i2 with i2|⟨j',j1,j2,j3⟩
     ·rcases KO i i2 with hb|⟨e1,e2⟩
      ·exact .inl hb
      ·exact .inr ⟨0,by omega,by omega,by simp[e2]⟩
     ·exact .inr ⟨j'+1,by omega,by omega,by simpa using j3⟩
   ·rcases List.mem_cons.1 hy with rfl|hy
    ·exact YW
    ·exact h4 y hy
   ·rcases List.mem_cons.1 hy with rfl|hy
    ·exact h6 id (hW id aj)
    ·exact h7 y hy id aj
  simp only[gP]at h
  split at h
  ·rename_i hb
   obtain⟨j,YX,zF⟩:=List.any_eq_true.1 hb
   exact step .dS _ _ trivial h (.inl rfl) (fun _=>⟨j,YX,by simpa using zF⟩) (fun i hi=>by
    rcases List.mem_append.1 hi with hi|hi
    ·exact .inl hi
    ·exact .inr ⟨by simpa using hi,rfl⟩) (fun _ h=>h) (fun id aj=>by simp[j5]at aj)
  ·have sn:df s o.gd true->xb P s fr o (fun v Δ rd=>gP P KB pr l (fr+1) ⟨aY s.env o.dst v,put s.o Δ,s.nx⟩ (fp++[(rd,Δ.map (·.1))]) bad (ws++Δ.map (·.1))) (fun _ _ _=>False)->HC P KB pr (o::l) fr s fp bad ws:=fun hg h=>by
    rcases ye h with⟨v,Δ,rd,qO,h⟩|⟨v,Jm,rd,_,h⟩
    ·exact step (.val v Δ rd) bad (ws++Δ.map (·.1)) ⟨hg,qO⟩ h (.inr rfl) (fun h=>by cases h) (fun i hi=> .inl hi) (fun id aj=>List.mem_append.2 (.inl aj)) (fun id aj=>List.mem_append.2 (.inr aj))
    ·exact h.elim
   have skip:df s o.gd false->gP P KB pr l (fr+1) ⟨aY s.env o.dst (.bW []),s.o,s.nx⟩ (fp++[([],[])]) bad ws->HC P KB pr (o::l) fr s fp bad ws:=fun hg h=>
    step .skip bad ws hg h (.inr rfl) (fun h=>by cases h) (fun i hi=> .inl hi) (fun id aj=>aj) (fun id aj=>by simp[j5]at aj)
   split at h
   ·rename_i hg;exact sn (by rw[hg];rfl) h
   ·rename_i d want hg
    split at h
    ·rename_i c hv
     split at h
     ·rename_i e;exact sn (by rw[hg];simp[df,hv,e]) h
     ·rename_i e;exact skip (by rw[hg];simp[df,hv,e]) h
    ·rename_i hv;exact skip (by rw[hg];simp[df,hv]) h
    ·exact h.elim
def Fl(P:Program)(K:S->Fp->Prop)(KP:V->List Nat->Fp->Prop)(pr:List (List Nat))(l:List cf)(fr:Nat)(s:S)(fp:Fp):Prop:=
 ∃cc:List fe,cc.length=l.length/\(∀j o x,l[j]? =some o->cc[j]? =some x->Ji P (mz l cc s j) (fr+j) o x)/\
  (((∀x∈cc,x.ok=true)/\K (mz l cc s l.length) (fp++uF cc))\/
   ∃v wl,(∀ (j:Nat) (v':V) (ws rd:List Nat),cc[j]? =some (fe.bK v' ws rd)->v'=v/\∀id∈ws,id∈wl)/\(∃x∈cc,x.ok=false)/\
    (∀ (j:Nat),cc[j]? =some fe.dS->∃i∈pr.getD (fp.length+j) [],∃j',i=fp.length+j'/\∃y,cc[j']? =some y/\y.ok=false)/\KP v wl (fp++uF cc)/\(∀x∈cc,∀id∈j5 x,id∈wl)/\∀id∈fp.flatMap (·.2),id∈wl)
theorem sq{K:S->Fp->Prop}{KP:V->List Nat->Fp->Prop}{pr:List (List Nat)}:∀ (l:List cf) (fr:Nat) (s:S) (fp:Fp),j7 P K KP pr l fr s fp->Fl P K KP pr l fr s fp
 |[],fr,s,fp,h=>⟨[],rfl,fun j o x hj=>by simp at hj, .inl ⟨fun x hx=>by simp at hx,by simpa[mz,uF,j7]using h⟩⟩
 |o::l,fr,s,fp,h=>by
  have step:∀ (x:fe),x.ok=true->Ji P s fr o x->j7 P K KP pr l (fr+1) (tz o.dst x s) (fp++[(tI x,j5 x)])->Fl P K KP pr (o::l) fr s fp:=by
   intro x OA bz hr
   obtain⟨cc,h1,h2,h3⟩:=sq l (fr+1) _ _ hr
   refine⟨x::cc,by simp[h1],fun j o' y hj hy=> ?_, ?_⟩
   ·cases j with
    |zero=>simp at hj hy;subst hj;subst hy;exact bz
    |succ j=>
     have:=h2 j o' y (by simpa using hj) (by simpa using hy)
     rw[show fr+(j+1)=fr+1+j by omega]
     exact this
   ·rcases h3 with⟨h3,h4⟩|⟨v,wl,g1,g2,g3,g4,g5,g6⟩
    ·left
     refine⟨fun y hy=> ?_,by simpa[mz,uF]using h4⟩
     rcases List.mem_cons.1 hy with rfl|hy
     ·exact OA
     ·exact h3 y hy
    ·right
     refine⟨v,wl,fun j v' ws rd hj=> ?_, ?_,fun j hj=> ?_,by simpa[uF]using g4,fun y hy id aj=> ?_,fun id aj=>g6 id (by simp only[List.flatMap_append,List.mem_append];exact .inl aj)⟩
     ·cases j with
      |zero=>simp at hj;rw[hj]at OA;cases OA
      |succ j=>exact g1 j v' ws rd (by simpa using hj)
     ·obtain⟨y,y1,y2⟩:=g2;exact⟨y,by simp[y1],y2⟩
     ·cases j with
      |zero=>simp at hj;rw[hj]at OA;cases OA
      |succ j=>
       obtain⟨i,i1,j',i2,y,i3,i4⟩:=g3 j (by simpa using hj)
       simp only[List.length_append,List.length_cons,List.length_nil]at i1 i2
       exact⟨i,by rw[show fp.length+(j+1)=fp.length+(0+1)+j by omega];exact i1,j'+1,by omega,y,by simpa using i3,i4⟩
     ·rcases List.mem_cons.1 hy with rfl|hy
      ·exact g6 id (by simp only[List.flatMap_append,List.mem_append];exact .inr (by simpa using aj))
      ·exact g5 y hy id aj
  have bK:∀ (v:V) (ws rd:List Nat),Ji P s fr o (.bK v ws rd)->gP P (KP v) pr l (fr+1) ⟨aY s.env o.dst .ab,s.o,s.nx⟩ (fp++[(rd,[])]) [fp.length] (ws++fp.flatMap (·.2))->Fl P K KP pr (o::l) fr s fp:=by
   intro v ws rd bz hr
   obtain⟨cc,h1,h2,h3,h4,wl,h5,h6,h7⟩:=yf l (fr+1) _ _ _ _ hr
   refine⟨fe.bK v ws rd::cc,by simp[h1],fun j o' y hj hy=> ?_, .inr ⟨v,wl,fun j v' Jm uz hj=> ?_,⟨fe.bK v ws rd,by simp,rfl⟩,fun j hj=> ?_,by simpa[uF,tI,j5]using h5,fun y hy id aj=> ?_,fun id aj=>h6 id (List.mem_append.2 (.inr aj))⟩⟩
   ·cases j with
    |zero=>simp at hj hy;subst hj;subst hy;exact bz
    |succ j=>
     have:=h2 j o' y (by simpa using hj) (by simpa using hy)
     rw[show fr+(j+1)=fr+1+j by omega]
     exact this
   ·cases j with
    |zero=>simp at hj;obtain⟨rfl,rfl,rfl⟩:=hj;exact⟨rfl,fun id aj=>h6 id (List.mem_append.2 (.inl aj))⟩
    |succ j=>
     have hm:=List.mem_of_getElem? (show cc[j]? =some (.bK v' Jm uz) by simpa using hj)
     rcases h4 _ hm with h|h<;>cases h
   ·cases j with
    |zero=>simp at hj
    |succ j=>
     obtain⟨i,i1,i2⟩:=h3 j (by simpa using hj)
     simp only[List.length_append,List.length_cons,List.length_nil]at i1 i2
     refine⟨i,by rw[show fp.length+(j+1)=fp.length+(0+1)+j by omega];exact i1, ?_⟩
     rcases i2 with i2|⟨j',j1,j2,j3⟩
     ·exact⟨0,by simpa using i2,_,rfl,rfl⟩
     ·exact⟨j'+1,by omega, .dS,by simpa using j3,rfl⟩
   ·rcases List.mem_cons.1 hy with rfl|hy
    ·simp[j5]at aj
    ·exact h7 y hy id aj
  have sn:df s o.gd true->xb P s fr o (fun v Δ rd=>j7 P K KP pr l (fr+1) ⟨aY s.env o.dst v,put s.o Δ,s.nx⟩ (fp++[(rd,Δ.map (·.1))]))
   (fun v ws rd=>gP P (KP v) pr l (fr+1) ⟨aY s.env o.dst .ab,s.o,s.nx⟩ (fp++[(rd,[])]) [fp.length] (ws++fp.flatMap (·.2)))->Fl P K KP pr (o::l) fr s fp:=fun hg h=>by
   rcases ye h with⟨v,Δ,rd,qO,h⟩|⟨v,ws,rd,qO,h⟩
   ·exact step (.val v Δ rd) rfl ⟨hg,qO⟩ h
   ·exact bK v ws rd ⟨hg,qO⟩ h
  have skip:df s o.gd false->j7 P K KP pr l (fr+1) ⟨aY s.env o.dst (.bW []),s.o,s.nx⟩ (fp++[([],[])])->Fl P K KP pr (o::l) fr s fp:=fun hg h=>step .skip rfl hg h
  simp only[j7]at h
  split at h
  ·rename_i hg;exact sn (by rw[hg];rfl) h
  ·rename_i d want hg
   split at h
   ·rename_i c hv
    split at h
    ·rename_i e;exact sn (by rw[hg];simp[df,hv,e]) h
    ·rename_i e;exact skip (by rw[hg];simp[df,hv,e]) h
   ·rename_i hv;exact skip (by rw[hg];simp[df,hv]) h
   ·exact h.elim
end
end Go.Proofs.YtealblliddhgiaaGreat
namespace Go.Proofs.YtealblliddhgiaaGreat
def sr(env:Nat->V):List Nat->List V->Nat->V
 |t::ps,v::vs=>sr (aq env t v) ps vs
 |_,_=>env
def Fm(pr:List (List Nat))(m:Nat):Bool:=(List.range pr.length).all fun k=>Nat.blt k m||Nat.beq ((eo pr []).getD k 0) (2^k - 1)
def Fo(P:Program)(l:List cf)(pr:List (List Nat))(Q:fq->S->Prop)(s:S):Prop:=
 ∃m,m<=l.length/\Fm pr m=true/\j7 P (fun s' fp=>eE pr fp=true/\nP P (fun v s=>Q (.bK v) s) (Q .normal) (l.drop m) ⟨s'.env,s'.o,s.nx+m⟩) (fun _ _ _=>False) pr (l.take m) s.nx s []
def rh(P:Program)(n b:Nat)(rd:Bool):IC->(fq->S->Prop)->S->Prop
 | .skip,Q,s=>Q .normal s
 | .af l,Q,s=>nP P (fun v s=>Q (.bK v) s) (Q .normal) l s
 | .cW l pr,Q,s=>j7 P (AA pr (s.nx+l.length) Q) (yd pr l s Q) pr l s.nx s []\/Fo P l pr Q s
 | .seq x y,Q,s=>rh P n b rd x (oN (rh P n b rd y Q) Q) s
 | .cond c x y,Q,s=>match s.ev c with
   | .d (.bool t)=>oZ t (rh P n b rd x Q s) (rh P n b rd y Q s)
   | .eY=>rh P n b rd x Q s/\rh P n b rd y Q s
   |_=>False
 | .block id x,Q,s=>rh P n b rd x (fk id Q) s
 | .loop x,Q,s=>Ff b (rh P n b rd x) Q s
 | .exit id,Q,s=>Q (.exit id) s
 | .ret,Q,s=>Q .ret s
 | .Cz g ps x y,Q,s=>rd=false/\xP P n (s.ev g) ps x y Q s
 | .bad,_,_=>False
section
variable {P:Program}{n b:Nat}{rd:Bool}
theorem ss:∀ (l:List cf) (cc:List fe) (s:S) (k:Nat) (o:cf) (x:fe),l[k]? =some o->cc[k]? =some x->mz l cc s (k+1)=tz o.dst x (mz l cc s k)
 |[],_,_,_,_,_,h,_=>by simp at h
 |o::l,[],_,_,_,_,_,h=>by simp at h
 |o::l,x::xs,s,0,o',x',h,h'=>by simp at h h';subst h;subst h';cases l<;>cases xs<;>rfl
 |o::l,x::xs,s,k+1,o',x',h,h'=>by
  simp only[mz]
  exact ss l xs _ k o' x' (by simpa using h) (by simpa using h')
theorem uG(l:List cf)(cc:List fe)(s:S)(hl:cc.length=l.length):∀k,k<=l.length->eK (bX l) (fun i=>cc.getD i default) (fun _=>true) s k=mz l cc s k:=by
 intro k
 induction k with
 |zero=>intro _;cases l<;>cases cc<;>rfl
 |succ k ih=>
  intro hk
  have h1:l[k]? =some (bX l k):=by simp[bX,List.getD_eq_getElem?_getD,List.getElem?_eq_getElem (by omega:k<l.length)]
  have h2:cc[k]? =some (cc.getD k default):=by simp[List.getD_eq_getElem?_getD,List.getElem?_eq_getElem (by omega:k<cc.length)]
  simp only[eK,if_true,ih (by omega)]
  rw[ss l cc s k _ _ h1 h2]
theorem mA{ops:Array Oper}:∀ (l:List Oper) (l':List cf),kj n ops l=some l'->l'.length=l.length
 |[],_,h=>by simp[kj]at h;subst h;rfl
 |o::l,l',h=>by
  simp only[kj]at h
  split at h
  ·rename_i hx;injection h with h;subst h;simp[mA l _ hx]
  ·cases h
theorem Dg(bc:P.follows .mixedOrders=true){id:Nat}{ops:Array Oper}{l:List cf}{Q Q':fq->S->Prop}{s:S}(hQ:∀e s,Q e s->Q' e s)(ng:kj n ops ops.toList=some l)(ht:vr l (gh ops)=true)
 (hp:Ks (gh ops)=true) (h:j7 P (AA (gh ops) (s.nx+l.length) Q) (yd (gh ops) l s Q) (gh ops) l s.nx s []):iJ P n b rd (.region id ops true) Q' s:=by
 intro M cC H0 w0 cx φ a w ro k hs
 obtain⟨cc,hl,bz,nR⟩:=sq l _ _ _ h
 have hlen:l.length=ops.size:=by rw[mA _ _ ng];simp
 have pN:∀k,k<ops.size->(gh ops).getD k []=bu ops k:=by
  intro k hk;simp[gh,List.getD_eq_getElem?_getD,List.getElem?_map,List.getElem?_range hk]
 have zE:(gh ops).length=ops.size:=by simp[gh]
 have qO:=uG l cc s hl
 have uH:∀k,k<ops.size->l[k]? =some (bX l k):=fun k hk=>by simp[bX,List.getD_eq_getElem?_getD,List.getElem?_eq_getElem (by omega:k<l.length)]
 have qW:∀k,k<ops.size->cc[k]? =some (cc.getD k default):=fun k hk=>by simp[List.getD_eq_getElem?_getD,List.getElem?_eq_getElem (by omega:k<cc.length)]
 have nK:∀k,k<ops.size->cc.getD k default∈cc:=fun k hk=>List.mem_of_getElem? (qW k hk)
 have Hn:∀k,k<ops.size->(uF cc)[k]? =some (tI (cc.getD k default),j5 (cc.getD k default)):=fun k hk=>by
  simp only[uF,List.getElem?_map,qW k hk,Option.map_some]
 have KQ:(uF cc).length=ops.size:=by simp[uF,hl,hlen]
 simp only[List.nil_append,List.length_nil,Nat.zero_add]at nR
 have pK:eE (gh ops) (uF cc)=true:=by
  rcases nR with⟨_,h⟩|⟨v,wl,_,_,_,h,_⟩
  ·exact h.1
  ·exact h.1
 have Dh:∀k,k<ops.size->∀j∈bu ops k,j<k:=fun k hk j hj=>by
  have:=List.all_eq_true.1 hp k (by simpa[zE]using hk)
  rw[pN k hk]at this
  simpa using List.all_eq_true.1 this j hj
 have Fq:∀k,k<(gh ops).length->∀j∈(gh ops).getD k [],j<k:=fun k hk j hj=>by
  rw[zE]at hk;rw[pN k hk]at hj;exact Dh k hk j hj
 let po:Nat->Nat->Prop:=fun k j=>((eo (gh ops) []).getD k 0).testBit j=true
 have BE:∀E:Nat->Bool,(∀k,k<ops.size->E k=true->∀j∈bu ops k,E j=true)->∀k,k<ops.size->(∀j∈bu ops k,E j=true)->∀j,po k j->E j=true:=fun E hE k hk hj j hb=>
  oe Fq (fun k hk gy j hj=>by rw[zE]at hk;rw[pN k hk]at hj;exact hE k hk gy j hj) k (by rw[zE];exact hk) (by rw[pN k hk];exact hj) j hb
 have ya:∀k,k<ops.size->∀j,po k j->j<k:=fun k hk j hb=>xd Fq k (by rw[zE];exact hk) j hb
 have wc:∀i j,i<j->j<ops.size-> ¬po j i->Compat (bX l) (fun i=>cc.getD i default) (fun i=>tI (cc.getD i default)) i j:=by
  intro i j OB hj hn
  have ER:=List.all_eq_true.1 (List.all_eq_true.1 ht j (by simpa[hlen]using hj)) i (by simpa using OB)
  have xQ:=List.all_eq_true.1 (List.all_eq_true.1 pK j (by simpa[KQ]using hj)) i (by simpa using OB)
  have TH:((eo (gh ops) []).getD j 0).testBit i=false:=by simpa[po]using hn
  rw[TH,Bool.false_or]at ER xQ
  simp only[Bool.and_eq_true]at ER xQ
  have gi:=Hn i (by omega)
  have gj:=Hn j hj
  simp only[List.getD_eq_getElem?_getD (l:=uF cc),gi,gj,Option.getD_some]at xQ
  have dj:∀ {xs ys:List Nat},jX xs ys=true->∀x∈xs,x∉ys:=fun h x hx=>by simpa using List.all_eq_true.1 h x hx
  have fo:∀ {x y:cf},pD x y=true->∀d,x.dst=some d->d∉eX y:=fun h d hd=>by simpa[pD,hd]using h
  exact⟨fo ER.1,fo ER.2,fun id aj=>⟨dj xQ.1.1 id aj,dj xQ.1.2 id aj⟩,fun id aj=>dj xQ.2 id aj⟩
 have Jn:∀i,i<ops.size->Ji P (eK (bX l) (fun i=>cc.getD i default) (fun _=>true) s i) (s.nx+i) (bX l i) (cc.getD i default):=fun i hi=>by
  rw[qO i (by omega)];exact bz i _ _ (uH i hi) (qW i hi)
 have cP:∀i,i<ops.size->∀t,(bX l i).dst=some t->(dstsOf l).contains t=true:=fun i hi t ht=>by
  simp only[List.contains_iff_mem,dstsOf,List.mem_filterMap]
  exact⟨bX l i,List.mem_of_getElem? (uH i hi),ht⟩
 rcases nR with⟨aP,nR⟩|⟨v,wl,q1,q2,q3,q4,q5,q6⟩
 ·refine x9 (ac:=fun i=>cc.getD i default) (dl:=dstsOf l) (wl:=(cc.flatMap j5)) bc ng Dh hs Jn (fun i hi hb=> ?_) BE ya wc cP (fun i hi id aj=> ?_) (fun i v ws uz hi hb=> ?_) (fun _ φ a w iz=> ?_) (fun i v ws uz hi hb=> ?_)
  ·have:=aP _ (nK i hi);rw[hb]at this;cases this
  ·simp only[List.contains_iff_mem,List.mem_flatMap];exact⟨_,nK i hi,aj⟩
  ·have:=aP _ (nK i hi);rw[hb]at this;cases this
  ·rw[qO ops.size (by omega), <- hlen]at iz
   exact⟨.normal,_,φ,hQ _ _ nR.2,iz,trivial⟩
  ·have:=aP _ (nK i hi);rw[hb]at this;cases this
 ·refine x9 (ac:=fun i=>cc.getD i default) (dl:=dstsOf l) (wl:=wl) bc ng Dh hs Jn (fun i hi hb=> ?_) BE ya wc cP (fun i hi id aj=> ?_) (fun i v' ws uz hi hb=> ?_) (fun aP φ a w iz=> ?_) (fun i v' ws uz hi hb φ a w val iz hd=> ?_)
  ·obtain⟨j,j1,j',e,y,j3,j4⟩:=q3 i (by rw[qW i hi];exact congrArg some hb)
   rw[pN i hi,e]at j1
   refine⟨j',j1, ?_⟩
   simp only[List.getD_eq_getElem?_getD,j3,Option.getD_some,j4]
  ·simp only[List.contains_iff_mem];exact q5 _ (nK i hi) id aj
  ·intro id aj
   simp only[List.contains_iff_mem]
   exact(q1 i v' ws uz (by rw[qW i hi];exact congrArg some hb)).2 id aj
  ·obtain⟨x,x1,x2⟩:=q2
   obtain⟨i,Hh,EF⟩:=List.getElem_of_mem x1
   have hi:i<ops.size:=by omega
   have:=aP i hi
   have e:cc.getD i default=x:=by simp[List.getD_eq_getElem?_getD,List.getElem?_eq_getElem Hh,EF]
   rw[e,x2]at this;cases this
  ·have e:=(q1 i v' ws uz (by rw[qW i hi];exact congrArg some hb)).1
   subst e
   rw[<- hlen]at iz hd
   exact⟨.bK v',_,φ,hQ _ _ q4.2,iz,val,rfl,hd⟩
theorem uI{ops:Array Oper}:∀ (l:List Oper) (l':List cf) (m:Nat),kj n ops l=some l'->kj n ops (l.drop m)=some (l'.drop m)
 |l,l',0,h=>h
 |[],l',m+1,h=>by simp[kj]at h;subst h;simp[kj]
 |o::l,l',m+1,h=>by
  simp only[kj]at h
  split at h
  ·rename_i x xs hx G5
   injection h with h;subst h
   exact uI l xs m G5
  ·cases h
theorem Fs{l:List cf}{ac:Nat->fe}{E:Nat->Bool}{s:S}{m:Nat}:∀k,k<=m->eK (bX l) ac E s k=eK (bX (l.take m)) ac E s k:=by
 intro k
 induction k with
 |zero=>intro _;rfl
 |succ k ih=>
  intro hk
  have:bX l k=bX (l.take m) k:=by simp[bX,List.getD_eq_getElem?_getD,List.getElem?_take,(by omega:k<m)]
  simp only[eK,ih (by omega),this]
theorem AB(bc:P.follows .mixedOrders=true){id:Nat}{ops:Array Oper}{l:List cf}{Q Q':fq->S->Prop}{s:S}(hQ:∀e s,Q e s->Q' e s)(ng:kj n ops ops.toList=some l)(ht:vr l (gh ops)=true)
 (hp:Ks (gh ops)=true) (h:Fo P l (gh ops) Q s):iJ P n b rd (.region id ops true) Q' s:=by
 intro M cC H0 w0 cx φ a w ro k hs
 obtain⟨m,G6,YY,h⟩:=h
 obtain⟨cc,hl,bz,nR⟩:=sq (l.take m) _ _ _ h
 have YZ:(l.take m).length=m:=by rw[List.length_take];omega
 have hlen:l.length=ops.size:=by rw[mA _ _ ng];simp
 have nR:=nR.resolve_right (fun⟨_,_,_,_,_,q4,_,_⟩=>q4)
 obtain⟨aP,nR⟩:=nR
 have KF:cc.length=m:=by omega
 have pN:∀k,k<ops.size->(gh ops).getD k []=bu ops k:=by
  intro k hk;simp[gh,List.getD_eq_getElem?_getD,List.getElem?_map,List.getElem?_range hk]
 have zE:(gh ops).length=ops.size:=by simp[gh]
 have qO:∀k,k<=m->eK (bX l) (fun i=>cc.getD i default) (fun _=>true) s k=mz (l.take m) cc s k:=fun k hk=>by
  rw[Fs k hk];exact uG (l.take m) cc s hl k (by omega)
 have uH:∀k,k<m->(l.take m)[k]? =some (bX l k):=fun k hk=>by
  rw[List.getElem?_take,if_pos hk]
  simp[bX,List.getD_eq_getElem?_getD,List.getElem?_eq_getElem (by omega:k<l.length)]
 have qW:∀k,k<m->cc[k]? =some (cc.getD k default):=fun k hk=>by simp[List.getD_eq_getElem?_getD,List.getElem?_eq_getElem (by omega:k<cc.length)]
 have nK:∀k,k<m->cc.getD k default∈cc:=fun k hk=>List.mem_of_getElem? (qW k hk)
 have Hn:∀k,k<m->(uF cc)[k]? =some (tI (cc.getD k default),j5 (cc.getD k default)):=fun k hk=>by
  simp only[uF,List.getElem?_map,qW k hk,Option.map_some]
 have KQ:(uF cc).length=m:=by simp[uF,KF]
 simp only[List.nil_append]at nR
 obtain⟨pK,HE⟩:=nR
 have Dh:∀k,k<ops.size->∀j∈bu ops k,j<k:=fun k hk j hj=>by
  have:=List.all_eq_true.1 hp k (by simpa[zE]using hk)
  rw[pN k hk]at this
  simpa using List.all_eq_true.1 this j hj
 have Fq:∀k,k<(gh ops).length->∀j∈(gh ops).getD k [],j<k:=fun k hk j hj=>by
  rw[zE]at hk;rw[pN k hk]at hj;exact Dh k hk j hj
 let po:Nat->Nat->Prop:=fun k j=>((eo (gh ops) []).getD k 0).testBit j=true
 have BE:∀E:Nat->Bool,(∀k,k<ops.size->E k=true->∀j∈bu ops k,E j=true)->∀k,k<ops.size->(∀j∈bu ops k,E j=true)->∀j,po k j->E j=true:=fun E hE k hk hj j hb=>
  oe Fq (fun k hk gy j hj=>by rw[zE]at hk;rw[pN k hk]at hj;exact hE k hk gy j hj) k (by rw[zE];exact hk) (by rw[pN k hk];exact hj) j hb
 have ya:∀k,k<ops.size->∀j,po k j->j<k:=fun k hk j hb=>xd Fq k (by rw[zE];exact hk) j hb
 have wc:∀i j,i<j->j<m-> ¬po j i->Compat (bX l) (fun i=>cc.getD i default) (fun i=>tI (cc.getD i default)) i j:=by
  intro i j OB hj hn
  have ER:=List.all_eq_true.1 (List.all_eq_true.1 ht j (by simp;omega)) i (by simpa using OB)
  have xQ:=List.all_eq_true.1 (List.all_eq_true.1 pK j (by simpa[KQ]using hj)) i (by simpa using OB)
  have TH:((eo (gh ops) []).getD j 0).testBit i=false:=by simpa[po]using hn
  rw[TH,Bool.false_or]at ER xQ
  simp only[Bool.and_eq_true]at ER xQ
  have gi:=Hn i (by omega)
  have gj:=Hn j hj
  simp only[List.getD_eq_getElem?_getD (l:=uF cc),gi,gj,Option.getD_some]at xQ
  have dj:∀ {xs ys:List Nat},jX xs ys=true->∀x∈xs,x∉ys:=fun h x hx=>by simpa using List.all_eq_true.1 h x hx
  have fo:∀ {x y:cf},pD x y=true->∀d,x.dst=some d->d∉eX y:=fun h d hd=>by simpa[pD,hd]using h
  exact⟨fo ER.1,fo ER.2,fun id aj=>⟨dj xQ.1.1 id aj,dj xQ.1.2 id aj⟩,fun id aj=>dj xQ.2 id aj⟩
 have Y0:∀k,m<=k->k<ops.size->∀j,j<k->po k j:=fun k ZW hk j hj=>by
  have:=List.all_eq_true.1 YY k (by simpa[zE]using hk)
  simp only[Bool.or_eq_true]at this
  rcases this with this|this
  ·exact absurd (Nat.blt_eq.mp this) (by omega)
  ·show((eo (gh ops) []).getD k 0).testBit j=true
   rw[Nat.eq_of_beq_eq_true this,Nat.testBit_two_pow_sub_one]
   exact decide_eq_true hj
 refine Az (ac:=fun i=>cc.getD i default) (m:=m) (X:=fun v s=>Q' (.bK v) s) (K:=Q' .normal) bc ng Dh (by omega) hs (fun i hi=> ?_) (fun i hi=>aP _ (nK i hi)) BE ya wc Y0 ?_ (fun s φ a w hk iz=>⟨.normal,s,φ,hk,iz,trivial⟩) (fun v s' ax a' w' val hx iz hd=>⟨.bK v,s',ax,hx,iz,val,rfl,hd⟩)
 ·rw[qO i (by omega)];exact bz i _ _ (uH i hi) (qW i hi)
 ·rw[qO m (Nat.le_refl _)]
  rw[YZ]at HE
  exact iW (fun s hs=>hQ _ _ hs) (fun v s hs=>hQ _ _ hs) _ _ _ (uI _ _ m ng) HE
theorem uJ{g:V}{ps:List Nat}{x y:IC}{Q Q':fq->S->Prop}{s:S}(hQ:∀e s,Q e s->Q' e s)(h:xP P n g ps x y Q s):xP P n g ps x y Q' s:=by
 obtain⟨env,h1,h2⟩:=h
 refine⟨env,h1, ?_⟩
 split at h2
 ·refine mj.mono (fun v o n h=> ?_) (fun v o n h=>hQ _ _ h) h2
  obtain⟨nf,m,e,p,c,d,st,pd,k1,k2,k3⟩:=h
  refine⟨nf,m,e,p,c,d,st,pd,k1,k2, ?_⟩
  cases pd with
  |none=>exact hQ _ _ k3
  |some j=>cases j<;>exact hQ _ _ k3
 ·exact h2
theorem gQ(bc:P.follows .mixedOrders=true):∀ (c:Code) (Q Q':fq->S->Prop) (s:S),(∀e s,Q e s->Q' e s)->rh P n b rd (low n c) Q s->iJ P n b rd c Q' s:=by
 intro c
 induction c with
 |skip=>exact fun Q Q' s hQ h=>hQ _ _ h
 |scope x ih=>exact fun Q Q' s hQ h=>ih Q Q' s hQ h
 |label l=>exact fun Q Q' s hQ h=>hQ _ _ h
 |exit id=>exact fun Q Q' s hQ h=>hQ _ _ h
 |ret=>exact fun Q Q' s hQ h=>hQ _ _ h
 |goto l=>exact fun Q Q' s hQ h=>h.elim
 |refuse y=>exact fun Q Q' s hQ h=>h.elim
 |rangeFunc f p x y=>exact fun Q Q' s hQ h=>⟨h.1,uJ hQ h.2⟩
 |region id ops draw=>
  intro Q Q' s hQ h
  cases draw with
  |true=>
   simp only[low]at h
   split at h
   ·rename_i l hl
    split at h
    ·rename_i hc
     simp only[Bool.and_eq_true]at hc
     rcases h with h|h
     ·exact Dg bc hQ hl hc.1 hc.2 h
     ·exact AB bc hQ hl hc.1 hc.2 h
    ·exact h.elim
   ·exact h.elim
  |false=>
   simp only[low]at h
   split at h
   ·rename_i l hl;exact iW (fun s hs=>hQ _ _ hs) (fun v s hs=>hQ _ _ hs) _ l s hl h
   ·exact h.elim
 |seq x y Hx Hy=>
  intro Q Q' s hQ h
  refine Hx _ _ s (fun e s he=> ?_) h
  cases e<;>first|exact Hy Q Q' s hQ he|exact hQ _ _ he
 |cond c x y Hx Hy=>
  intro Q Q' s hQ h
  simp only[low,rh]at h
  simp only[iJ]
  split at h
  ·rename_i t hc
   simp only[hc]
   exact⟨fun ht=>Hx Q Q' s hQ (h.1 ht),fun ht=>Hy Q Q' s hQ (h.2 ht)⟩
  ·rename_i hc
   simp only[hc]
   exact⟨Hx Q Q' s hQ h.1,Hy Q Q' s hQ h.2⟩
  ·exact h.elim
 |block id x ih=>
  intro Q Q' s hQ h
  refine ih _ _ s (fun e s he=> ?_) h
  cases e<;>simp only[fk]at he|- <;>first
   |exact hQ _ _ he
   |(split at he<;>rename_i e
     ·rw[if_pos e];exact hQ _ _ he
     ·rw[if_neg e];exact hQ _ _ he)
 |loop x ih=>
  intro Q Q' s hQ h
  obtain⟨J,h0,hr⟩:=h
  refine⟨J,h0,fun m s0 hJ=>ih _ _ s0 (fun e s he=> ?_) (hr m s0 hJ)⟩
  cases e<;>first|exact hQ _ _ he|exact he
structure aN (P:Program) (f:FuncId) (n:Nat) (ic:IC) (rs:List ResultVar):Prop where
 get:∃fn,P.funcs[f]? =some fn/\(fn.name== "runtime.NumGoroutine")=false/\fn.ntmps=n/\fn.results.toList=rs/\∃c,fn.body=some c/\low n c=ic
theorem eN.su (bc:P.follows .mixedOrders=true){f:FuncId}{ic:IC}{rs:List ResultVar}(hf:aN P f n ic rs){args:List V}{o:Nat->ae}{nx:Nat}{K X:V->(Nat->ae)->Nat->Prop}(hl:args.length<=n)(h:rh P n nx false ic (lu P rs K X) ⟨cN args,o,nx⟩):eN P f args o nx K X:=by
 obtain⟨fn,h1,h2,rfl,rfl,c,h3,rfl⟩:=hf.get
 exact eN.Bx h1 h2 h3 hl (gQ bc c _ _ _ (fun _ _ h=>h) h)
theorem cq.su (bc:P.follows .mixedOrders=true){f:FuncId}{ic:IC}{rs:List ResultVar}(hf:aN P f n ic rs){ds:List D}{out:R}(hl:ds.length<=n)(h:rh P n 0 false ic (Ab P rs out) ⟨cN (ds.map .d),fun _=> .no,0⟩):cq P f ds out:=by
 obtain⟨fn,h1,h2,rfl,rfl,c,h3,rfl⟩:=hf.get
 exact cq.lx (eN.Bx h1 h2 h3 (by simpa using hl) (gQ bc c _ _ _ (fun e s h=>C5 e s h) h))
end
end Go.Proofs.YtealblliddhgiaaGreat
namespace Go.Proofs.YtealblliddhgiaaGreat
abbrev Fix(α:Type){β:Type}(_:β):Type:=α
def jQ(K:V->List (Nat×ae)->Prop)(x:Fix (Option gq) K):Prop:=match x with|some (v,Δ,_)=>K v Δ|none=>False
@[go_sem] theorem KR {v:V} {Δ:List (Nat×ae)} {rd:List Nat} {K}:jQ K (some (v,Δ,rd))=K v Δ:=propext Iff.rfl
@[go_sem] theorem KT {K}:jQ K none=False:=propext Iff.rfl
def V.we (c:Bool)(v:V):V:=if c=true then v else .bW []
@[go_sem] theorem OC (b:Bool):(!!b)=b:=by simp
attribute [go_sem] true_or or_true false_or ne_eq not_false_eq_true decide_true decide_false Bool.not_true Bool.not_false Bool.and_true Bool.true_and Bool.and_false Bool.false_and Bool.or_true Bool.true_or Bool.or_false Bool.false_or beq_self_eq_true Bool.true_eq_false Bool.false_eq_true not_true_eq_false and_true true_and and_false false_and eq_self
@[go_sem] theorem V.OD (v:V):V.we true v=v:=rfl
@[go_sem] theorem V.MN (v:V):V.we false v= .bW []:=rfl
def lP(c:Bool)(p:Prop):Prop:=c=true->p
@[congr] theorem Jo {c c':Bool} {p p':Prop} (h:c=c') (h2:c'=true->p=p'):lP c p=lP c' p':=by
  subst h;cases c
  ·simp[lP]
  ·simp[lP,h2 rfl]
@[go_sem] theorem KU (p:Prop):lP true p=p:=by simp[lP]
@[go_sem] theorem Jp (p:Prop):lP false p=True:=by simp[lP]
@[go_sem] theorem KW (a:Bool):lP a True=True:=by simp[lP]
def lQ(v:V)(want:Bool):Option Bool:=
 match v with
 | .d (.bool b)=>some (b==want)
 | .bW []=>some false
 |_=>none
@[go_sem] theorem KY (b:Bool):lQ (.d (.bool b)) true=some b:=by simp[lQ]
@[go_sem] theorem Jq (b:Bool):lQ (.d (.bool b)) false=some (!b):=by simp[lQ]
@[go_sem] theorem OE (want:Bool):lQ (.bW []) want=some false:=rfl
@[go_sem] theorem MO (c b want:Bool):lQ (V.we c (.d (.bool b))) want=some (c&&(b==want)):=by cases c<;>simp[lQ,V.we]
@[go_sem] theorem KZ (c b e want:Bool):lQ (V.we c (V.we e (.d (.bool b)))) want=some (c&&e&&(b==want)):=by cases c<;>cases e<;>simp[lQ,V.we]
def j8(c:Bool)(x:Option gq):Option gq:=
 if c=true then(match x with|some (v,[],_)=>some (v,[],[])|_=>none)else some (.bW [],[],[])
@[congr] theorem HG {c c':Bool} {x x':Option gq} (h:c=c') (h2:c'=true->x=x'):j8 c x=j8 c' x':=by
  subst h;cases c
  ·rfl
  ·simp[j8,h2 rfl]
def MP(v:V)(rd:List Nat):Option gq:=some (v,[],rd)
@[go_sem] theorem TI (v:V) (rd:List Nat):(some (v,[],rd):Option gq)=MP v rd:=by unfold MP;exact Eq.trans rfl rfl
@[go_sem] theorem K0 (c:Bool) (v:V) (rd:List Nat):j8 c (MP v rd)=MP (V.we c v) []:=by cases c<;>rfl
@[go_sem] theorem MQ {v:V} {rd:List Nat} {K}:jQ K (MP v rd)=K v []:=propext Iff.rfl
@[go_sem] theorem Jr (c:Bool) (v:V) (rd:List Nat):j8 c (some (v,[],rd))=some (V.we c v,[],[]):=by cases c<;>rfl
@[go_sem] theorem HH (x:Option gq):j8 false x=some (.bW [],[],[]):=rfl
@[go_sem] theorem OG (b x:Bool):oT (.d (.bool b)) (V.we b (.d (.bool x))) (.d (.bool false))=some (.d (.bool (b&&x))):=by cases b<;>rfl
@[go_sem] theorem Sn (b x:Bool):oT (.d (.bool b)) (.d (.bool true)) (V.we (!b) (.d (.bool x)))=some (.d (.bool (b||x))):=by cases b<;>rfl
@[go_sem] theorem OH (b x:Bool):oT (.d (.bool (!b))) (.d (.bool true)) (V.we b (.d (.bool x)))=some (.d (.bool (!b||x))):=by cases b<;>rfl
@[go_sem] theorem MR (x y:V):oT (.d (.bool true)) x y=some x:=rfl
@[go_sem] theorem K1 (x y:V):oT (.d (.bool false)) x y=some y:=rfl
@[reducible] def j9:Op->Bool
  | .move _| .assign _| .pick .. | .load .. | .binOp .. | .unOp .. | .nilCheck _| .convert .. | .makeInterface .. | .makeFunc .. | .fieldAddr .. | .indexAddr .. | .extract .. | .build .. | .index .. | .field .. | .lookup .. =>true
  | .call c=>match c.callee with
    | .builtin .len=>true
    | .builtin .min=>true
    | .builtin .max=>true
    |_=>false
  |_=>false
def yg(P:Program)(f:V)(args:List V)(o:Nat->ae)(rs:List D):Prop:=
 match f with
 | .func (.func g) first cap=>match bZ o (first++args++cap)with
   |some ds=>cq P g ds (.ret rs)/\D.jk rs=true
   |none=>False
 |_=>False
def BG(P:Program)(f:V)(args:List V)(o:Nat->ae)(K:V->Prop)(c:Fix Bool (f,args,o,K)):Prop:=
 ∃rs,lP c (yg P f args o rs)/\K (V.we c (iM rs))
def yh(P:Program)(g:FuncId)(nx:Nat)(K X:V->(Nat->ae)->Nat->Prop)(args:Fix (List V) (K,X))(o:Fix (Nat->ae) (K,X)):Prop:=qs P g args o nx K X
def sv(P:Program)(g:FuncId)(o:Nat->ae)(nx:Nat)(K X:V->(Nat->ae)->Nat->Prop)(ds:Fix (List D) (o,nx,K,X))(all:Fix (List V) (o,nx,K,X)):Prop:=
 uA P g ds o (put o (cw o (V.ba all))) (put o (qM o (V.ba all))) (fun v o'=>K v o' (nx+1)) (fun v o'=>X v o' (nx+1))\/qs P g all o nx K X
def mC(P:Program)(g:FuncId)(K X:V->(Nat->ae)->Nat->Prop)(s:S)(all:List V)(ds:Fix (Option (List D)) (K,X,s,all)):Prop:=
 match ds with
 |some ds=>sv P g s.o s.nx K X ds all
 |none=>yh P g s.nx K X all s.o
@[go_sem] theorem Js {P:Program} {s:S} {ds:List D} {g:FuncId} {all:List V} {K X}:
 mC P g K X s all (some ds)=sv P g s.o s.nx K X ds all:=propext Iff.rfl
def uK(P:Program)(id:Nat)(K X:V->(Nat->ae)->Nat->Prop)(s:S)(args:Fix (List V) (K,X,s)):Prop:=dM P id args s.o s.nx K X
@[go_sem] theorem Jt {P:Program} {s:S} {g:FuncId} {all:List V} {K X}:mC P g K X s all none=yh P g s.nx K X all s.o:=propext Iff.rfl
def qz(P:Program)(K X:V->(Nat->ae)->Nat->Prop)(s:S)(f:Fix V (K,X,s))(args:Fix (List V) (K,X,s)):Prop:=
 match f with
 | .func (.func g) first cap=>mC P g K X s (first++args++cap) (bZ s.o (first++args++cap))
 | .ko id=>uK P id K X s args
 |_=>False
@[go_sem] theorem MS {P:Program} {s:S} {id:Nat} {args:List V} {K X}:qz P K X s (.ko id) args=uK P id K X s args:=propext Iff.rfl
@[go_sem] theorem K2 {P:Program} {s:S} {g:FuncId} {first cap args:List V} {K X}:qz P K X s (.func (.func g) first cap) args=mC P g K X s (first++args++cap) (bZ s.o (first++args++cap)):=propext Iff.rfl
def Di(K:V->Prop)(v:Fix V K):Prop:=
 match v with
 | .d (.iface t y)=>K (.d (.iface t y))
 | .iface t y=>K (.iface t y)
 |_=>False
@[go_sem] theorem TJ {t:TypeId} {y:D} {K}:Di K (.d (.iface t y))=K (.d (.iface t y)):=propext Iff.rfl
@[go_sem] theorem TK {t:TypeId} {y:V} {K}:Di K (.iface t y)=K (.iface t y):=propext Iff.rfl
def uL(K:V->List (Nat×ae)->Prop)(id:Nat)(l:Fix (List (D×D)) (K,id)):Prop:=Bl id l fun v Δ _=>K v Δ
def Ft(K:V->List (Nat×ae)->Prop)(str:Bool)(MT:Fix (Option gq) (K,str))(left:Fix (Option (Nat×List (D×D))) (K,str)):Prop:=
 match left with
 |some (id,l)=>str=false/\uL K id l
 |none=>jQ K MT
@[go_sem] theorem MU {K} {MT:Option gq} {id:Nat} {l:List (D×D)}:Ft K false MT (some (id,l))=uL K id l:=propext ⟨fun h=>h.2,fun h=>⟨rfl,h⟩⟩
@[go_sem] theorem MV {K} {str:Bool} {MT:Option gq}:Ft K str MT none=jQ K MT:=propext Iff.rfl
def zI(P:Program)(X:V->S->Prop)(K:S->Prop)(o:cf)(s:Fix S (X,K,o)):Prop:=
 match o.op with
 | .next x str=>Ft (fun v Δ=>K ⟨aY s.env o.dst v,put s.o Δ,s.nx+1⟩) str (nn s.o (s.ev x) str) (np s.o (s.ev x))
 | .call c=>match c.callee with
   | .value f=>qz P (fun v o' nx'=>K ⟨aY s.env o.dst v,o',nx'⟩) (fun v o' nx'=>X v ⟨s.env,o',nx'⟩) s (s.ev f) (c.args.toList.map s.ev)
   |_=>jQ (fun v Δ=>K ⟨aY s.env o.dst v,put s.o Δ,s.nx+1⟩) (gf P s s.nx o.op)
 | .panic x=>Di (fun v=>X v s) (s.ev x)
 |op=>jQ (fun v Δ=>K ⟨aY s.env o.dst v,put s.o Δ,s.nx+1⟩) (gf P s s.nx op)
@[reducible] def fD:Op->Option (Operand×List Operand)
  | .call c=>match c.callee with
    | .value f=>some (f,c.args.toList)
    |_=>none
  |_=>none
def ik(A B:Prop)(t:Fix Bool (A,B)):Prop:=oZ t A B
@[go_sem] theorem K4 (A B:Prop):ik A B true=A:=sd A B
@[go_sem] theorem Ju (A B:Prop):ik A B false=B:=qt A B
def AD(P:Program)(X:V->S->Prop)(K:S->Prop)(o:cf)(s:S)(f:Operand)(args:List Operand)(c:Fix Bool (X,K,o,s,f,args)):Prop:=
 BG P (s.ev f) (args.map s.ev) s.o (fun v=>K ⟨aY s.env o.dst v,s.o,s.nx+1⟩) c\/ik (zI P X K o s) (K ⟨aY s.env o.dst (.bW []),s.o,s.nx+1⟩) c
def wg(P:Program)(X:V->S->Prop)(K:S->Prop)(o:cf)(s:S)(c:Fix (Option Bool) (X,K,o,s)):Prop:=
 match c with
 |none=>False
 |some c=>match fD o.op with
  |some (f,args)=>AD P X K o s f args c
  |none=>if j9 o.op=true then jQ (fun v _=>K ⟨aY s.env o.dst v,s.o,s.nx+1⟩) (j8 c (gf P s s.nx o.op))
   else ik (zI P X K o s) (K ⟨aY s.env o.dst (.bW []),s.o,s.nx+1⟩) c
def qX(P:Program)(X:V->S->Prop)(K:S->Prop)(l:List cf)(s:Fix S (X,K,l)):Prop:=
 match l with
 |[]=>K s
 |o::l=>match o.gd with
  |none=>zI P X (qX P X K l) o s
  |some (d,want)=>wg P X (qX P X K l) o s (lQ (s.env d) want)
def jo(want:Bool)(A B:Prop)(v:Fix V (A,B)):Prop:=
 match v with
 | .d (.bool b)=>oZ (b==want) A B
 | .bW []=>B
 |_=>False
@[go_sem] theorem Jv (b:Bool) (A B:Prop):jo true A B (.d (.bool b))=ik A B b:=by simp[jo,ik]
@[go_sem] theorem HI (b:Bool) (A B:Prop):jo false A B (.d (.bool b))=ik A B (!b):=by simp[jo,ik]
@[go_sem] theorem MW (want:Bool) (A B:Prop):jo want A B (.bW [])=B:=propext Iff.rfl
@[go_sem] theorem K5 (c b want:Bool) (A B:Prop):jo want A B (V.we c (.d (.bool b)))=ik A B (c&&(b==want)):=by cases c<;>simp[jo,V.we,ik]
abbrev KD:=V->List (Nat×ae)->List Nat->Prop
abbrev XD:=V->List Nat->List Nat->Prop
def Fu(P:Program)(g:FuncId)(K:KD)(X:XD)(o:Nat->ae)(rd:List Nat)(ds:Fix (List D) (K,X,o,rd))(all:Fix (List V) (K,X,o,rd)):Prop:=
 qy P g ds (fun v=>K v (cw o (V.ba all)) rd) (fun v=>K v [] rd) (fun v=>X v [] rd)
def pV(P:Program)(g:FuncId)(K:KD)(X:XD)(o:Nat->ae)(nx fr:Nat)(all:Fix (List V) (K,X,o,nx)):Prop:=iD P g all o nx fr K X
def sw(P:Program)(g:FuncId)(K:KD)(X:XD)(o:Nat->ae)(nx fr:Nat)(rd:List Nat)(ds:Fix (List D) (K,X,o,nx,rd))(all:Fix (List V) (K,X,o,nx,rd)):Prop:=Fu P g K X o rd ds all\/pV P g K X o nx fr all
def pW(P:Program)(K:KD)(X:XD)(o:Nat->ae)(nx fr:Nat)(rd:List Nat)(g:FuncId)(all:List V)(ds:Fix (Option (List D)) (K,X,o,nx,rd,all)):Prop:=
 match ds with
 |some ds=>sw P g K X o nx fr rd ds all
 |none=>pV P g K X o nx fr all
@[go_sem] theorem Jw {P:Program} {o:Nat->ae} {nx fr:Nat} {rd:List Nat} {ds:List D} {g:FuncId} {all:List V} {K X}:pW P K X o nx fr rd g all (some ds)=sw P g K X o nx fr rd ds all:=propext Iff.rfl
@[go_sem] theorem Jx {P:Program} {o:Nat->ae} {nx fr:Nat} {rd:List Nat} {g:FuncId} {all:List V} {K X}:pW P K X o nx fr rd g all none=pV P g K X o nx fr all:=propext Iff.rfl
def yi(P:Program)(K:KD)(X:XD)(o:Nat->ae)(nx fr:Nat)(rd:Fix (List Nat) (K,X,o,nx))(f:Fix V (K,X,o,nx))(args:Fix (List V) (K,X,o,nx)):Prop:=
 match f with
 | .func (.func g) first cap=>pW P K X o nx fr rd g (first++args++cap) (bZ o (first++args++cap))
 |_=>False
@[go_sem] theorem K6 {P:Program} {o:Nat->ae} {nx fr:Nat} {rd:List Nat} {g:FuncId} {first cap args:List V} {K X}:yi P K X o nx fr rd (.func (.func g) first cap) args=pW P K X o nx fr rd g (first++args++cap) (bZ o (first++args++cap)):=propext Iff.rfl
def sx(K:KD)(rd:List Nat)(x:Fix (Option gq) (K,rd)):Prop:=match x with|some (v,Δ,_)=>K v Δ rd|none=>False
@[go_sem] theorem K7 {v:V} {Δ:List (Nat×ae)} {r rd:List Nat} {K}:sx K rd (some (v,Δ,r))=K v Δ rd:=propext Iff.rfl
@[go_sem] theorem MX {v:V} {r rd:List Nat} {K}:sx K rd (MP v r)=K v [] rd:=propext Iff.rfl
def Ha(P:Program)(K:KD)(X:XD)(fr:Nat)(o:cf)(s:Fix S (K,X,o)):Prop:=
 match fD o.op with
 |some (f,args)=>yi P K X s.o s.nx fr (iX s o.op) (s.ev f) (args.map s.ev)
 |none=>sx K (iX s o.op) (gf P s fr o.op)
def Dj(P:Program)(KB:List Nat->Fp->Prop)(pr:List (List Nat))(l:List cf)(fr:Nat)(fp:Fix Fp (KB,l))(bad ws:Fix (List Nat) (KB,l))(s:Fix S (KB,l)):Prop:=gP P KB pr l fr s fp bad ws
def o6(P:Program)(K:S->Fp->Prop)(KP:V->List Nat->Fp->Prop)(pr:List (List Nat))(l:List cf)(fr:Nat)(s:Fix S (K,KP,l))(fp:Fix Fp (K,KP,l)):Prop:=
 match l with
 |[]=>K s fp
 |o::l=>match o.gd with
  |none=>Ha P (fun v Δ rd=>o6 P K KP pr l (fr+1) ⟨aY s.env o.dst v,put s.o Δ,s.nx⟩ (fp++[(rd,Δ.map (·.1))]))
   (fun v ws rd=>Dj P (KP v) pr l (fr+1) (fp++[(rd,[])]) [fp.length] (ws++fp.flatMap (·.2)) ⟨aY s.env o.dst .ab,s.o,s.nx⟩) fr o s
  |some (d,want)=>jo want (Ha P (fun v Δ rd=>o6 P K KP pr l (fr+1) ⟨aY s.env o.dst v,put s.o Δ,s.nx⟩ (fp++[(rd,Δ.map (·.1))]))
   (fun v ws rd=>Dj P (KP v) pr l (fr+1) (fp++[(rd,[])]) [fp.length] (ws++fp.flatMap (·.2)) ⟨aY s.env o.dst .ab,s.o,s.nx⟩) fr o s)
   (o6 P K KP pr l (fr+1) ⟨aY s.env o.dst (.bW []),s.o,s.nx⟩ (fp++[([],[])])) (s.env d)
def HJ(pr:List (List Nat))(nx:Nat)(Q:fq->S->Prop)(s:Fix S Q)(fp:Fix Fp Q):Prop:=AA pr nx Q s fp
def uM(A B:Prop)(v:Fix V (A,B)):Prop:=
 match v with
 | .d (.bool t)=>ik A B t
 | .eY=>A/\B
 |_=>False
@[go_sem] theorem MY (A B:Prop):uM A B .eY=(A/\B):=propext Iff.rfl
@[go_sem] theorem K8 (t:Bool) (A B:Prop):uM A B (.d (.bool t))=ik A B t:=propext Iff.rfl
def yj{ι:Type}(b:Nat)(st:ι->S)(cY:ι->Prop)(nS:ι->Nat)(i:ι)(s:S):Prop:=∃j,cY j/\nS j<nS i/\bY b s (st j)
def sy(next:S->Prop)(Q:fq->S->Prop)(e:fq)(s:S):Prop:=match e with| .normal=>next s|e=>Q e s
section
variable {N:S->Prop}{Q:fq->S->Prop}{s:S}
@[go_sem ↓] theorem HK:sy N Q .normal s=N s:=propext Iff.rfl
@[go_sem ↓] theorem K9 {id:Nat}:sy N Q (.exit id) s=Q (.exit id) s:=propext Iff.rfl
@[go_sem ↓] theorem MZ:sy N Q .ret s=Q .ret s:=propext Iff.rfl
@[go_sem ↓] theorem M0 {v:V}:sy N Q (.bK v) s=Q (.bK v) s:=propext Iff.rfl
end
def jR(b:Nat)(body:(fq->S->Prop)->S->Prop)(Q:fq->S->Prop)(s:Fix S (body,Q)):Prop:=
 ∃ (ι:Type) (st:ι->S) (cY:ι->Prop) (nS:ι->Nat) (i0:ι),cY i0/\bY b s (st i0)/\∀i,cY i->body (sy (yj b st cY nS i) Q) (st i)
theorem aX{ι:Type}{b:Nat}{body:(fq->S->Prop)->S->Prop}{Q:fq->S->Prop}{s:S}(st:ι->S)(cY:ι->Prop)(nS:ι->Nat)(i0:ι)(h0:cY i0)(hle:bY b s (st i0))
 (h:∀i,cY i->body (sy (yj b st cY nS i) Q) (st i)):jR b body Q s:=⟨ι,st,cY,nS,i0,h0,hle,h⟩
def AE(P:Program)(n:Nat)(rd:Bool)(ps:List Nat)(x y:IC)(Q:fq->S->Prop)(s:Fix S (x,y,Q))(g:Fix V (x,y,Q)):Prop:=rd=false/\xP P n g ps x y Q s
def ka(P:Program)(n b:Nat)(rd:Bool)(c:IC)(Q:fq->S->Prop)(s:Fix S (c,Q)):Prop:=
 match c with
 | .skip=>Q .normal s
 | .af l=>qX P (fun v s=>Q (.bK v) s) (Q .normal) l s
 | .cW l pr=>o6 P (HJ pr (s.nx+l.length) Q) (yd pr l s Q) pr l s.nx s []
 | .seq x y=>ka P n b rd x (oN (fun s=>ka P n b rd y Q s) Q) s
 | .cond c x y=>uM (ka P n b rd x Q s) (ka P n b rd y Q s) (s.ev c)
 | .block id x=>ka P n b rd x (fk id Q) s
 | .loop x=>jR b (fun Q s=>ka P n b rd x Q s) Q s
 | .exit id=>Q (.exit id) s
 | .ret=>Q .ret s
 | .Cz g ps x y=>AE P n rd ps x y Q s (s.ev g)
 | .bad=>False
section
variable {P:Program}{n b:Nat}{rd:Bool}
theorem yk{s:S}{f:V}{args:List V}{K K':V->(Nat->ae)->Nat->Prop}{X X':V->(Nat->ae)->Nat->Prop}(hK:∀v o n,K v o n->K' v o n)(hX:∀v o n,X v o n->X' v o n)(h:qz P K X s f args):
 match(generalizing:=false) f with
  | .func (.func g) first cap=>match bZ s.o (first++args++cap)with
    |some ds=>uA P g ds s.o (put s.o (cw s.o (V.ba (first++args++cap)))) (put s.o (qM s.o (V.ba (first++args++cap)))) (fun v o'=>K' v o' (s.nx+1)) (fun v o'=>X' v o' (s.nx+1))\/qs P g (first++args++cap) s.o s.nx K' X'
    |none=>qs P g (first++args++cap) s.o s.nx K' X'
  | .ko id=>dM P id args s.o s.nx K' X'
  |_=>False:=by
 unfold qz mC uK at h
 split at h
 ·rename_i g first cap
  cases eW:bZ s.o (first++args++cap)with
  |some ds=>
   simp only[eW]at h|-
   rcases h with⟨out,h1,h2|⟨h3,h2⟩|⟨h3,h2⟩⟩|h
   ·exact .inl ⟨out,h1, .inl (by cases out<;>first|exact hK _ _ _ h2|exact hX _ _ _ h2)⟩
   ·exact .inl ⟨out,h1, .inr (.inl ⟨h3,by cases out<;>first|exact hK _ _ _ h2|exact hX _ _ _ h2⟩)⟩
   ·exact .inl ⟨out,h1, .inr (.inr ⟨h3,by cases out<;>first|exact hK _ _ _ h2|exact hX _ _ _ h2⟩)⟩
   ·exact .inr (mj.mono hK hX h)
  |none=>
   simp only[eW]at h|-
   exact mj.mono hK hX h
 ·exact dM.mono hK hX h
 ·exact h.elim
theorem pX{x:Option gq}{K:V->List (Nat×ae)->Prop}(h:jQ K x):∃v Δ rd,x=some (v,Δ,rd)/\K v Δ:=by
 unfold jQ at h;split at h
 ·exact⟨_,_,_,rfl,h⟩
 ·exact h.elim
theorem wh{s:S}{o:cf}{X X':V->S->Prop}{K K':S->Prop}(hK:∀s,K s->K' s)(hX:∀v s,X v s->X' v s)(h:zI P X K o s):Eu P s o X' K':=by
 unfold zI at h
 unfold Eu
 have hs:∀ {op:Op},(jQ (fun v Δ=>K ⟨aY s.env o.dst v,put s.o Δ,s.nx+1⟩) (gf P s s.nx op))->(match gf P s s.nx op with|some (v,Δ,_)=>K' ⟨aY s.env o.dst v,put s.o Δ,s.nx+1⟩|none=>False):=by
  intro op h
  obtain⟨v,Δ,rd,he,h⟩:=pX h
  simp only[he];exact hK _ h
 split at h
 ·rename_i x str hx
  rw[hx]
  unfold Ft at h
  simp only
  split at h
  ·rename_i id l hl
   simp only[hl]
   exact⟨h.1,fun e=>hK _ (h.2.1 e),fun i k x e=>hK _ (h.2.2 i k x e)⟩
  ·rename_i hl
   simp only[hl]
   exact hs (op:= .next x str) h
 ·rename_i c hc
  simp only[hc]
  split at h
  ·rename_i f hf
   simp only[hf]
   exact yk (K:=fun v o' nx'=>K ⟨aY s.env o.dst v,o',nx'⟩) (X:=fun v o' nx'=>X v ⟨s.env,o',nx'⟩) (fun v o n h=>hK _ h) (fun v o n h=>hX _ _ h) h
  ·rename_i hf
   rw[hc]at h
   obtain⟨EZ,args,ts⟩:=c
   cases EZ with
   |value f=>exact absurd rfl (hf f)
   |invoke r m=>obtain⟨v,Δ,rd,he,h⟩:=pX h;cases he
   |_=>exact hs h
 ·rename_i x hx
  simp only[hx]
  unfold Di at h
  split at h
  ·rename_i hv;simp only[hv];exact hX _ _ h
  ·rename_i hv;simp only[hv];exact hX _ _ h
  ·exact h.elim
 ·rename_i ml hc hp
  have h2:=hs h
  cases hh:o.op<;>first
   |exact absurd hh (hc _)
   |exact absurd hh (hp _)
   |exact absurd hh (ml _ _)
   |(rw[hh]at h2;exact h2)
theorem Fv{s:S}{o:cf}{X:V->S->Prop}{K:S->Prop}(hp:j9 o.op=true){v:V}{Δ:List (Nat×ae)}{rd:List Nat}(he:gf P s s.nx o.op=some (v,Δ,rd))(h:K ⟨aY s.env o.dst v,put s.o Δ,s.nx+1⟩):Eu P s o X K:=by
 unfold Eu
 split
 ·rename_i c hc
  split
  ·rename_i f hf;rw[hc]at hp;simp[j9,hf]at hp
  ·rename_i r m hf;rw[hc]at hp;simp[j9,hf]at hp
  ·rw[he];exact h
 ·rename_i x hx;rw[hx]at hp;simp[j9]at hp
 ·rename_i x str hx;rw[hx]at hp;simp[j9]at hp
 ·rw[he];exact h
theorem uN{X X':V->S->Prop}{K K':S->Prop}(hK:∀s,K s->K' s)(hX:∀v s,X v s->X' v s):∀ (l:List cf) (s:S),qX P X K l s->nP P X' K' l s
 |[],s,h=>hK _ h
 |o::l,s,h=>by
  have ih:=uN hK hX l
  unfold qX at h
  unfold nP
  cases hg:o.gd with
  |none=>
   simp only[hg]at h|-
   exact wh ih hX h
  |some p=>
   obtain⟨d,want⟩:=p
   simp only[hg]at h|-
   unfold wg at h
   split at h
   ·exact h.elim
   ·rename_i c hc
    have Sp:∀ {A B:Prop},(c=true->A)->(c=false->B)->(match s.env d with
     | .d (.bool b)=>if b=want then A else B
     | .bW []=>B
     |_=>False):=by
     intro A B hA hB
     generalize s.env d=v at hc
     unfold lQ at hc
     split at hc
     ·rename_i b
      injection hc with hc
      split
      ·rename_i e;exact hA (by rw[<- hc];simp[e])
      ·rename_i e;exact hB (by rw[<- hc];simp[e])
     ·injection hc with hc
      exact hB hc.symm
     ·cases hc
    split at h
    ·rename_i f args AF
     rcases h with h|h
     case inr=>exact Sp (fun Jy=>wh ih hX (h.1 Jy)) (fun o7=>ih _ (h.2 o7))
     obtain⟨rs,h1,h2⟩:=h
     refine Sp (fun Jy=> ?_) (fun o7=> ?_)
     ·unfold fD at AF
      split at AF
      ·rename_i c' CW
       split at AF
       ·rename_i f' rP
        injection AF with AF;injection AF with e1 e2;subst e1;subst e2
        have lX:=h1 Jy
        unfold Eu
        simp only[CW,rP]
        unfold yg at lX
        split at lX
        ·rename_i g first cap rV
         simp only[rV]
         split at lX
         ·rename_i ds eW
          simp only[eW]
          refine .inl ⟨.ret rs,lX.1, .inr (.inl ⟨lX.2, ?_⟩)⟩
          refine ih _ ?_
          rw[Jy]at h2
          exact h2
         ·exact lX.elim
        ·exact lX.elim
       ·cases AF
      ·cases AF
     ·refine ih _ ?_
      rw[o7]at h2
      exact h2
    ·split at h
     ·rename_i hp
      obtain⟨v,Δ,rd,he,h⟩:=pX h
      refine Sp (fun Jy=> ?_) (fun o7=> ?_)
      ·rw[Jy]at he
       simp only[j8,if_true]at he
       split at he
       ·rename_i v' uz fm
        injection he with he;injection he with e1 e2;subst e1
        exact Fv hp fm (ih _ h)
       ·cases he
      ·rw[o7]at he
       simp only[j8]at he
       injection he with he;injection he with e1 e2;subst e1
       exact ih _ h
     ·exact Sp (fun Jy=>wh ih hX (h.1 Jy)) (fun o7=>ih _ (h.2 o7))
theorem wk{op:Op}{f:Operand}{args:List Operand}(h:fD op=some (f,args)):∃c,op= .call c/\c.callee= .value f/\c.args.toList=args:=by
 unfold fD at h
 split at h
 ·rename_i c
  split at h
  ·rename_i f' rP
   injection h with h;injection h with e1 e2;subst e1;subst e2
   exact⟨c,rfl,rP,rfl⟩
  ·cases h
 ·cases h
theorem Dk{x:Option gq}{rd:List Nat}{K:KD}(h:sx K rd x):∃v Δ r,x=some (v,Δ,r)/\K v Δ rd:=by
 unfold sx at h;split at h
 ·exact⟨_,_,_,rfl,h⟩
 ·exact h.elim
theorem iD.mono {P:Program}{g:FuncId}{args:List V}{o:Nat->ae}{nx fr:Nat}{K K':KD}{X X':XD}(hK:∀v Δ r,K v Δ r->K' v Δ r)(hX:∀v w r,X v w r->X' v w r)(h:iD P g args o nx fr K X):iD P g args o nx fr K' X':=by
 obtain⟨rd,Δ,h1,⟨rs,h2,h3⟩|⟨x,h2,h3⟩|⟨v,h2,h3⟩⟩:=h
 ·exact⟨rd,Δ,h1, .inl ⟨rs,h2,hK _ _ _ h3⟩⟩
 ·exact⟨rd,Δ,h1, .inr (.inl ⟨x,h2,hX _ _ _ h3⟩)⟩
 ·exact⟨rd,Δ,h1, .inr (.inr ⟨v,h2,hK _ _ _ h3⟩)⟩
theorem qy.mono {P:Program}{g:FuncId}{ds:List D}{Kf Kb KX Wx Wy Wz:V->Prop}(h1:∀v,Kf v->Wx v)(h2:∀v,Kb v->Wy v)(h3:∀v,KX v->Wz v)(h:qy P g ds Kf Kb KX):qy P g ds Wx Wy Wz:=by
 rcases h with⟨rs,a,b|⟨b,c⟩⟩|⟨x,a,b,c⟩|⟨v,a,b⟩
 ·exact .inl ⟨rs,a, .inl (h1 _ b)⟩
 ·exact .inl ⟨rs,a, .inr ⟨b,h2 _ c⟩⟩
 ·exact .inr (.inl ⟨x,a,b,h3 _ c⟩)
 ·exact .inr (.inr ⟨v,a,h1 _ b⟩)
theorem BH{s:S}{fr:Nat}{o:cf}{K K':KD}{X X':XD}(hK:∀v Δ r,K v Δ r->K' v Δ r)(hX:∀v w r,X v w r->X' v w r)(h:Ha P K X fr o s):xb P s fr o K' X':=by
 unfold Ha at h
 split at h
 ·rename_i f args AF
  obtain⟨c,h1,h2,h3⟩:=wk AF
  subst h3
  unfold xb
  simp only[h1,h2]
  unfold yi pW at h
  split at h
  ·rename_i g first cap hf
   simp only[hf]
   split at h
   ·rename_i ds eW
    simp only[eW]
    refine h.elim (fun h=> .inl ?_) (fun h=> .inr (iD.mono hK hX h))
    refine qy.mono (fun v h=> ?_) (fun v h=> ?_) (fun v h=> ?_) h<;>(rw[h1]at h)
    ·exact hK _ _ _ h
    ·exact hK _ _ _ h
    ·exact hX _ _ _ h
   ·rename_i eW
    simp only[eW]
    exact iD.mono hK hX h
  ·exact h.elim
 ·rename_i AF
  obtain⟨v,Δ,rd,he,h⟩:=Dk h
  unfold xb
  split
  ·rename_i c hc
   split
   ·rename_i f hf
    exact absurd AF (by simp[fD,hc,hf])
   ·simp only[he];exact hK _ _ _ h
  ·simp only[he];exact hK _ _ _ h
theorem yl{s:S}{fr:Nat}{o:cf}{K K':KD}{X X':XD}(hK:∀v Δ r,K v Δ r->K' v Δ r)(hX:∀v w r,X v w r->X' v w r)(h:xb P s fr o K X):xb P s fr o K' X':=by
 unfold xb at h|-
 split at h
 ·rename_i c hc
  rw[hc]at h|-
  split at h
  ·rename_i f hf
   (try simp only[hf])
   split at h
   ·rename_i rV
    (try simp only[rV])
    split at h
    ·exact h.elim (fun h=> .inl (qy.mono (fun v h=>hK _ _ _ h) (fun v h=>hK _ _ _ h) (fun v h=>hX _ _ _ h) h)) (fun h=> .inr (iD.mono hK hX h))
    ·exact iD.mono hK hX h
   ·exact h.elim
  ·rename_i hf
   split at h
   ·rename_i he
    (try simp only[he])
    exact hK _ _ _ h
   ·exact h.elim
 ·split at h
  ·rename_i he
   (try simp only[he]);exact hK _ _ _ h
  ·exact h.elim
theorem iY{KB WA:List Nat->Fp->Prop}{pr:List (List Nat)}(hK:∀l fp,KB l fp->WA l fp):∀ (l:List cf) (fr:Nat) (s:S) (fp:Fp) (bad ws:List Nat),gP P KB pr l fr s fp bad ws->gP P WA pr l fr s fp bad ws
 |[],_,_,_,_,_,h=>hK _ _ h
 |o::l,fr,s,fp,bad,ws,h=>by
  unfold gP at h|-
  split
  ·rename_i hb
   rw[if_pos hb]at h
   exact iY hK l _ _ _ _ _ h
  ·rename_i hb
   rw[if_neg hb]at h
   split at h
   ·exact yl (fun v Δ r h=>iY hK l _ _ _ _ _ h) (fun _ _ _ h=>h) h
   ·split at h
    ·split at h
     ·rename_i e;simp only[e,if_true]
      exact yl (fun v Δ r h=>iY hK l _ _ _ _ _ h) (fun _ _ _ h=>h) h
     ·rename_i e;simp only[e,if_false]
      exact iY hK l _ _ _ _ _ h
    ·exact iY hK l _ _ _ _ _ h
    ·exact h.elim
theorem kE{K K':S->Fp->Prop}{KP TL:V->List Nat->Fp->Prop}{pr:List (List Nat)}(hK:∀s fp,K s fp->K' s fp)(hP:∀v l fp,KP v l fp->TL v l fp):∀ (l:List cf) (fr:Nat) (s:S) (fp:Fp),o6 P K KP pr l fr s fp->j7 P K' TL pr l fr s fp
 |[],_,_,_,h=>hK _ _ h
 |o::l,fr,s,fp,h=>by
  have hB:∀v ws (TM:List Nat),Dj P (KP v) pr l (fr+1) (fp++[(TM,[])]) [fp.length] (ws++fp.flatMap (·.2)) ⟨aY s.env o.dst .ab,s.o,s.nx⟩->
   gP P (TL v) pr l (fr+1) ⟨aY s.env o.dst .ab,s.o,s.nx⟩ (fp++[(TM,[])]) [fp.length] (ws++fp.flatMap (·.2)):=fun v ws TM h=>iY (fun a b h=>hP v a b h) l _ _ _ _ _ h
  unfold o6 at h
  unfold j7
  split at h
  ·rename_i hg
   (try simp only[hg])
   exact BH (fun v Δ r h=>kE hK hP l _ _ _ h) hB h
  ·rename_i d want hg
   (try simp only[hg])
   generalize s.env d=v at h
   unfold jo at h
   split at h
   ·rename_i bb
    by_cases e:bb=want
    ·subst e
     simp only[if_true]
     exact BH (fun v Δ r h=>kE hK hP l _ _ _ h) hB (h.1 (by simp))
    ·simp only[if_neg e]
     exact kE hK hP l _ _ _ (h.2 (by simpa using e))
   ·exact kE hK hP l _ _ _ h
   ·exact h.elim
theorem fE:∀ (c:IC) (Q Q':fq->S->Prop) (s:S),(∀e s,Q e s->Q' e s)->ka P n b rd c Q s->rh P n b rd c Q' s
 | .skip,_,_,_,hQ,h=>hQ _ _ h
 | .af l,_,_,_,hQ,h=>uN (fun s h=>hQ _ _ h) (fun v s h=>hQ _ _ h) l _ h
 | .cW l pr,_,_,_,hQ,h=> .inl (kE (fun s fp h=>⟨h.1,hQ _ _ h.2⟩) (fun v l fp h=>⟨h.1,hQ _ _ h.2⟩) l _ _ _ h)
 | .seq x y,Q,Q',s,hQ,h=>fE x _ _ s (fun e s h=>by
  unfold oN at h|-
  cases e with
  |normal=>exact fE y _ _ s hQ h
  |_=>exact hQ _ _ h) h
 | .cond c x y,Q,Q',s,hQ,h=>by
   unfold ka uM ik at h
   unfold rh
   split at h
   ·rename_i t ht
    simp only[ht]
    exact⟨fun e=>fE x _ _ s hQ (h.1 e),fun e=>fE y _ _ s hQ (h.2 e)⟩
   ·rename_i ht
    simp only[ht]
    exact⟨fE x _ _ s hQ h.1,fE y _ _ s hQ h.2⟩
   ·exact h.elim
 | .block id x,Q,Q',s,hQ,h=>fE x _ _ s (fun e s h=>by
  unfold fk at h|-
  cases e with
  |exit j=>
   simp only at h|-
   split
   ·rename_i e;rw[if_pos e]at h;exact hQ _ _ h
   ·rename_i e;rw[if_neg e]at h;exact hQ _ _ h
  |_=>exact hQ _ _ h) h
 | .loop x,Q,Q',s,hQ,h=>by
   obtain⟨ι,st,cY,nS,i0,h0,hle,h2⟩:=h
   refine⟨fun m s=>∃i,cY i/\nS i=m/\s=st i,⟨nS i0,st i0,hle,i0,h0,rfl,rfl⟩, ?_⟩
   rintro m s0 ⟨i,hg,rfl,rfl⟩
   refine fE x _ _ _ (fun e s h=> ?_) (h2 i hg)
   cases e with
   |normal=>
    obtain⟨j,k1,k2,k3⟩:=h
    exact⟨nS j,st j,k2,k3,j,k1,rfl,rfl⟩
   |_=>exact hQ _ _ h
 | .exit id,_,_,_,hQ,h=>hQ _ _ h
 | .ret,_,_,_,hQ,h=>hQ _ _ h
 | .Cz g ps x y,_,_,_,hQ,h=>⟨h.1,uJ hQ h.2⟩
 | .bad,_,_,_,_,h=>h.elim
end
theorem cq.bt {P:Program}(bc:P.follows .mixedOrders=true){f:FuncId}{n:Nat}{ic:IC}{rs:List ResultVar}{ds:List D}{out:R}(hf:aN P f n ic rs)(hl:ds.length<=n)
 (h:ka P n 0 false ic (Ab P rs out) ⟨cN (ds.map .d),fun _=> .no,0⟩):cq P f ds out:=
 cq.su bc hf hl (fE ic _ _ _ (fun _ _ h=>h) h)
def Fw(P:Program)(rs:List ResultVar)(K X:V->(Nat->ae)->Nat->Prop)(e:fq)(s:S):Prop:=lu P rs K X e s
theorem eN.bt {P:Program}(bc:P.follows .mixedOrders=true){f:FuncId}{n:Nat}{ic:IC}{rs:List ResultVar}{args:List V}{o:Nat->ae}{nx:Nat}{K X:V->(Nat->ae)->Nat->Prop}(hf:aN P f n ic rs)(hl:args.length<=n)
 (h:ka P n nx false ic (Fw P rs K X) ⟨cN args,o,nx⟩):eN P f args o nx K X:=
 eN.su bc hf hl (fE ic _ _ _ (fun _ _ h=>h) h)
section
variable {P:Program}{g:FuncId}{ds:List D}{o:Nat->ae}{nx:Nat}{K X:V->(Nat->ae)->Nat->Prop}{all:List V}
theorem aM{rs:List D}(h:cq P g ds (.ret rs))(hf:D.jk rs=true)(hk:K (iM rs) o (nx+1)):sv P g o nx K X ds all:= .inl ⟨.ret rs,h, .inr (.inl ⟨hf,hk⟩)⟩
theorem bN{rs:List D}(h:cq P g ds (.ret rs))(hk:K (iM rs) (put o (cw o (V.ba all))) (nx+1)):sv P g o nx K X ds all:= .inl ⟨.ret rs,h, .inl hk⟩
theorem ff(h:eN P g all o nx K X):sv P g o nx K X ds all:= .inr (.inl h)
theorem mD{e:Nat->V}{ds:Option (List D)}(h:eN P g all o nx K X):mC P g K X ⟨e,o,nx⟩ all ds:=by
 cases ds with
 |some ds=>exact(.inr (.inl h):sv P g o nx K X ds all)
 |none=>exact(.inl h:yh P g nx K X all o)
theorem cQ(h:eN P g all o nx K X):yh P g nx K X all o:= .inl h
variable {K:KD}{X:XD}{rd:List Nat}{fr:Nat}
theorem cm{rs:List D}(h:cq P g ds (.ret rs))(hf:D.jk rs=true)(hk:K (iM rs) [] rd):sw P g K X o nx fr rd ds all:= .inl (.inl ⟨rs,h, .inr ⟨hf,hk⟩⟩)
theorem eS{rs:List D}(h:cq P g ds (.ret rs))(hk:K (iM rs) (cw o (V.ba all)) rd):sw P g K X o nx fr rd ds all:= .inl (.inl ⟨rs,h, .inl hk⟩)
end
theorem fX{P:Program}{f:V}{args:List V}{o:Nat->ae}{K:V->Prop}{c:Bool}(rs:List D)(h:lP c (yg P f args o rs))(hk:K (V.we c (iM rs))):BG P f args o K c:=⟨rs,h,hk⟩
theorem ay{t:Bool}{A B:Prop}(h:t=true->A)(h2:t=false->B):ik A B t:=⟨h,h2⟩
theorem aK{pr:List (List Nat)}{nx:Nat}{Q:fq->S->Prop}{s:S}{fp:List (List Nat×List Nat)}(h:eE pr fp=true)(h2:Q .normal ⟨s.env,s.o,nx⟩):HJ pr nx Q s fp:=⟨h,h2⟩
@[go_sem] theorem sA (o:Nat->ae):put o []=o:=rfl
@[go_sem] theorem mX (o:Nat->ae) (x:Nat×ae) (l:List (Nat×ae)):put o (x::l)=put (aq o x.1 x.2) l:=rfl
@[go_sem] theorem aa {α:Type} (f:Nat->α) (i:Nat) (x:α):aq f i x i=x:=by simp
@[go_sem] theorem ad {α:Type} (f:Nat->α) (i j:Nat) (x:α) (h:j≠i):aq f i x j=f j:=by simp[h]
@[go_sem] theorem HL (v:V) (l:List V):cN (v::l) 0=v:=rfl
@[go_sem] theorem HM (v:V) (l:List V) (i:Nat):cN (v::l) (i+1)=cN l i:=rfl
@[go_sem] theorem Jz (i:Nat):cN [] i= .bW []:=by simp[cN]
@[go_sem] theorem M3 {P:Program} {o:Nat->ae} {t:TypeId} {id off:Nat}:mu P o t (.ptr id off)=match o id with
 | .row cs=>match eO P t cs off with
   |some v=>some (v,[],[id])
   |none=>none
 |_=>none:=by unfold mu;exact Eq.trans rfl rfl
@[go_sem] theorem OI {P:Program} {o:Nat->ae} {t:TypeId} {cs:List D} {off:Nat}:mu P o t (.pp cs off)=match eO P t (cs.map .d) off with
 |some v=>some (v,[],[])
 |none=>none:=by unfold mu;exact Eq.trans rfl rfl
@[go_sem] theorem OJ {P:Program} {o:Nat->ae} {t:TypeId} {id ep i sz off:Nat}:mu P o t (.pe id ep i sz off)=match o id with
 | .arr gG _ nb es=>if ep=gG/\sz=nb then match es[i]? with
  |some e=>match eO P t (e.cells.map .d) off with
   |some v=>some (v,[],[id])
   |none=>none
  |none=>none
   else none
 |_=>none:=by unfold mu;exact Eq.trans rfl rfl
section
variable {P:Program}{o:Nat->ae}{t:TypeId}{op:BinOp}{nF:Bool}
@[go_sem] theorem M4 {k:IntKind} {a b:Int}:dA P o op t nF (.d (.int k a)) (.d (.int k b))=match xT op k a b with
 |some v=>one v
 |none=>pJ P o op t nF (.d (.int k a)) (.d (.int k b)):=by
  simp only[dA,vR,if_true]
  cases xT op k a b<;>rfl
@[go_sem] theorem M5 {a b:Bool} (h:aR P t=true):dA P o .eql t nF (.d (.bool a)) (.d (.bool b))=one (.d (.bool (a==b))):=by simp only[dA,vR,Fb,h,if_true]
@[go_sem] theorem M6 {a b:Bool} (h:aR P t=true):dA P o .neq t nF (.d (.bool a)) (.d (.bool b))=one (.d (.bool (a !=b))):=by simp only[dA,vR,Fb,h,if_true]
@[go_sem] theorem M7 {a b:List UInt8}:dA P o .eql t nF (.d (.str a)) (.d (.str b))=one (.d (.bool (a==b))):=by unfold dA;exact Eq.trans rfl rfl
@[go_sem] theorem M8 {a b:List UInt8}:dA P o .neq t nF (.d (.str a)) (.d (.str b))=one (.d (.bool (a !=b))):=by unfold dA;exact Eq.trans rfl rfl
@[go_sem] theorem M9 {a b:List D}:dA P o op t nF (.d (.agg a)) (.d (.agg b))=pJ P o op t nF (.d (.agg a)) (.d (.agg b)):=by unfold dA;exact Eq.trans rfl rfl
theorem o8{x:V}{y:V}(h:match y with| .d (.int _ _)| .d (.bool _)| .d (.str _)=>False|_=>True):vR P op t x y=none:=by
 unfold vR
 split<;>first|exact h.elim|rfl
@[go_sem] theorem La {x:V}:dA P o op t nF x .aW=pJ P o op t nF x .aW:=by unfold dA;rw[o8 trivial]
@[go_sem] theorem Lb {x:V}:dA P o op t nF x (.d .fH)=pJ P o op t nF x (.d .fH):=by unfold dA;rw[o8 trivial]
@[go_sem] theorem Lc {x:V}:dA P o op t nF x (.d .gE)=pJ P o op t nF x (.d .gE):=by unfold dA;rw[o8 trivial]
@[go_sem] theorem Ld {x:V}:dA P o op t nF x (.d .aV)=pJ P o op t nF x (.d .aV):=by unfold dA;rw[o8 trivial]
@[go_sem] theorem Le {x:V}:dA P o op t nF x (.d .cO)=pJ P o op t nF x (.d .cO):=by unfold dA;rw[o8 trivial]
@[go_sem] theorem OK {b:Bool}:xU .not (.d (.bool b))=some (.d (.bool !b)):=by unfold xU;exact Eq.trans rfl rfl
@[go_sem] theorem OL:xU .not .eY=some .eY:=by unfold xU;exact Eq.trans rfl rfl
@[go_sem] theorem OM {k:IntKind} {n:Int}:xU .neg (.d (.int k n))=some (.d (.int k (k.wrap (-n)))):=by unfold xU;exact Eq.trans rfl rfl
end
@[go_sem] theorem D.Na (cs:List D):(D.agg cs).cells=cs:=rfl
@[go_sem] theorem D.Nb (k:IntKind) (n:Int):(D.int k n).cells=[.int k n]:=rfl
@[go_sem] theorem D.Lf (b:Bool):(D.bool b).cells=[.bool b]:=rfl
@[go_sem] theorem D.Nc (b:List UInt8):(D.str b).cells=[.str b]:=rfl
@[go_sem] theorem D.ON (b:List D):(D.sl b).cells=[.sl b]:=rfl
@[go_sem] theorem D.OO (a b:List D):(D.mp a b).cells=[.mp a b]:=rfl
@[go_sem] theorem D.JA (t:TypeId) (x:D):(D.iface t x).cells=[.iface t x]:=rfl
@[go_sem] theorem D.Lg:D.fH.cells=[.fH]:=rfl
@[go_sem] theorem D.Lh:D.gE.cells=[.gE]:=rfl
@[go_sem] theorem D.Li:D.aV.cells=[.aV]:=rfl
@[go_sem] theorem D.Lj:D.cO.cells=[.cO]:=rfl
attribute [go_sem] V.ofConst V.dt xT Fb oU Ai uy nu gM gN pS fU ly oV oW oX vS iV Fc lj dG bZ eO vu qh ft V.cells D.put cw V.ids V.ba iM D.jk D.flat R.flat
attribute [go_sem] zL List.take_succ_cons List.take_zero List.take_nil List.drop_zero List.drop_succ_cons List.drop_nil
attribute [go_sem] List.map_cons List.map_nil List.length_cons List.length_nil List.cons_append List.nil_append List.append_nil List.getElem?_cons_zero List.getElem?_cons_succ Option.bind_some Option.bind_none Option.map_some Option.map_none ae.bO ae.aZ
section
variable {P:Program}{n b:Nat}{rd:Bool}{Q:fq->S->Prop}{s:S}
@[go_sem] theorem OP:ka P n b rd .skip Q s=Q .normal s:=propext Iff.rfl
@[go_sem] theorem Sq {l:List cf}:ka P n b rd (.af l) Q s=qX P (fun v s=>Q (.bK v) s) (Q .normal) l s:=propext Iff.rfl
@[go_sem] theorem Sr {l:List cf} {pr:List (List Nat)}:ka P n b rd (.cW l pr) Q s=o6 P (HJ pr (s.nx+l.length) Q) (yd pr l s Q) pr l s.nx s []:=propext Iff.rfl
@[go_sem] theorem Ss {x y:IC}:ka P n b rd (.seq x y) Q s=ka P n b rd x (oN (fun s=>ka P n b rd y Q s) Q) s:=propext Iff.rfl
@[go_sem] theorem OQ {c:Operand} {x y:IC}:ka P n b rd (.cond c x y) Q s=uM (ka P n b rd x Q s) (ka P n b rd y Q s) (s.ev c):=propext Iff.rfl
@[go_sem] theorem Nd {id:Nat} {x:IC}:ka P n b rd (.block id x) Q s=ka P n b rd x (fk id Q) s:=propext Iff.rfl
@[go_sem] theorem OR {x:IC}:ka P n b rd (.loop x) Q s=jR b (fun Q s=>ka P n b rd x Q s) Q s:=propext Iff.rfl
@[go_sem] theorem OS {id:Nat}:ka P n b rd (.exit id) Q s=Q (.exit id) s:=propext Iff.rfl
@[go_sem] theorem Su:ka P n b rd .ret Q s=Q .ret s:=propext Iff.rfl
@[go_sem] theorem Sv {g:Operand} {ps:List Nat} {x y:IC}:ka P n b rd (.Cz g ps x y) Q s=AE P n rd ps x y Q s (s.ev g):=propext Iff.rfl
@[go_sem] theorem OT {X:V->S->Prop} {K:S->Prop}:qX P X K [] s=K s:=propext Iff.rfl
@[go_sem] theorem Nf {X:V->S->Prop} {K:S->Prop} {d:Option Nat} {op:Op} {l:List cf}:qX P X K (⟨d,op,none⟩::l) s=zI P X (qX P X K l) ⟨d,op,none⟩ s:=propext Iff.rfl
@[go_sem] theorem Ng {X:V->S->Prop} {K:S->Prop} {d:Option Nat} {op:Op} {g:Nat} {w:Bool} {l:List cf}:qX P X K (⟨d,op,some (g,w)⟩::l) s=wg P X (qX P X K l) ⟨d,op,some (g,w)⟩ s (lQ (s.env g) w):=propext Iff.rfl
variable {X:V->S->Prop}{K:S->Prop}{d:Option Nat}{op:Op}{g:Option (Nat×Bool)}{f:Operand}{args:Array Operand}{ts:Array TypeId}{c:Bool}
@[reducible] def OU:Op->Bool
  | .call c=>match c.callee with
    | .value _=>true
    |_=>false
  | .panic _=>true
  | .next .. =>true
  |_=>false
@[go_sem] theorem TN (h:OU op=false):zI P X K ⟨d,op,g⟩ s=jQ (fun v Δ=>K ⟨aY s.env d v,put s.o Δ,s.nx+1⟩) (gf P s s.nx op):=by
  unfold zI
  cases op with
  |call c=>
   obtain⟨EZ,args,ts⟩:=c
   cases EZ with
   |value f=>simp[OU]at h
   |_=>rfl
  |panic x=>simp[OU]at h
  |next x str=>simp[OU]at h
  |_=>rfl
@[go_sem] theorem OV {x:Operand} {str:Bool}:zI P X K ⟨d, .next x str,g⟩ s=Ft (fun v Δ=>K ⟨aY s.env d v,put s.o Δ,s.nx+1⟩) str (nn s.o (s.ev x) str) (np s.o (s.ev x)):=propext Iff.rfl
@[go_sem] theorem OW:zI P X K ⟨d, .call ⟨.value f,args,ts⟩,g⟩ s=qz P (fun v o' nx'=>K ⟨aY s.env d v,o',nx'⟩) (fun v o' nx'=>X v ⟨s.env,o',nx'⟩) s (s.ev f) (args.toList.map s.ev):=propext Iff.rfl
@[go_sem] theorem Nh:zI P X K ⟨d, .panic f,g⟩ s=Di (fun v=>X v s) (s.ev f):=propext Iff.rfl
@[go_sem] theorem Ni:wg P X K ⟨d, .call ⟨.value f,args,ts⟩,g⟩ s (some c)=AD P X K ⟨d, .call ⟨.value f,args,ts⟩,g⟩ s f args.toList c:=propext Iff.rfl
theorem gR{e:Nat->V}{ob:Nat->ae}{nx:Nat}(h:BG P ((⟨e,ob,nx⟩:S).ev f) (args.toList.map (⟨e,ob,nx⟩:S).ev) ob (fun v=>K ⟨aY e d v,ob,nx+1⟩) c):AD P X K ⟨d,op,g⟩ ⟨e,ob,nx⟩ f args.toList c:= .inl h
theorem ym{s:S}{o:cf}{l:List Operand}(h:ik (zI P X K o s) (K ⟨aY s.env o.dst (.bW []),s.o,s.nx+1⟩) c):AD P X K o s f l c:= .inr h
@[go_sem] theorem Nj (h:j9 op=true):wg P X K ⟨d,op,g⟩ s (some c)=jQ (fun v _=>K ⟨aY s.env d v,s.o,s.nx+1⟩) (j8 c (gf P s s.nx op)):=by
  have h2:fD op=none:=by
   cases hc:fD op with
   |none=>rfl
   |some x=>
    exfalso
    unfold fD at hc
    split at hc
    ·split at hc
     ·rename_i hv;simp[j9,hv]at h
     ·cases hc
    ·cases hc
  simp only[wg,h2,h,if_true]
@[go_sem] theorem Nk (h:j9 op=false) (h2:fD op=none):wg P X K ⟨d,op,g⟩ s (some c)=ik (zI P X K ⟨d,op,g⟩ s) (K ⟨aY s.env d (.bW []),s.o,s.nx+1⟩) c:=by
  simp[wg,h2,h]
@[go_sem] theorem Lk {l:List Operand}:AD P X K ⟨d,op,g⟩ s f l false=K ⟨aY s.env d (.bW []),s.o,s.nx+1⟩:=by
  refine propext ⟨fun h=> ?_,fun h=> .inr ⟨(fun e=>by cases e),fun _=>h⟩⟩
  rcases h with⟨rs,_,h⟩|h
  ·exact h
  ·exact h.2 rfl
@[go_sem] theorem Nl {l:List Operand} (hl:args.toList=l):AD P X K ⟨d, .call ⟨.value f,args,ts⟩,g⟩ s f l true=zI P X K ⟨d, .call ⟨.value f,args,ts⟩,g⟩ s:=by
  subst hl
  refine propext ⟨fun h=> ?_,fun h=> .inr ⟨fun _=>h,(fun e=>by cases e)⟩⟩
  rcases h with⟨rs,h1,h⟩|h
  ·have h1:=h1 rfl
   unfold yg at h1
   unfold zI qz mC
   simp only
   split at h1
   ·rename_i fv gg first cap hf
    simp only[hf]
    split at h1
    ·rename_i ds eW
     simp only[eW]
     exact .inl ⟨.ret rs,h1.1, .inr (.inl ⟨h1.2,h⟩)⟩
    ·exact h1.elim
   ·exact h1.elim
  ·exact h.1 rfl
variable {KV:KD}{XV:XD}
@[go_sem] theorem OX {fr:Nat}:Ha P KV XV fr ⟨d, .call ⟨.value f,args,ts⟩,g⟩ s=yi P KV XV s.o s.nx fr (iX s (.call ⟨.value f,args,ts⟩)) (s.ev f) (args.toList.map s.ev):=propext Iff.rfl
@[go_sem] theorem TO {fr:Nat} (h2:fD op=none):Ha P KV XV fr ⟨d,op,g⟩ s=sx KV (iX s op) (gf P s fr op):=by simp[Ha,h2]
variable {KS:S->Prop}
@[go_sem ↓] theorem HN:oN KS Q .normal s=KS s:=propext Iff.rfl
@[go_sem ↓] theorem Ll {id:Nat}:oN KS Q (.exit id) s=Q (.exit id) s:=propext Iff.rfl
@[go_sem ↓] theorem Nn:oN KS Q .ret s=Q .ret s:=propext Iff.rfl
@[go_sem ↓] theorem Np {v:V}:oN KS Q (.bK v) s=Q (.bK v) s:=propext Iff.rfl
@[go_sem ↓] theorem Hb {id:Nat}:fk id Q .normal s=Q .normal s:=propext Iff.rfl
@[go_sem ↓] theorem JB {id:Nat}:fk id Q (.exit id) s=Q .normal s:=by simp[fk]
@[go_sem ↓] theorem HO {id j:Nat} (h:j≠id):fk id Q (.exit j) s=Q (.exit j) s:=by simp[fk,h]
@[go_sem ↓] theorem Lm {id:Nat}:fk id Q .ret s=Q .ret s:=propext Iff.rfl
@[go_sem ↓] theorem Ln {id:Nat} {v:V}:fk id Q (.bK v) s=Q (.bK v) s:=propext Iff.rfl
def HP(out:R)(x:Option (List D)):Prop:=match x with|some ds=>out= .ret ds|none=>False
@[go_sem] theorem Nq {out:R} {ds:List D}:HP out (some ds)=(out= .ret ds):=propext Iff.rfl
def Lo(out:R)(x:Option D):Prop:=match x with|some d=>out= .bK d|none=>False
@[go_sem] theorem Nr {out:R} {d:D}:Lo out (some d)=(out= .bK d):=propext Iff.rfl
def HQ(out:R)(o:Nat->ae)(x:Option (List V)):Prop:=match x with|some vs=>HP out (bZ o vs)|none=>False
@[go_sem] theorem Ns {out:R} {o:Nat->ae} {vs:List V}:HQ out o (some vs)=HP out (bZ o vs):=propext Iff.rfl
variable {rs:List ResultVar}{out:R}
@[go_sem ↓] theorem Nt:Ab P rs out .ret s=HQ out s.o (lj P s rs):=propext Iff.rfl
@[go_sem ↓] theorem HS:Ab P rs out .normal s=HQ out s.o (lj P s rs):=propext Iff.rfl
@[go_sem ↓] theorem Nu {v:V}:Ab P rs out (.bK v) s=Lo out (dG s.o v):=propext Iff.rfl
def yn(K:V->(Nat->ae)->Nat->Prop)(o:Nat->ae)(nx:Nat)(x:Fix (Option (List V)) (K,o,nx)):Prop:=match x with
 |some [v]=>K v o nx
 |some vs=>K (.bW vs) o nx
 |none=>False
@[go_sem] theorem OY {K:V->(Nat->ae)->Nat->Prop} {o:Nat->ae} {nx:Nat} {v:V}:yn K o nx (some [v])=K v o nx:=propext Iff.rfl
@[go_sem] theorem OZ {K:V->(Nat->ae)->Nat->Prop} {o:Nat->ae} {nx:Nat}:yn K o nx (some [])=K (.bW []) o nx:=propext Iff.rfl
@[go_sem] theorem O0 {K:V->(Nat->ae)->Nat->Prop} {o:Nat->ae} {nx:Nat} {v u:V} {l:List V}:yn K o nx (some (v::u::l))=K (.bW (v::u::l)) o nx:=propext Iff.rfl
theorem BI{K X:V->(Nat->ae)->Nat->Prop}:lu P rs K X .ret s=yn K s.o s.nx (lj P s rs):=by
 unfold lu yn
 cases lj P s rs with
 |none=>rfl
 |some l=>match l with
  |[]=>rfl
  |[_]=>rfl
  |_::_::_=>rfl
@[go_sem ↓] theorem O1 {K X:V->(Nat->ae)->Nat->Prop}:Fw P rs K X .ret s=yn K s.o s.nx (lj P s rs):=BI
@[go_sem ↓] theorem JC {K X:V->(Nat->ae)->Nat->Prop}:Fw P rs K X .normal s=yn K s.o s.nx (lj P s rs):=(BI (X:=X):lu P rs K X .ret s=_)
@[go_sem ↓] theorem O2 {K X:V->(Nat->ae)->Nat->Prop} {v:V}:Fw P rs K X (.bK v) s=X v s.o s.nx:=propext Iff.rfl
variable {KE:S->Fp->Prop}{KP:V->List Nat->Fp->Prop}{pr:List (List Nat)}{fr:Nat}{fp:Fp}
@[go_sem] theorem O3:o6 P KE KP pr [] fr s fp=KE s fp:=propext Iff.rfl
@[go_sem] theorem Nv {d:Option Nat} {op:Op} {l:List cf}:o6 P KE KP pr (⟨d,op,none⟩::l) fr s fp=
 Ha P (fun v Δ rd=>o6 P KE KP pr l (fr+1) ⟨aY s.env d v,put s.o Δ,s.nx⟩ (fp++[(rd,Δ.map (·.1))]))
  (fun v ws rd=>Dj P (KP v) pr l (fr+1) (fp++[(rd,[])]) [fp.length] (ws++fp.flatMap (·.2)) ⟨aY s.env d .ab,s.o,s.nx⟩) fr ⟨d,op,none⟩ s:=propext Iff.rfl
@[go_sem] theorem Nw {d:Option Nat} {op:Op} {g:Nat} {w:Bool} {l:List cf}:o6 P KE KP pr (⟨d,op,some (g,w)⟩::l) fr s fp=
 jo w (Ha P (fun v Δ rd=>o6 P KE KP pr l (fr+1) ⟨aY s.env d v,put s.o Δ,s.nx⟩ (fp++[(rd,Δ.map (·.1))]))
  (fun v ws rd=>Dj P (KP v) pr l (fr+1) (fp++[(rd,[])]) [fp.length] (ws++fp.flatMap (·.2)) ⟨aY s.env d .ab,s.o,s.nx⟩) fr ⟨d,op,some (g,w)⟩ s)
   (o6 P KE KP pr l (fr+1) ⟨aY s.env d (.bW []),s.o,s.nx⟩ (fp++[([],[])])) (s.env g):=propext Iff.rfl
end
attribute [go_sem] OU fD j9 gf one lz aY S.ev yg
theorem az{ι:Type}{b:Nat}{st:ι->S}{cY:ι->Prop}{nS:ι->Nat}{i:ι}{s:S}(j:ι)(h1:cY j)(h2:nS j<nS i)(h3:bY b s (st j)):yj b st cY nS i s:=⟨j,h1,h2,h3⟩
attribute [irreducible] ka qX zI wg AD qz mC BG sv yh jQ Di ik jo Fu sw pV pW yi sx Ha o6 Dj AE uK Fw yn HJ uM jR HP Lo HQ sy yj
end Go.Proofs.YtealblliddhgiaaGreat
