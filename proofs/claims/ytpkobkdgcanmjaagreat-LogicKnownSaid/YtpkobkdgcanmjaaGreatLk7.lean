/-
  A PART OF THE PROOF. Conditions: none.
-/
import Derived.OrdersIn
import Derived.Test.YtpkobkdgcanmjaaGreatLk6
set_option linter.unusedSimpArgs false
set_option linter.unusedVariables false
namespace Go.Proofs.YtpkobkdgcanmjaaGreat
def mS(P:Program)(g:FuncId)(ds:List D)(o o1 oa:Nat->ab)(K:V->(Nat->ab)->Prop)(X:V->(Nat->ab)->Prop):Prop:=
 ∃out,dN P g ds out/\((match out with| .ret rs=>K (fM rs) o1| .aJ x=>X (.d x) o1)\/(out.flat=true/\match out with| .ret rs=>K (fM rs) o| .aJ x=>X (.d x) o)\/(out.fV=true/\match out with| .ret rs=>K (fM rs) oa| .aJ x=>X (.d x) oa))
def mT(P:Program)(g:FuncId)(args:List V)(o:Nat->ab)(nx:Nat)(K:V->(Nat->ab)->Nat->Prop)(X:V->(Nat->ab)->Nat->Prop):Prop:=iX P g args o nx K X
theorem iX.mono {P:Program}{g:FuncId}{args:List V}{o:Nat->ab}{nx:Nat}{K X K' X':V->(Nat->ab)->Nat->Prop}(hK:∀v o n,K v o n->K' v o n)(hX:∀v o n,X v o n->X' v o n)(h:iX P g args o nx K X):iX P g args o nx K' X':=
 h.imp (jE.mono hK hX) (jE.mono hK hX)
@[congr] theorem wX {P:Program} {g g':FuncId} {ds AZ:List D} {o o1 oa:Nat->ab} {K X} (h:g=g') (h':ds=AZ):mS P g ds o o1 oa K X=mS P g' AZ o o1 oa K X:=by subst h;subst h';rfl
@[congr] theorem wY {P:Program} {g g':FuncId} {aP A6:List V} {o:Nat->ab} {nx:Nat} {K X} (h:g=g') (h':aP=A6):mT P g aP o nx K X=mT P g' A6 o nx K X:=by subst h;subst h';rfl
def wZ(P:Program)(g:FuncId)(args:List V)(o:Nat->ab)(nx:Nat)(K X:V->(Nat->ab)->Nat->Prop):Prop:=
 (∃ds,aR o args=some ds/\mS P g ds o (put o (bH o (V.aA args))) (put o (ki o (V.aA args))) (fun v o'=>K v o' (nx+1)) (fun v o'=>X v o' (nx+1)))\/jE P g args o nx K X
def x5(P:Program)(s:S)(o:aV)(X:V->S->Prop)(K:S->Prop):Prop:=
 match o.op with
 | .call c=>match c.callee with
   | .value f=>match s.ev f with
     | .func (.func g) first cap=>match aR s.o (first++c.args.toList.map s.ev++cap)with
       |some ds=>mS P g ds s.o (put s.o (bH s.o (V.aA (first++c.args.toList.map s.ev++cap)))) (put s.o (ki s.o (V.aA (first++c.args.toList.map s.ev++cap)))) (fun v o'=>K ⟨ay s.env o.dst v,o',s.nx+1⟩) (fun v o'=>X v ⟨s.env,o',s.nx+1⟩)\/
        mT P g (first++c.args.toList.map s.ev++cap) s.o s.nx (fun v o' nx'=>K ⟨ay s.env o.dst v,o',nx'⟩) (fun v o' nx'=>X v ⟨s.env,o',nx'⟩)
       |none=>mT P g (first++c.args.toList.map s.ev++cap) s.o s.nx (fun v o' nx'=>K ⟨ay s.env o.dst v,o',nx'⟩) (fun v o' nx'=>X v ⟨s.env,o',nx'⟩)
     | .gW id=>ek P id (c.args.toList.map s.ev) s.o s.nx (fun v o' nx'=>K ⟨ay s.env o.dst v,o',nx'⟩) (fun v o' nx'=>X v ⟨s.env,o',nx'⟩)
     |_=>False
   | .invoke r m=>match lq P m (s.ev r)with
     |some (g,y)=>wZ P g (y::c.args.toList.map s.ev) s.o s.nx (fun v o' nx'=>K ⟨ay s.env o.dst v,o',nx'⟩) (fun v o' nx'=>X v ⟨s.env,o',nx'⟩)
     |none=>False
   |_=>match dC P s s.nx o.op with
    |some (v,Δ,_)=>K ⟨ay s.env o.dst v,put s.o Δ,s.nx+1⟩
    |none=>False
 | .panic x=>match s.ev x with
   | .d (.iface t y)=>X (.d (.iface t y)) s
   | .iface t y=>X (.iface t y) s
   |_=>False
 | .next x str=>match iF s.o (s.ev x)with
   |some (id,l)=>str=false/\qM id l fun v Δ _=>K ⟨ay s.env o.dst v,put s.o Δ,s.nx+1⟩
   |none=>match dC P s s.nx o.op with
    |some (v,Δ,_)=>K ⟨ay s.env o.dst v,put s.o Δ,s.nx+1⟩
    |none=>False
 |op=>match dC P s s.nx op with
  |some (v,Δ,_)=>K ⟨ay s.env o.dst v,put s.o Δ,s.nx+1⟩
  |none=>False
def jJ(P:Program)(X:V->S->Prop)(K:S->Prop):List aV->S->Prop
 |[],s=>K s
 |o::l,s=>match o.gd with
  |none=>x5 P s o X (jJ P X K l)
  |some (d,want)=>match s.env d with
   | .d (.bool b)=>if b=want then x5 P s o X (jJ P X K l)else jJ P X K l ⟨ay s.env o.dst (.a8 []),s.o,s.nx+1⟩
   | .a8 []=>jJ P X K l ⟨ay s.env o.dst (.a8 []),s.o,s.nx+1⟩
   |_=>False
def tN(b:Nat)(body:(eo->S->Prop)->S->Prop)(Q:eo->S->Prop)(s:S):Prop:=
 ∃ (J:Nat->S->Prop),(∃m s1,pP b s s1/\J m s1)/\∀m s0,J m s0->body (fun e s=>match e with| .normal=>∃m' s1,m'<m/\pP b s s1/\J m' s1|e=>Q e s) s0
@[congr] theorem w6 {b:Nat} {body Q} {s s':S} (h:s=s'):tN b body Q s=tN b body Q s':=by subst h;rfl
def jl(t:Bool)(A B:Prop):Prop:=(t=true->A)/\(t=false->B)
@[congr] theorem w7 {t t':Bool} {A B:Prop} (h:t=t'):jl t A B=jl t' A B:=by subst h;rfl
@[simp] theorem lG (A B:Prop):jl true A B=A:=by simp[jl]
@[simp] theorem jZ (A B:Prop):jl false A B=B:=by simp[jl]
section
variable {P:Program}{n b:Nat}
theorem q8{s:S}{o:aV}{o':Oper}{X X':V->S->Prop}{K K':S->Prop}(bL:o'.op=o.op)(ba:o'.dst=o.dst)(hd:dk n o'.dst)(hK:∀s,K s->K' s)(hX:∀v s,X v s->X' v s)(h:x5 P s o X K):GR P n s o' X' K':=by
 refine⟨hd, ?_⟩
 rw[ba,bL]
 unfold x5 at h
 have hs:∀ {op:Op},(match dC P s s.nx op with|some (v,Δ,_)=>K ⟨ay s.env o.dst v,put s.o Δ,s.nx+1⟩|none=>False)->wC P s s.nx op fun v Δ _=>K' ⟨ay s.env o.dst v,put s.o Δ,s.nx+1⟩:=by
  intro op h
  split at h
  ·rename_i v Δ rd he;exact pa he (hK _ h)
  ·exact h.elim
 split at h
 ·rename_i c hc
  split at h
  ·rename_i f bZ
   simp only[hc,bZ]
   split at h
   ·rename_i g first cap hf
    unfold oQ
    simp only[hf]
    unfold lp
    split at h
    ·rename_i ds dc
     rcases h with⟨out,hP,h|⟨im,h⟩|⟨im,h⟩⟩|h
     ·refine .inl ⟨ds,out,dc,hP, ?_⟩
      cases out<;>first|exact hK _ h|exact hX _ _ h
     ·refine .inr (.inl ⟨ds,out,dc,hP,im, ?_⟩)
      cases out<;>first|exact hK _ h|exact hX _ _ h
     ·refine .inr (.inr (.inl ⟨ds,out,dc,hP,im, ?_⟩))
      cases out<;>first|exact hK _ h|exact hX _ _ h
     ·exact .inr (.inr (.inr (iX.mono (fun v o n h=>hK _ h) (fun v o n h=>hX _ _ h) h)))
    ·exact .inr (.inr (.inr (iX.mono (fun v o n h=>hK _ h) (fun v o n h=>hX _ _ h) h)))
   ·rename_i id hf
    unfold oQ
    simp only[hf]
    exact ek.mono (fun v o n h=>hK _ h) (fun v o n h=>hX _ _ h) h
   ·exact h.elim
  ·rename_i r m bZ
   simp only[hc,bZ]
   split at h
   ·rename_i g y hr
    simp only[hr]
    unfold lp
    rcases h with⟨ds,dc,out,hP,h|⟨im,h⟩|⟨im,h⟩⟩|h
    ·refine .inl ⟨ds,out,dc,hP, ?_⟩
     cases out<;>first|exact hK _ h|exact hX _ _ h
    ·refine .inr (.inl ⟨ds,out,dc,hP,im, ?_⟩)
     cases out<;>first|exact hK _ h|exact hX _ _ h
    ·refine .inr (.inr (.inl ⟨ds,out,dc,hP,im, ?_⟩))
     cases out<;>first|exact hK _ h|exact hX _ _ h
    ·exact .inr (.inr (.inr (.inl (jE.mono (fun v o n h=>hK _ h) (fun v o n h=>hX _ _ h) h))))
   ·exact h.elim
  ·rename_i bZ hinv
   rw[hc]at h|-
   obtain⟨vq,args,ts⟩:=c
   cases vq with
   |value f=>exact absurd rfl (bZ f)
   |invoke r m=>exact absurd rfl (hinv r m)
   |_=>exact hs h
 ·rename_i x hx
  simp only[hx]
  split at h
  ·rename_i hv;simp only[hv];exact hX _ _ h
  ·rename_i hv;simp only[hv];exact hX _ _ h
  ·exact h.elim
 ·rename_i x str hx
  rw[hx]at h|-
  split at h
  ·rename_i id l hl
   exact .inr ⟨h.1,id,l,hl,fun e=>hK _ (h.2.1 e),fun i k x e=>hK _ (h.2.2 i k x e)⟩
  ·exact hs h
 ·rename_i hc hp oi
  have h2:=hs h
  cases hh:o.op<;>first
   |exact absurd hh (hc _)
   |exact absurd hh (hp _)
   |exact absurd hh (oi _ _)
   |(rw[hh]at h2;exact h2)
theorem ea{ops:Array Oper}{X X':V->S->Prop}{K K':S->Prop}(hK:∀s,K s->K' s)(hX:∀v s,X v s->X' v s):∀ (l:List Oper) (l':List aV) (s:S),eU n ops l=some l'->jJ P X K l' s->ny P n ops X' K' l s
 |[],l',s,h,hr=>by simp[eU]at h;subst h;exact hK _ hr
 |o::l,l',s,h,hr=>by
  simp only[eU]at h
  split at h
  ·rename_i x xs hx wF
   injection h with h;subst h
   unfold sQ at hx
   split at hx
   ·rename_i hd
    have ba:dk n o.dst:=by
     unfold pQ at hd;unfold dk
     split at hd<;>simp_all
    simp only[ny,nw]
    cases hg:o.guard with
    |none=>
     simp only[hg]at hx
     injection hx with hx;subst hx
     exact q8 rfl rfl ba (fun s hs=>ea hK hX l xs s wF hs) hX hr
    |some p=>
     obtain⟨j,want⟩:=p
     simp only[hg]at hx
     cases w8:jN ops j with
     |none=>simp[w8]at hx
     |some d=>
      simp only[w8]at hx
      injection hx with hx;subst hx
      simp only
      simp only[jJ]at hr
      split at hr
      ·rename_i t ht
       simp only[w8,ht]
       split at hr
       ·rename_i e
        exact⟨fun _=>q8 rfl rfl ba (fun s hs=>ea hK hX l xs s wF hs) hX hr,fun h=>absurd e h⟩
       ·rename_i e
        exact⟨fun h=>absurd h e,fun _=>⟨ba,ea hK hX l xs _ wF hr⟩⟩
      ·rename_i ht
       simp only[w8,ht]
       exact⟨ba,ea hK hX l xs _ wF hr⟩
      ·exact hr.elim
   ·cases hx
  ·cases h
end
end Go.Proofs.YtpkobkdgcanmjaaGreat
namespace Go.Proofs.YtpkobkdgcanmjaaGreat
mutual
def V.refs:V->List Nat
 | .ptr id _=>[id]| .osl id _=>[id]| .pe id _ _ _ _=>[id]| .mb id _ _=>[id]| .mp id=>[id]| .gW id=>[id]
 | .agg cs=>V.bq cs
 | .a8 cs=>V.bq cs
 | .func _ a b=>V.bq a++V.bq b
 | .iface _ x=>x.refs
 |_=>[]
def V.bq:List V->List Nat
 |[]=>[]
 |v::vs=>v.refs++V.bq vs
end
mutual
theorem et:∀ (v:V),∀id∈v.ids,id∈v.refs
 | .osl id _,j,h=>by simpa[V.ids,V.refs]using h
 | .agg cs,j,h=>by simp only[V.ids]at h;simp only[V.refs];exact eu cs j h
 | .iface _ x,j,h=>by simp only[V.ids]at h;simp only[V.refs];exact et x j h
 | .mp _,j,h=>by simpa[V.ids,V.refs]using h
 | .d _,_,h| .cu,_,h| .a8 _,_,h| .ptr _ _,_,h| .pe _ _ _ _ _,_,h| .pp _ _,_,h| .func _ _ _,_,h| .bO,_,h| .ir _,_,h| .mb _ _ _,_,h| .cJ,_,h| .gW _,_,h=>by simp[V.ids]at h
theorem eu:∀ (vs:List V),∀id∈V.aA vs,id∈V.bq vs
 |[],j,h=>by simp[V.aA]at h
 |v::vs,j,h=>by
  simp only[V.aA,V.bq,List.mem_append]at h|-
  exact h.imp (et v j) (eu vs j)
end
mutual
theorem bB{o o':Nat->ab}:∀ (v:V),(∀id∈v.refs,o' id=o id)->cD o' v=cD o v
 | .osl id ep,h=>by simp only[cD,h id (by simp[V.refs])]
 | .mp id,h=>by simp only[cD,h id (by simp[V.refs])]
 | .agg cs,h=>by simp only[cD,dD cs (by simpa[V.refs]using h)]
 | .iface t x,h=>by simp only[cD,bB x (by simpa[V.refs]using h)]
 | .d _,_| .cu,_| .a8 _,_| .ptr _ _,_| .pe _ _ _ _ _,_| .pp _ _,_| .func _ _ _,_| .bO,_| .ir _,_| .mb _ _ _,_| .cJ,_| .gW _,_=>by simp only[cD]
theorem dD{o o':Nat->ab}:∀ (vs:List V),(∀id∈V.bq vs,o' id=o id)->aR o' vs=aR o vs
 |[],_=>rfl
 |v::vs,h=>by
  simp only[aR,bB v (fun id ai=>h id (by simp[V.bq,ai])),dD vs (fun id ai=>h id (by simp[V.bq,ai]))]
end
theorem c0{o o':Nat->ab}{ids:List Nat}(h:∀id∈ids,o' id=o id):bH o' ids=bH o ids:=by
 rw[fm,fm]
 exact List.map_congr_left fun id ai=>by rw[h id ai]
def eb(s:S)(op:Op):List Nat:=
 match op with
 | .load _ x=>(s.ev x).refs
 | .nilCheck x=>(s.ev x).refs
 | .fieldAddr _ x _=>(s.ev x).refs
 | .indexAddr _ x _=>(s.ev x).refs
 | .store _ x v=>(s.ev x).refs++(s.ev v).refs
 | .buildSlice _ _ parts=>V.bq (parts.toList.map fun p=>s.ev p.2)
 | .binOp _ _ x y _=>(s.ev x).refs++(s.ev y).refs
 | .slice _ x _ _ _=>(s.ev x).refs
 | .lookup _ m k _=>(s.ev m).refs++(s.ev k).refs
 | .mapUpdate _ m k v=>(s.ev m).refs++((s.ev k).refs++(s.ev v).refs)
 | .insert _ m k v=>(s.ev m).refs++((s.ev k).refs++(s.ev v).refs)
 | .range _ x=>(s.ev x).refs
 | .next x _=>(s.ev x).refs
 | .entry x=>(s.ev x).refs
 | .call c=>match c.callee with
   | .builtin _=>V.bq (c.args.toList.map s.ev)
   | .value f=>match s.ev f with
     | .func _ first cap=>V.bq (first++c.args.toList.map s.ev++cap)
     |_=>[]
   |_=>[]
 |_=>[]
section
variable {P:Program}{s s':S}{fr:Nat}
theorem j5{o o':Nat->ab}(v:V)(h:∀id∈v.refs,o' id=o id):jg o' v=jg o v:=by
 cases v with
 |osl id ep=>simp only[jg,h id (by simp[V.refs])]
 |d x=>cases x<;>rfl
 |_=>rfl
theorem j6{o o':Nat->ab}(v:V)(q:Nat)(h:∀id∈v.refs,o' id=o id):gU o' v q=gU o v q:=by
 cases v<;>simp only[gU]<;>rw[h _ (by simp[V.refs])]
theorem ql{o o':Nat->ab}(v:V)(h:∀id∈v.refs,o' id=o id):ot o' v=ot o v:=by
 have h1:cp o' v=cp o v:=by unfold cp;rw[bB v h]
 cases v<;>first|rfl|simp only[ot,h1]
theorem nL{o o':Nat->ab}(v:V)(h:∀id∈v.refs,o' id=o id):jw o' v=jw o v:=by
 cases v with
 |mp id=>simp only[jw,h id (by simp[V.refs])]
 |d x=>cases x<;>rfl
 |_=>rfl
theorem nM{o o':Nat->ab}(v:V)(h:∀id∈v.refs,o' id=o id):jx o' v=jx o v:=by
 cases v with
 |ptr id off=>simp only[jx,h id (by simp[V.refs])]
 |d x=>cases x<;>rfl
 |_=>rfl
theorem gf{o o':Nat->ab}(v:V)(h:∀id∈v.refs,o' id=o id):kX o' v=kX o v:=by
 cases v with
 |mp id=>simp only[kX,h id (by simp[V.refs])]
 |d x=>cases x<;>rfl
 |_=>rfl
theorem pb{o o':Nat->ab}(v:V)(h:∀id∈v.refs,o' id=o id):mw o' v=mw o v:=by
 cases v with
 |mp id=>simp only[mw,h id (by simp[V.refs])]
 |d x=>cases x<;>rfl
 |_=>rfl
theorem pc{o o':Nat->ab}(v:V)(str:Bool)(h:∀id∈v.refs,o' id=o id):iE o' v str=iE o v str:=by
 cases v with
 |ptr id off=>cases off<;>simp only[iE,h id (by simp[V.refs])]
 |_=>rfl
theorem nN{o o':Nat->ab}(v:V)(h:∀id∈v.refs,o' id=o id):g9 o' v=g9 o v:=by
 cases v with
 |ptr id off=>cases off<;>simp only[g9,h id (by simp[V.refs])]
 |_=>rfl
theorem nO{o o':Nat->ab}{fr:Nat}{t:TypeId}{P:Program}(v:V)(h:∀id∈v.refs,o' id=o id):g8 P o' fr t v=g8 P o fr t v:=by
 unfold g8
 cases v with
 |mp id=>simp only[h id (by simp[V.refs])]
 |d x=>cases x<;>rfl
 |_=>rfl
theorem nP{o o':Nat->ab}(v:V)(h:∀id∈v.refs,o' id=o id):gY o' v=gY o v:=by
 cases v with
 |ptr id off=>simp only[gY,h id (by simp[V.refs])]
 |_=>rfl
theorem nQ{o o':Nat->ab}(v:V)(h:∀id∈v.refs,o' id=o id):gZ o' v=gZ o v:=by
 cases v with
 |mb id off n=>simp only[gZ,h id (by simp[V.refs])]
 |_=>rfl
theorem qm(op:Op)(hv:∀x∈op.operands,s'.ev x=s.ev x)(ho:∀id∈eb s op,s'.o id=s.o id):dC P s' fr op=dC P s fr op:=by
 cases op<;>simp only[dC]
 case move x=>rw[hv x (by simp[Op.operands])]
 case assign x=>rw[hv x (by simp[Op.operands])]
 case pick c a b=>rw[hv c (by simp[Op.operands]),hv a (by simp[Op.operands]),hv b (by simp[Op.operands])]
 case box t x=>rw[hv x (by simp[Op.operands])]
 case build t parts=>
  have:(parts.toList.map fun p=>(p.1,s'.ev p.2))=parts.toList.map fun p=>(p.1,s.ev p.2):=
   List.map_congr_left fun p hp=>by rw[hv p.2 (by simp only[Op.operands];simp;exact⟨p.1,by simpa using hp⟩)]
  rw[this]
 case buildSlice t len parts=>
  have:(parts.toList.map fun p=>(p.1,s'.ev p.2))=parts.toList.map fun p=>(p.1,s.ev p.2):=
   List.map_congr_left fun p hp=>by rw[hv p.2 (by simp only[Op.operands];simp;exact⟨p.1,by simpa using hp⟩)]
  rw[this]
  have e:(parts.toList.map fun p=>(p.1,s.ev p.2)).map (·.2)=parts.toList.map fun p=>s.ev p.2:=by simp[Function.comp_def]
  have h1:aR s'.o ((parts.toList.map fun p=>(p.1,s.ev p.2)).map (·.2))=aR s.o ((parts.toList.map fun p=>(p.1,s.ev p.2)).map (·.2)):=dD _ (by rw[e];exact ho)
  have h2:bH s'.o (V.aA ((parts.toList.map fun p=>(p.1,s.ev p.2)).map (·.2)))=bH s.o (V.aA ((parts.toList.map fun p=>(p.1,s.ev p.2)).map (·.2))):=
   c0 fun id ai=>ho id (by rw[e]at ai;exact eu _ id ai)
  simp only[cZ,h1,h2]
 case load t x=>
  rw[hv x (by simp[Op.operands])]
  cases hx:s.ev x<;>simp only[gb]<;>rw[ho _ (by simp[eb,hx,V.refs])]
 case store t x y=>
  rw[hv x (by simp[Op.operands]),hv y (by simp[Op.operands])]
  have h1:cD s'.o (s.ev y)=cD s.o (s.ev y):=bB _ fun id ai=>ho id (by simp[eb,ai])
  have h2:bH s'.o (s.ev y).ids=bH s.o (s.ev y).ids:=c0 fun id ai=>ho id (by simp[eb,et _ _ ai])
  cases hx:s.ev x<;>simp only[jG]<;>rw[ho _ (by simp[eb,hx,V.refs])]
  simp only[h1,h2]
 case nilCheck x=>
  rw[hv x (by simp[Op.operands])]
  cases hx:s.ev x with
  |ptr id off=>simp only[dZ];rw[ho _ (by simp[eb,hx,V.refs])]
  |func fn a b=>cases fn<;>rfl
  |_=>rfl
 case binOp op t x y yt=>
  rw[hv x (by simp[Op.operands]),hv y (by simp[Op.operands])]
  have h1:ot s'.o (s.ev x)=ot s.o (s.ev x):=ql _ fun id ai=>ho id (by simp[eb,ai])
  have h2:∀a b,xO P s'.o a b (s.ev x) (s.ev y)=xO P s.o a b (s.ev x) (s.ev y):=fun a b=>by
   have h3:∀id∈(s.ev x).refs,s'.o id=s.o id:=fun id ai=>ho id (by simp[eb,ai])
   have h4:=nL (s.ev x) h3
   have h5:=nM (s.ev x) h3
   unfold xO
   rw[h1,h4,h5]
  unfold bI jy
  simp only[h2]
 case slice t x lo hi mx=>
  rw[hv x (by simp[Op.operands])]
  have e1:lo.map s'.ev=lo.map s.ev:=by cases lo<;>simp[hv,Op.operands]
  have e2:hi.map s'.ev=hi.map s.ev:=by cases hi<;>simp[hv,Op.operands]
  have e3:mx.map s'.ev=mx.map s.ev:=by cases mx<;>simp[hv,Op.operands]
  rw[e1,e2,e3]
  have h3:∀id∈(s.ev x).refs,s'.o id=s.o id:=fun id ai=>ho id (by simp[eb,ai])
  have h1:cp s'.o (s.ev x)=cp s.o (s.ev x):=by unfold cp;rw[bB _ h3]
  have h2:bH s'.o (s.ev x).ids=bH s.o (s.ev x).ids:=c0 fun id ai=>h3 id (et _ _ ai)
  unfold jv
  simp only[h1,h2,nP _ h3]
 case field t x f=>rw[hv x (by simp[Op.operands])]
 case typeAssert x xt t ok=>rw[hv x (by simp[Op.operands])]
 case makeMap t r=>cases r<;>rfl
 case lookup t m k ok=>
  rw[hv m (by simp[Op.operands]),hv k (by simp[Op.operands])]
  have h3:∀id∈(s.ev m).refs,s'.o id=s.o id:=fun id ai=>ho id (by simp[eb,ai])
  have h1:cD s'.o (s.ev k)=cD s.o (s.ev k):=bB _ fun id ai=>ho id (by simp[eb,ai])
  unfold iC
  simp only[h1,pb _ h3]
 case mapUpdate t m k v=>
  rw[hv m (by simp[Op.operands]),hv k (by simp[Op.operands]),hv v (by simp[Op.operands])]
  have h3:∀id∈(s.ev m).refs,s'.o id=s.o id:=fun id ai=>ho id (by simp[eb,ai])
  have h1:cD s'.o (s.ev k)=cD s.o (s.ev k):=bB _ fun id ai=>ho id (by simp[eb,ai])
  have h2:cD s'.o (s.ev v)=cD s.o (s.ev v):=bB _ fun id ai=>ho id (by simp[eb,ai])
  have h4:bH s'.o (s.ev v).ids=bH s.o (s.ev v).ids:=c0 fun id ai=>ho id (by simp[eb,et _ _ ai])
  unfold eC
  simp only[h1,h2,h4,gf _ h3]
 case insert t m k v=>
  rw[hv m (by simp[Op.operands]),hv k (by simp[Op.operands]),hv v (by simp[Op.operands])]
  have h3:∀id∈(s.ev m).refs,s'.o id=s.o id:=fun id ai=>ho id (by simp[eb,ai])
  have h1:cD s'.o (s.ev k)=cD s.o (s.ev k):=bB _ fun id ai=>ho id (by simp[eb,ai])
  have h2:cD s'.o (s.ev v)=cD s.o (s.ev v):=bB _ fun id ai=>ho id (by simp[eb,ai])
  have h4:bH s'.o (s.ev v).ids=bH s.o (s.ev v).ids:=c0 fun id ai=>ho id (by simp[eb,et _ _ ai])
  unfold eC
  simp only[h1,h2,h4,gf _ h3]
 case index t x i=>rw[hv x (by simp[Op.operands]),hv i (by simp[Op.operands])]
 case range t x=>
  rw[hv x (by simp[Op.operands])]
  exact nO _ fun id ai=>ho id (by simp[eb,ai])
 case next x str=>
  rw[hv x (by simp[Op.operands])]
  exact pc _ _ fun id ai=>ho id (by simp[eb,ai])
 case entry x=>
  rw[hv x (by simp[Op.operands])]
  exact nN _ fun id ai=>ho id (by simp[eb,ai])
 case unOp op t x=>rw[hv x (by simp[Op.operands])]
 case convert u t x=>rw[hv x (by simp[Op.operands])]
 case makeInterface t x=>rw[hv x (by simp[Op.operands])]
 case makeFunc fn first cap=>
  have h1:first.toList.map s'.ev=first.toList.map s.ev:=List.map_congr_left fun x hx=>hv x (by simp only[Op.operands];exact Array.mem_append.2 (.inl (Array.mem_toList_iff.1 hx)))
  have h2:cap.toList.map s'.ev=cap.toList.map s.ev:=List.map_congr_left fun x hx=>hv x (by simp only[Op.operands];exact Array.mem_append.2 (.inr (Array.mem_toList_iff.1 hx)))
  rw[h1,h2]
 case makeSlice t l c=>rw[hv l (by simp[Op.operands]),hv c (by simp[Op.operands])]
 case fieldAddr t x f=>
  rw[hv x (by simp[Op.operands])]
  simp only[dB]
  cases gX P t f<;>simp only
  rw[j6 _ _ (by simpa[eb]using ho)]
 case indexAddr t x i=>
  rw[hv x (by simp[Op.operands]),hv i (by simp[Op.operands])]
  have h1:∀q,gU s'.o (s.ev x) q=gU s.o (s.ev x) q:=fun q=>j6 _ _ (by simpa[eb]using ho)
  simp only[dA,h1]
  cases hx:s.ev x with
  |osl id ep=>simp only[ho id (by simp[eb,hx,V.refs])]
  |d y=>cases y<;>rfl
  |_=>rfl
 case extract x i=>rw[hv x (by simp[Op.operands])]
 case call c=>
  obtain⟨vq,args,ts⟩:=c
  cases vq<;>simp only
  rename_i b
  unfold jj
  have hm:∀x∈args.toList,s'.ev x=s.ev x:=fun x hx=>hv x (by simp only[Op.operands,Call.operands];exact Array.mem_append.2 (.inr (Array.mem_toList_iff.1 hx)))
  have hr:∀x∈args.toList,∀id∈(s.ev x).refs,s'.o id=s.o id:=by
   intro x hx id ai
   refine ho id ?_
   simp only[eb]
   generalize args.toList=l at hx
   induction l with
   |nil=>cases hx
   |cons y l ih=>
    simp only[List.map_cons,V.bq,List.mem_append]
    rcases List.mem_cons.1 hx with rfl|hx
    ·exact .inl ai
    ·exact .inr (ih hx)
  split
  ·rename_i x ha
   rw[ha]at hm hr
   rw[hm x (by simp)]
   have h1:∀t,qh P t s'.o (s.ev x)=qh P t s.o (s.ev x):=fun t=>by simp only[qh,j5 _ (hr x (by simp))]
   simp only[h1]
  ·rename_i x y ha
   rw[ha]at hm hr
   rw[hm x (by simp),hm y (by simp)]
   simp only[jh,j5 _ (hr y (by simp))]
   cases hx:s.ev x with
   |osl id ep=>simp only[hr x (by simp) id (by simp[hx,V.refs])]
   |_=>rfl
  ·rename_i x y ha
   rw[ha]at hm
   rw[hm x (by simp),hm y (by simp)]
  ·rename_i x y ha
   rw[ha]at hm
   rw[hm x (by simp),hm y (by simp)]
  ·rename_i x y z h;rw[hm x (by rw[h];simp),hm y (by rw[h];simp),hm z (by rw[h];simp)]
  ·rename_i x y ha
   rw[ha]at hm hr
   rw[hm x (by simp),hm y (by simp)]
   have h1:cp s'.o (s.ev y)=cp s.o (s.ev y):=by unfold cp;rw[bB _ (hr y (by simp))]
   have h2:bH s'.o (s.ev y).ids=bH s.o (s.ev y).ids:=c0 fun id ai=>hr y (by simp) id (et _ _ ai)
   unfold mu
   simp only[h1,h2,nQ _ (hr x (by simp))]
  ·rename_i x y ha
   rw[ha]at hm hr
   rw[hm x (by simp),hm y (by simp)]
   have h1:cD s'.o (s.ev y)=cD s.o (s.ev y):=bB _ (hr y (by simp))
   have h2:=gf _ (hr x (by simp))
   simp only[iG,h1,h2]
  ·rfl
end
end Go.Proofs.YtpkobkdgcanmjaaGreat
namespace Go.Proofs.YtpkobkdgcanmjaaGreat
def ab.refs:ab->List Nat
 | .row cs=>V.bq cs
 | .loop _ _ env _ _ _ _ _=>V.bq env
 |_=>[]
def w9(R:List Nat)(o:Nat->ab):Nat->ab:=fun id=>if R.contains id=true then o id else .no
def tO(P:Program)(g:FuncId)(args:List V)(rd:List Nat)(o:Nat->ab)(out:R)(Δ:List (Nat×ab)):Prop:=
 eO P g/\∀ (o':Nat->ab) (us:Nat->Prop) (M:Nat->Prop) (φ:Place) (w:World) (vals:Array Value),(∀id∈rd,o' id=o id/\us id)->af M φ ⟨o',us⟩ w->V.ak (ad M φ ⟨o',us⟩) φ ⟨o',us⟩ w args vals.toList->
  Calls P g vals w fun e w'=>∃aj,af M aj ⟨put o' Δ,us⟩ w'/\Trans φ ⟨o',us⟩ w aj ⟨put o' Δ,us⟩ w'/\out.is (ad M aj ⟨put o' Δ,us⟩) w' e
def qn(P:Program)(g:FuncId)(args:List V)(rd:List Nat)(o:Nat->ab)(fr:Nat)(v:V)(Δ:List (Nat×ab)):Prop:=
 eO P g/\∀ (o':Nat->ab) (us:Nat->Prop) (M:Nat->Prop) (φ:Place) (w:World) (vals:Array Value),(∀id∈rd,o' id=o id/\us id)-> ¬us fr->af M φ ⟨o',us⟩ w->V.ak (ad M φ ⟨o',us⟩) φ ⟨o',us⟩ w args vals.toList->
  Calls P g vals w fun e w'=>∃aj,af M aj ⟨put o' Δ,fun id=>us id\/id=fr⟩ w'/\Trans φ ⟨o',us⟩ w aj ⟨put o' Δ,fun id=>us id\/id=fr⟩ w'/\∃val,e= .returned val/\V.den (ad M aj ⟨put o' Δ,fun id=>us id\/id=fr⟩) aj ⟨put o' Δ,fun id=>us id\/id=fr⟩ w' v val
mutual
theorem V.jm {B B':Nat->Prop}{φ aj:Place}{H H':Hp}{w:World}(hB:∀b, ¬B b-> ¬B' b):∀ (v:V) (val:Value),(∀id∈v.refs,H'.o id=H.o id/\aj id=φ id/\H'.us id)->V.den B φ H w v val->V.den B' aj H' w v val
 | .d x,val,_,h=>D.au (w:=w) (w':=w) (fun b _ hn=>⟨rfl,hB b hn⟩) x val h
 | .cu,_,_,h=>h
 | .bO,_,_,_=>trivial
 | .cJ,_,_,h=>h
 | .ir es,val,_,h=>⟨D.au (w:=w) (w':=w) (fun b _ hn=>⟨rfl,hB b hn⟩) (.sl es) val h.1,h.2⟩
 | .agg cs,val,hr,h=>by
   obtain⟨a,rfl,h1,h2⟩:=h
   exact⟨a,rfl,V.dE hB cs _ (by simpa[V.refs]using hr) h1,h2⟩
 | .a8 cs,val,hr,h=>by
   obtain⟨a,rfl,h1⟩:=h
   exact⟨a,rfl,V.dE hB cs _ (by simpa[V.refs]using hr) h1⟩
 | .ptr id off,val,hr,h=>by
   obtain⟨a,b,c⟩:=hr id (by simp[V.refs])
   obtain⟨h0,h1,h2⟩:=h
   refine⟨h0,c,fun aM=> ?_⟩
   rw[a]at aM
   obtain⟨x,y,z⟩:=h2 aM
   exact⟨x,b.trans y,z⟩
 | .osl id ep,val,hr,h=>by
   obtain⟨a,b,c⟩:=hr id (by simp[V.refs])
   obtain⟨h0,h1,h2⟩:=h
   refine⟨h0,c,fun e he=> ?_⟩
   rw[a]at he
   obtain⟨x,y⟩:=h2 e he
   exact⟨x,fun heq=>(y heq).trans b.symm⟩
 | .pe id ep i sz off,val,hr,h=>by
   obtain⟨a,b,c⟩:=hr id (by simp[V.refs])
   obtain⟨h0,h1,h2⟩:=h
   refine⟨h0,c,fun e he=> ?_⟩
   rw[a]at he
   obtain⟨x,y⟩:=h2 e he
   refine⟨x,fun heq=> ?_⟩
   obtain⟨p,q,r,z,u⟩:=y heq
   exact⟨p,q,r,b.trans z,u⟩
 | .pp cs off,val,_,h=>by
   obtain⟨a,ev,h1,h2,h3,h5,h4⟩:=h
   exact⟨a,ev,h1,h2,D.ax (w:=w) (w':=w) (fun b _ hn=>⟨rfl,hB b hn⟩) cs ev h3,h5,h4.mono (w:=w) (w':=w) (fun b _ hn=>⟨rfl,hB b hn⟩)⟩
 | .func fn first cap,val,hr,h=>by
   obtain⟨f,c,rfl,h1,h2⟩:=h
   exact⟨f,c,rfl,V.dE hB first _ (fun id ai=>hr id (by simp[V.refs,ai])) h1,V.dE hB cap _ (fun id ai=>hr id (by simp[V.refs,ai])) h2⟩
 | .iface t x,val,hr,h=>by
   obtain⟨u,rfl,h⟩:=h
   exact⟨u,rfl,V.jm hB x u (by simpa[V.refs]using hr) h⟩
 | .mb id off n,val,hr,h=>by
   obtain⟨a,b,c⟩:=hr id (by simp[V.refs])
   obtain⟨h0,h1,h2⟩:=h
   refine⟨h0,c,fun aM=> ?_⟩
   rw[a]at aM
   obtain⟨x,y,z⟩:=h2 aM
   exact⟨x,b.trans y,z⟩
 | .mp id,val,hr,h=>by
   obtain⟨a,b,c⟩:=hr id (by simp[V.refs])
   obtain⟨h0,h1,h2⟩:=h
   refine⟨h0,c,fun aM=> ?_⟩
   rw[a]at aM
   exact(h2 aM).trans b.symm
 | .gW id,val,hr,h=>by
   obtain⟨a,b,c⟩:=hr id (by simp[V.refs])
   obtain⟨h0,h1,h2⟩:=h
   refine⟨h0,c,fun aM=> ?_⟩
   rw[a]at aM
   obtain⟨x,y,z⟩:=h2 aM
   exact⟨x,b.trans y,z⟩
theorem V.dE {B B':Nat->Prop}{φ aj:Place}{H H':Hp}{w:World}(hB:∀b, ¬B b-> ¬B' b):∀ (vs:List V) (vals:List Value),(∀id∈V.bq vs,H'.o id=H.o id/\aj id=φ id/\H'.us id)->V.ak B φ H w vs vals->V.ak B' aj H' w vs vals
 |[],_,_,h=>h
 |v::vs,_,hr,h=>by
  obtain⟨u,us,rfl,h1,h2⟩:=h
  exact⟨u,us,rfl,V.jm hB v u (fun id ai=>hr id (by simp[V.bq,ai])) h1,V.dE hB vs us (fun id ai=>hr id (by simp[V.bq,ai])) h2⟩
end
theorem sq{env:List V}{i id:Nat}(h:id∈(eV env i).refs):id∈V.bq env:=by
 unfold eV at h
 induction env generalizing i with
 |nil=>simp[V.refs]at h
 |cons v env ih=>
  cases i with
  |zero=>simp only[List.getD_cons_zero]at h;simp[V.bq,h]
  |succ i=>simp only[List.getD_cons_succ]at h;simp[V.bq,ih h]
theorem aw.refs {M M':Nat->Prop}{φ aj:Place}{H H':Hp}{w:World}{id:Nat}(hB:∀b, ¬ad M φ H b-> ¬ad M' aj H' b)(ho:H'.o id=H.o id)(bJ:aj id=φ id)
 (hr:∀j∈(H.o id).refs,H'.o j=H.o j/\aj j=φ j/\H'.us j) (h:aw M φ H w id):aw M' aj H' w id:=by
 have hd:∀b,aU w b-> ¬ad M φ H b->w.heap[b]? =w.heap[b]? /\ ¬ad M' aj H' b:=fun b _ hn=>⟨rfl,hB b hn⟩
 unfold aw at*
 rw[ho]
 cases hx:H.o id with
 |no=>trivial
 |row cs=>
  simp only[hx]at h|-
  obtain⟨b,cd,ty,h1,h2,h3,h4⟩:=h
  exact⟨b,cd,ty,bJ.trans h1,h2,V.dE hB cs _ (fun j hj=>hr j (by rw[hx];exact hj)) h3,h4⟩
 |arr ep ty sz es=>
  simp only[hx]at h|-
  obtain⟨h0,xs,h1,evs,h2,h3,h4⟩:=h
  exact⟨h0,xs,by rw[bJ];exact h1,evs,h2,h3,D.ax hd es evs h4⟩
 |kf ep es=>
  simp only[hx]at h|-
  rw[bJ]
  exact D.au hd (.sl es) _ h
 |map kt vt l=>
  simp only[hx]at h|-
  obtain⟨b,es,clock,h1,h2,h4,h3⟩:=h
  exact⟨b,es,clock,bJ.trans h1,h2,h4,aq.mono hd l _ h3⟩
 |dw l=>
  simp only[hx]at h|-
  rw[bJ]
  exact D.au hd (.mp _ _) _ h
 |kQ l last=>
  simp only[hx]at h|-
  obtain⟨b,h1,h2⟩:=h
  exact⟨b,bJ.trans h1,h2.mono hd rfl⟩
 |oe s pos=>
  simp only[hx]at h|-
  obtain⟨b,h1,h2⟩:=h
  exact⟨b,bJ.trans h1,h2⟩
 |loop nf n env ps iu fI st rG=>
  simp only[hx]at h|-
  obtain⟨b,r,h1,h2,h0,h3,h4,h5,h6,h7,h8,h9⟩:=h
  exact⟨b,r,bJ.trans h1,h2,h0,h3,h4,h5,h6,h7,h8,fun i=>V.jm hB _ _ (fun j hj=>hr j (by rw[hx];exact sq hj)) (h9 i)⟩
section
variable {P:Program}
theorem qo{o o':Nat->ab}{Δ:List (Nat×ab)}{id:Nat}(h:o id=o' id):put o Δ id=put o' Δ id:=q9 h
where q9 {o o':Nat->ab}:∀ {Δ:List (Nat×ab)} {id:Nat},o id=o' id->put o Δ id=put o' Δ id
 |[],_,h=>h
 |x::Δ,id,h=>by
  simp only[put,List.foldl_cons]
  refine q9 (Δ:=Δ) (o:=cK o x.1 x.2) (o':=cK o' x.1 x.2) ?_
  simp only[ao]
  split
  ·rfl
  ·exact h
theorem nR{o:Nat->ab}:∀ {Δ:List (Nat×ab)} {id:Nat},(∀x∈Δ,x.1≠id)->put o Δ id=o id
 |[],_,_=>rfl
 |x::Δ,id,h=>by
  have:=nR (o:=cK o x.1 x.2) (Δ:=Δ) (id:=id) (fun y hy=>h y (by simp[hy]))
  simp only[put,List.foldl_cons]at this|-
  rw[this];simp[Ne.symm (h x (by simp))]
theorem tO.ib {g:FuncId}{args:List V}{rd:List Nat}{o:Nat->ab}{nx:Nat}{out:R}{Δ:List (Nat×ab)}(oi:∀id∈rd,id<nx)(b6:∀id∈V.bq args,id∈rd)(kq:∀id∈rd,∀j∈(o id).refs,j∈rd)(x6:∀x∈Δ,x.1∈rd)(G4:∀x∈Δ,∀j∈x.2.refs,j∈rd)
 (h:jE P g args (w9 rd o) nx
  (fun v o1 _=>(∀id∈rd,o1 id=put o Δ id)/\∃vs rs,v=(match vs with|[v]=>v|vs=> .a8 vs)/\aR o1 vs=some rs/\out= .ret rs/\∀id∈V.aA vs,id∉rd)
  (fun v o1 _=>(∀id∈rd,o1 id=put o Δ id)/\∃x,cD o1 v=some x/\out= .aJ x/\∀id∈v.ids,id∉rd)):tO P g args rd o out Δ:=by
 refine⟨h.1,fun o' us M φ w vals ho hH hd=> ?_⟩
 let M1:Nat->Prop:=fun b=>M b\/∃id,id∉rd/\(o' id).live=true/\cF (φ id)=some b
 let HR:Hp:=hp (w9 rd o) nx
 have lH:∀id,id∈rd->w9 rd o id=o' id:=fun id ai=>by simp[w9,ai,(ho id ai).1]
 have j7:∀id,id∉rd->w9 rd o id= .no:=fun id ai=>by simp[w9,ai]
 have hB:∀b,ad M1 φ HR b↔ad M φ ⟨o',us⟩ b:=by
  intro b
  constructor
  ·rintro((h|⟨id,h1,h2,h3⟩)|⟨id,h1,h2⟩)
   ·exact .inl h
   ·exact .inr ⟨id,h2,h3⟩
   ·by_cases ai:id∈rd
    ·exact .inr ⟨id,by show(o' id).live=true;rw[<- lH id ai];exact h1,h2⟩
    ·have:HR.o id= .no:=j7 id ai
     rw[this]at h1;cases h1
  ·rintro(h|⟨id,h1,h2⟩)
   ·exact .inl (.inl h)
   ·by_cases ai:id∈rd
    ·exact .inr ⟨id,by show(w9 rd o id).live=true;rw[lH id ai];exact h1,h2⟩
    ·exact .inl (.inr ⟨id,ai,h1,h2⟩)
 have wH:∀id∈rd,HR.o id=o' id/\φ id=φ id/\HR.us id:=fun id ai=>⟨lH id ai,rfl,oi id ai⟩
 have MD:af M1 φ HR w:=by
  refine⟨fun id=> ?_,fun id hn=> ?_,fun i j b hi hj bi bj=> ?_,fun b hb=> ?_,fun b hb=> ?_⟩
  ·by_cases ai:id∈rd
   ·refine aw.refs (H:=⟨o',us⟩) (M:=M) (φ:=φ) (fun b hn hb=>hn ((hB b).1 hb)) (lH id ai) rfl (fun j hj=>wH j ?_) (hH.ok id)
    have:o' id=o id:=(ho id ai).1
    exact kq id ai j (by rw[<- this];exact hj)
   ·unfold aw
    rw[show HR.o id= .no from j7 id ai];trivial
  ·exact j7 id fun ai=>hn (oi id ai)
  ·have live:∀i,(HR.o i).live=true->i∈rd/\(o' i).live=true:=fun i hi=>by
    by_cases ai:i∈rd
    ·exact⟨ai,by rw[<- lH i ai];exact hi⟩
    ·rw[show HR.o i= .no from j7 i ai]at hi;cases hi
   exact hH.apart i j b (live i hi).2 (live j hj).2 bi bj
  ·obtain⟨id,h1,h2⟩:=hb
   have ai:id∈rd:=by
    by_cases ai:id∈rd
    ·exact ai
    ·rw[show HR.o id= .no from j7 id ai]at h1;cases h1
   rw[show HR.o id=o' id from lH id ai]at h1
   obtain⟨k1,k2⟩:=hH.ours b ⟨id,h1,h2⟩
   refine⟨?_,k2⟩
   rintro(hM|⟨j,j1,j2,j3⟩)
   ·exact k1 hM
   ·exact j1 (hH.apart j id b j2 h1 j3 h2 ▸ ai)
  ·rcases hb with hb|⟨id,h1,h2,h3⟩
   ·exact hH.om b hb
   ·exact(hH.ours b ⟨id,h2,h3⟩).2
 have ME:V.ak (ad M1 φ HR) φ HR w args vals.toList:=V.dE (H:=⟨o',us⟩) (fun b hn hb=>hn ((hB b).1 hb)) _ _ (fun id ai=>wH id (b6 id ai)) hd
 refine(h.2 M1 φ w vals MD ME).mono ?_
 rintro e w' ⟨dM,o1,qp,v,k1,k2,k3⟩
 have main:(∀id∈rd,o1 id=put o Δ id)->∃aj,af M aj ⟨put o' Δ,us⟩ w'/\Trans φ ⟨o',us⟩ w aj ⟨put o' Δ,us⟩ w'/\∀b,ad M aj ⟨put o' Δ,us⟩ b->M1 b\/∃id∈rd,(o1 id).live=true/\cF (dM id)=some b:=by
  intro iP
  have qT:∀id∈rd,put o' Δ id=o1 id:=fun id ai=>(qo (ho id ai).1).trans (iP id ai).symm
  have sM:∀id,id∉rd->put o' Δ id=o' id:=fun id ai=>nR fun x hx e=>ai (e ▸ x6 x hx)
  let sd:Place:=fun id=>if id∈rd then dM id else φ id
  have nS:∀id∈rd,sd id=dM id:=fun id ai=>if_pos ai
  have pf:∀id,id∉rd->sd id=φ id:=fun id ai=>if_neg ai
  let H2:Hp:=⟨put o' Δ,us⟩
  have bR:∀b,bf sd H2 b->(∃id∈rd,(o1 id).live=true/\cF (dM id)=some b)\/∃id,id∉rd/\(o' id).live=true/\cF (φ id)=some b:=by
   rintro b ⟨id,h1,h2⟩
   by_cases ai:id∈rd
   ·exact .inl ⟨id,ai,by rw[<- qT id ai];exact h1,by rw[<- nS id ai];exact h2⟩
   ·exact .inr ⟨id,ai,by rw[<- sM id ai];exact h1,by rw[<- pf id ai];exact h2⟩
  have JS:∀b,ad M sd H2 b->ad M1 dM (hp o1 qp) b:=by
   rintro b (hb|hb)
   ·exact .inl (.inl hb)
   ·rcases bR b hb with⟨id,h1,h2,h3⟩|⟨id,h1,h2,h3⟩
    ·exact .inr ⟨id,h2,h3⟩
    ·exact .inl (.inr ⟨id,h1,h2,h3⟩)
  have A7:bV φ ⟨o',us⟩ sd H2:=by
   refine⟨fun id h=>h,fun id hu hr=> ?_,fun id e' hu he=> ?_⟩
   ·by_cases ai:id∈rd
    ·rw[show H2.o id=o1 id from qT id ai]at hr
     obtain⟨a,b⟩:=k2.rel.row id (oi id ai) hr
     rw[show HR.o id=o' id from lH id ai]at a
     exact⟨a,(nS id ai).trans b⟩
    ·rw[show H2.o id=o' id from sM id ai]at hr
     exact⟨hr,pf id ai⟩
   ·by_cases ai:id∈rd
    ·rw[show H2.o id=o1 id from qT id ai]at he
     obtain⟨e0,a,b,c⟩:=k2.rel.ep id e' (oi id ai) he
     rw[show HR.o id=o' id from lH id ai]at a
     exact⟨e0,a,b,fun heq=>(nS id ai).trans (c heq)⟩
    ·rw[show H2.o id=o' id from sM id ai]at he
     exact⟨e',he,Nat.le_refl _,fun _=>pf id ai⟩
  have og:∀b,aU w b-> ¬ad M φ ⟨o',us⟩ b->w'.heap[b]? =w.heap[b]? /\ ¬ad M sd H2 b:=by
   intro b hc hn
   obtain⟨a,c⟩:=k2.blocks (M:=M1) b hc (fun hb=>hn ((hB b).1 hb))
   exact⟨a,fun hb=>c (JS b hb)⟩
  have nG:∀b,b<w.heap.size-> ¬bf φ HR b->w'.heap[b]? =w.heap[b]? :=fun b hb hl=>k2.aW.block b hb hl
  have ht:Trans φ ⟨o',us⟩ w sd H2 w':=by
   refine⟨⟨k2.aW.os,k2.aW.tape,k2.aW.output,k2.aW.size,fun b hb hl=>nG b hb fun⟨id,h1,h2⟩=>hl ?_⟩,fun b hb=> ?_,A7⟩
   ·by_cases ai:id∈rd
    ·exact⟨id,by show(o' id).live=true;rw[<- lH id ai];exact h1,h2⟩
    ·rw[show HR.o id= .no from j7 id ai]at h1;cases h1
   ·rcases bR b hb with⟨id,h1,h2,h3⟩|⟨id,h1,h2,h3⟩
    ·rcases k2.grow b ⟨id,h2,h3⟩with⟨j,j1,j2⟩|s9
     ·by_cases ai:j∈rd
      ·exact .inl ⟨j,by show(o' j).live=true;rw[<- lH j ai];exact j1,j2⟩
      ·rw[show HR.o j= .no from j7 j ai]at j1;cases j1
     ·exact .inr s9
    ·exact .inl ⟨id,h2,h3⟩
  refine⟨sd,⟨fun id=> ?_,fun id hn=> ?_,fun i j b hi hj bi bj=> ?_,fun b hb=> ?_,fun b hb=>Nat.lt_of_lt_of_le (hH.om b hb) k2.aW.size⟩,ht,fun b hb=> ?_⟩
  ·by_cases ai:id∈rd
   ·refine aw.refs (H:=hp o1 qp) (M:=M1) (φ:=dM) (fun b hn hb=>hn (JS b hb)) (qT id ai) (nS id ai) (fun j hj=> ?_) (k1.ok id)
    have sJ:j∈rd:=by
     have e1:o1 id=put o Δ id:=iP id ai
     have hj:j∈(put o Δ id).refs:=by rw[<- e1];exact hj
     have key:∀ (ra:List (Nat×ab)) (q:Nat->ab),(∀x∈ra,∀j∈x.2.refs,j∈rd)->(∀j∈(q id).refs,j∈rd)->∀j∈(put q ra id).refs,j∈rd:=by
      intro ra
      induction ra with
      |nil=>intro q _ h2;exact h2
      |cons x ra ih=>
       intro q h1 h2
       simp only[put,List.foldl_cons]
       refine ih (cK q x.1 x.2) (fun y hy=>h1 y (by simp[hy])) ?_
       simp only[ao]
       split
       ·exact h1 x (by simp)
       ·exact h2
     exact key Δ o G4 (kq id ai) j hj
    exact⟨qT j sJ,nS j sJ,(ho j sJ).2⟩
   ·exact aw.ov og A7 (sM id ai) (pf id ai) (fun hl b hb=>nG b (hH.ours b ⟨id,hl,hb⟩).2 fun⟨j,j1,j2⟩=>by
     by_cases hj:j∈rd
     ·rw[show HR.o j=o' j from lH j hj]at j1
      exact ai (hH.apart id j b hl j1 hb j2 ▸ hj)
     ·rw[show HR.o j= .no from j7 j hj]at j1;cases j1) (hH.ok id)
  ·have ai:id∉rd:=fun ai=>hn (ho id ai).2
   exact(sM id ai).trans (hH.fresh id hn)
  ·by_cases e1:i∈rd<;>by_cases e2:j∈rd
   ·refine k1.apart i j b ?_ ?_ (by rw[<- nS i e1];exact bi) (by rw[<- nS j e2];exact bj)
    ·show(o1 i).live=true;rw[<- qT i e1];exact hi
    ·show(o1 j).live=true;rw[<- qT j e2];exact hj
   ·exfalso
    refine(k1.ours b ⟨i,by show(o1 i).live=true;rw[<- qT i e1];exact hi,by rw[<- nS i e1];exact bi⟩).1 (.inr ⟨j,e2,by rw[<- sM j e2];exact hj,by rw[<- pf j e2];exact bj⟩)
   ·exfalso
    refine(k1.ours b ⟨j,by show(o1 j).live=true;rw[<- qT j e2];exact hj,by rw[<- nS j e2];exact bj⟩).1 (.inr ⟨i,e1,by rw[<- sM i e1];exact hi,by rw[<- pf i e1];exact bi⟩)
   ·exact hH.apart i j b (by show(o' i).live=true;rw[<- sM i e1];exact hi) (by show(o' j).live=true;rw[<- sM j e2];exact hj) (by rw[<- pf i e1];exact bi) (by rw[<- pf j e2];exact bj)
  ·rcases bR b hb with⟨id,h1,h2,h3⟩|⟨id,h1,h2,h3⟩
   ·obtain⟨a,c⟩:=k1.ours b ⟨id,h2,h3⟩
    exact⟨fun hM=>a (.inl hM),c⟩
   ·obtain⟨a,c⟩:=hH.ours b ⟨id,h2,h3⟩
    exact⟨a,Nat.lt_of_lt_of_le c k2.aW.size⟩
  ·rcases hb with hb|hb
   ·exact .inl (.inl hb)
   ·rcases bR b hb with h|h
    ·exact .inr h
    ·exact .inl (.inr h)
 have res:∀ (vs:List V) (xs:List D) (us':List Value),(∀id∈rd,o1 id=put o Δ id)->aR o1 vs=some xs->(∀id∈V.aA vs,id∉rd)->V.ak (ad M1 dM (hp o1 qp)) dM (hp o1 qp) w' vs us'->
  ∃aj,af M aj ⟨put o' Δ,us⟩ w'/\Trans φ ⟨o',us⟩ w aj ⟨put o' Δ,us⟩ w'/\D.ak (ad M aj ⟨put o' Δ,us⟩) w' xs us':=by
  intro vs xs us' iP h1 G5 h2
  obtain⟨f1,f2,f3,f4,f5⟩:=bN k1 (V.aA vs) (aY vs _ h2)
  have h3:=bD f1 vs xs us' f3 h1 (V.ax f2 _ _ h2)
  obtain⟨aj,m1,m2,m3⟩:=main iP
  refine⟨aj,m1,m2,D.ax (w:=w') (w':=w') (fun b _ hn=>⟨rfl,fun hb=>hn ?_⟩) xs us' h3⟩
  rcases m3 b hb with hb|⟨id,i1,i2,i3⟩
  ·exact .inl hb
  ·exact .inr ⟨id,by rw[f4 id fun hm=>G5 id hm i1];exact i2,i3⟩
 cases e with
 |outgrown=>exact k3.elim
 |panicked ch=>
  obtain⟨val,rfl,g1,iP,x,g2,rfl,g3⟩:=k3
  obtain⟨aj,m1,m2,m3⟩:=res [v] [x] [val] iP (by simp[aR,g2]) (by simpa[V.aA]using g3) ⟨val,[],rfl,g1,rfl⟩
  obtain⟨u,us2,he,h2,_⟩:=m3
  simp at he;obtain⟨rfl,rfl⟩:=he
  exact⟨aj,m1,m2,val,rfl,h2⟩
 |returned val=>
  obtain⟨g1,iP,vs,rs,rfl,g2,rfl,g3⟩:=k3
  match vs,g1,g2,g3 with
  |[],g1,g2,g3=>
   obtain⟨arr,rfl,hv⟩:=g1
   simp only[aR,Option.some.injEq]at g2;subst g2
   obtain⟨aj,m1,m2,m3⟩:=res [] [] arr.toList iP rfl (by simp[V.aA]) hv
   exact⟨aj,m1,m2,arr,rfl,m3⟩
  |[v],g1,g2,g3=>
   obtain⟨aj,m1,m2,m3⟩:=res [v] rs [val] iP g2 g3 ⟨val,[],rfl,g1,rfl⟩
   refine⟨aj,m1,m2, ?_⟩
   cases rs with
   |nil=>cases m3
   |cons x l=>
    obtain⟨u,us2,he,h2,h3⟩:=m3
    simp at he;obtain⟨rfl,rfl⟩:=he
    cases l with
    |nil=>exact h2
    |cons y l=>obtain⟨_,_,h,_⟩:=h3;cases h
  |v::v2::l,g1,g2,g3=>
   obtain⟨arr,rfl,hv⟩:=g1
   obtain⟨aj,m1,m2,m3⟩:=res (v::v2::l) rs arr.toList iP g2 g3 hv
   refine⟨aj,m1,m2, ?_⟩
   have hl:=D.ah _ _ m3
   have A5:=V.ah _ _ hv
   match rs,hl,m3 with
   |[],hl,_=>rw[A5]at hl;simp at hl
   |[x],hl,_=>rw[A5]at hl;simp at hl
   |x::y::l,_,m3=>exact⟨arr,rfl,m3⟩
end
end Go.Proofs.YtpkobkdgcanmjaaGreat
namespace Go.Proofs.YtpkobkdgcanmjaaGreat
inductive cC where
 |skip|val (v:V) (Δ:List (Nat×ab)) (rd:List Nat)|aJ (v:V) (ws rd:List Nat)|cF
 deriving Inhabited
def cC.ok:cC->Bool
 | .skip| .val .. =>true
 |_=>false
def l9(dst:Option Tmp)(x:cC)(s:S):S:=
 match x with
 | .skip=>⟨ay s.env dst (.a8 []),s.o,s.nx⟩
 | .val v Δ _=>⟨ay s.env dst v,put s.o Δ,s.nx⟩
 | .aJ .. | .cF=>⟨ay s.env dst .bO,s.o,s.nx⟩
def eR:cC->List Nat
 | .val _ Δ _=>Δ.map (·.1)
 |_=>[]
def mm:cC->List Nat
 | .val _ _ rd=>rd
 | .aJ _ _ rd=>rd
 |_=>[]
def A8(P:Program)(g:FuncId)(ds:List D)(v:V):Prop:=
 eO P g/\∀ (M:Nat->Prop) (w:World) (vals:Array Value),(∀b,M b->b<w.heap.size)->D.ak M w ds vals.toList->
  Calls P g vals w fun e w'=>cw (fun _=>False) w w'/\∃val,e= .returned val/\∀φ H,V.den M φ H w' v val
theorem A8.ib {P:Program}{g:FuncId}{ds:List D}{v:V}(hr:v.refs=[])(h:jE P g (ds.map .d) (fun _=> .no) 0 (fun v' _ _=>v'=v) (fun _ _ _=>False)):A8 P g ds v:=by
 refine⟨h.1,fun M w vals hM hd=> ?_⟩
 let a7:Place:=fun _=> .nilFunc
 have nG:∀b, ¬bf a7 (hp (fun _=> .no) 0) b:=by rintro b ⟨id,hl,_⟩;simp[hp,ab.live]at hl
 refine(h.2 M a7 w vals (gI a7 hM) ((V.aX _ _).2 (D.ax (w:=w) (w':=w) (B:=M) (fun b _ hB=>⟨rfl,fun h=>h.elim hB (nG b)⟩) _ _ hd))).mono ?_
 rintro e w' ⟨aj,o',nx',v',k1,k2,k3⟩
 refine⟨⟨k2.aW.os,k2.aW.tape,k2.aW.output,k2.aW.size,fun k hk _=>k2.aW.block k hk (nG k)⟩, ?_⟩
 cases e with
 |outgrown=>exact k3.elim
 |panicked ch=>obtain⟨_,_,_,h⟩:=k3;exact h.elim
 |returned val=>
  obtain⟨g1,rfl⟩:=k3
  exact⟨val,rfl,fun φ H=>V.jm (B:=ad M aj (hp o' nx')) (φ:=aj) (H:=hp o' nx') (fun b hb hm=>hb (.inl hm)) v' val (fun id ai=>by rw[hr]at ai;cases ai) g1⟩
def mU(P:Program)(s:S)(fr:Nat)(op:Op)(v:V)(Δ:List (Nat×ab))(rd:List Nat):Prop:=
 ((∃nJ,dC P s fr op=some (v,Δ,nJ))/\rd=eb s op)\/
 (∃c f g first cap,op= .call c/\c.callee= .value f/\s.ev f= .func (.func g) first cap/\
  ((∃ds rs,aR s.o (first++c.args.toList.map s.ev++cap)=some ds/\dN P g ds (.ret rs)/\v=fM rs/\rd=eb s op/\
    (Δ=bH s.o (V.aA (first++c.args.toList.map s.ev++cap))\/D.e8 rs=true/\Δ=[]))\/
   (∃rs,tO P g (first++c.args.toList.map s.ev++cap) rd s.o (.ret rs) Δ/\v=fM rs/\∀id∈rd,id<s.nx)\/
   (∃ds,aR s.o (first++c.args.toList.map s.ev++cap)=some ds/\A8 P g ds v/\rd=eb s op/\Δ=bH s.o (V.aA (first++c.args.toList.map s.ev++cap)))\/
   (qn P g (first++c.args.toList.map s.ev++cap) rd s.o fr v Δ/\∀id∈rd,id<s.nx)))
def pg(P:Program)(s:S)(op:Op)(v:V)(ws rd:List Nat):Prop:=
 ∃c f g first cap,op= .call c/\c.callee= .value f/\s.ev f= .func (.func g) first cap/\
  ((∃ds x,aR s.o (first++c.args.toList.map s.ev++cap)=some ds/\dN P g ds (.aJ x)/\x.flat=true/\v= .d x/\rd=eb s op/\ws=[])\/
   (∃x Δ,tO P g (first++c.args.toList.map s.ev++cap) rd s.o (.aJ x) Δ/\v= .d x/\ws=Δ.map (·.1)/\∀id∈rd,id<s.nx))
def bu(s:S)(gd:Option (Nat×Bool))(b:Bool):Prop:=
 match gd with
 |none=>b=true
 |some (d,want)=>match s.env d with
  | .d (.bool c)=>b=(c==want)
  | .a8 []=>b=false
  |_=>False
def xa(P:Program)(s:S)(fr:Nat)(o:aV)(x:cC):Prop:=
 match x with
 | .skip=>bu s o.gd false
 | .val v Δ rd=>bu s o.gd true/\mU P s fr o.op v Δ rd
 | .aJ v ws rd=>bu s o.gd true/\pg P s o.op v ws rd
 | .cF=>True
def cj(oc:Nat->aV)(ac:Nat->cC)(E:Nat->Bool)(s:S):Nat->S
 |0=>s
 |k+1=>if E k then l9 (oc k).dst (ac k) (cj oc ac E s k)else cj oc ac E s k
structure Compat (oc:Nat->aV) (ac:Nat->cC) (R:Nat->List Nat) (i j:Nat):Prop where
 di:∀d,(oc i).dst=some d->d∉ct (oc j)
 dj:∀d,(oc j).dst=some d->d∉ct (oc i)
 wi:∀id∈eR (ac i),id∉R j/\id∉eR (ac j)
 wj:∀id∈eR (ac j),id∉R i
section
variable {P:Program}{oc:Nat->aV}{ac:Nat->cC}{s:S}{n:Nat}{E:Nat->Bool}{R:Nat->List Nat}{pr:Nat->Nat->Prop}
theorem qq{env:Nat->V}{dst:Option Tmp}{v:V}{t:Nat}(h:∀d,dst=some d->d≠t):ay env dst v t=env t:=by
 cases dst with
 |none=>rfl
 |some d=>simp only[ay,ao];rw[if_neg (fun e=>h d rfl e.symm)]
theorem da{o:Nat->ab}:∀ {Δ:List (Nat×ab)} {id:Nat},id∉Δ.map (·.1)->put o Δ id=o id
 |[],_,_=>rfl
 |x::Δ,id,h=>by
  simp only[List.map_cons,List.mem_cons,not_or]at h
  have:=da (o:=cK o x.1 x.2) (Δ:=Δ) h.2
  simp only[put,List.foldl_cons]at this|-
  rw[this];simp[h.1]
theorem nT{o o':Nat->ab}:∀ {Δ:List (Nat×ab)} {id:Nat},id∈Δ.map (·.1)\/o id=o' id->put o Δ id=put o' Δ id
 |[],_,h=>by rcases h with h|h;· simp at h
             ·exact h
 |x::Δ,id,h=>by
  simp only[put,List.foldl_cons]
  refine nT (Δ:=Δ) (o:=cK o x.1 x.2) (o':=cK o' x.1 x.2) ?_
  simp only[List.map_cons,List.mem_cons]at h
  simp only[ao]
  by_cases e:id=x.1
  ·right;simp[e]
  ·rcases h with(h|h)|h
   ·exact absurd h e
   ·exact .inl h
   ·right;simp[e,h]
theorem eS{dst:Option Tmp}{x:cC}{t:Nat}(h:∀d,dst=some d->d≠t):(l9 dst x s).env t=s.env t:=by
 cases x<;>exact qq h
theorem gh{dst:Option Tmp}{x:cC}{id:Nat}(h:id∉eR x):(l9 dst x s).o id=s.o id:=by
 cases x with
 |val v Δ rd=>exact da h
 |_=>rfl
theorem nU{dst:Option Tmp}{x:cC}{s':S}{t:Nat}(h:s.env t=s'.env t):(l9 dst x s).env t=(l9 dst x s').env t:=by
 cases x<;>cases dst<;>simp only[l9,ay,ao]<;>first|exact h|(split<;>first|rfl|exact h)
theorem qs{dst:Option Tmp}{x:cC}{s':S}{id:Nat}(h:s.o id=s'.o id):(l9 dst x s).o id=(l9 dst x s').o id:=by
 cases x with
 |val v Δ rd=>exact nT (.inr h)
 |_=>exact h
theorem put_comm{o:Nat->ab}{Δ ra:List (Nat×ab)}(h:∀id∈Δ.map (·.1),id∉ra.map (·.1)):put (put o Δ) ra=put (put o ra) Δ:=by
 funext id
 by_cases h1:id∈Δ.map (·.1)
 ·rw[da (h id h1)]
  exact nT (.inl h1)
 ·rw[da (Δ:=Δ) h1]
  by_cases h2:id∈ra.map (·.1)
  ·exact nT (.inl h2)
  ·rw[da h2,da h2,da h1]
theorem mV{env:Nat->V}{d d':Option Tmp}{v v':V}(h:∀t,d=some t->d'≠some t):ay (ay env d v) d' v'=ay (ay env d' v') d v:=by
 cases d with
 |none=>rfl
 |some t=>
  cases d' with
  |none=>rfl
  |some t'=>
   have iO:t'≠t:=fun e=>h t rfl (by rw[e])
   funext i
   simp only[ay,ao]
   by_cases e1:i=t<;>by_cases e2:i=t'
   ·exact absurd (e2.symm.trans e1) iO
   all_goals simp[e1,e2]
   ·intro e;exact absurd e.symm iO
   ·intro e;exact absurd e iO
theorem tP{d d':Option Tmp}{x x':cC}(hd:∀t,d=some t->d'≠some t)(hw:∀id∈eR x,id∉eR x'):l9 d x (l9 d' x' s)=l9 d' x' (l9 d x s):=by
 cases x<;>cases x'<;>simp only[l9]<;>first
  |rw[mV hd,put_comm hw]
  |rw[mV hd]
def nV(n:Nat)(pr:Nat->Nat->Prop)(E:Nat->Bool):Prop:=∀k,k<n->E k=true->∀j,pr k j->E j=true
theorem xb(_:∀k,k<n->∀j,pr k j->j<k)(hc:∀i j,i<j->j<n-> ¬pr j i->Compat oc ac R i j)(hE:nV n pr E){i:Nat}(hi:i<n)(fN:E i=false)(tQ:∀j,pr i j->E j=true):
 (∀t∈ct (oc i),(cj oc ac E s n).env t=(cj oc ac (fun _=>true) s i).env t)/\(∀id∈R i,(cj oc ac E s n).o id=(cj oc ac (fun _=>true) s i).o id):=by
 have a:∀k,k<=i->(∀t∈ct (oc i),(cj oc ac E s k).env t=(cj oc ac (fun _=>true) s k).env t)/\(∀id∈R i,(cj oc ac E s k).o id=(cj oc ac (fun _=>true) s k).o id):=by
  intro k
  induction k with
  |zero=>intro _;exact⟨fun _ _=>rfl,fun _ _=>rfl⟩
  |succ k ih=>
   intro hk
   obtain⟨h1,h2⟩:=ih (by omega)
   simp only[cj,if_true]
   by_cases dr:E k=true
   ·simp only[dr,if_true]
    exact⟨fun t ht=>nU (h1 t ht),fun id ai=>qs (h2 id ai)⟩
   ·have wT: ¬pr i k:=fun hm=>dr (tQ k hm)
    have c:=hc k i (by omega) hi wT
    simp only[dr]
    refine⟨fun t ht=> ?_,fun id ai=> ?_⟩
    ·rw[eS fun d hd e=>c.di d hd (e ▸ ht)];exact h1 t ht
    ·rw[gh fun hm=>(c.wi id hm).1 ai];exact h2 id ai
 have b:∀k,i<=k->k<=n->(∀t∈ct (oc i),(cj oc ac E s k).env t=(cj oc ac (fun _=>true) s i).env t)/\(∀id∈R i,(cj oc ac E s k).o id=(cj oc ac (fun _=>true) s i).o id):=by
  intro k vz
  induction vz with
  |refl=>intro _;exact a i (Nat.le_refl _)
  | @step k vz ih=>
    intro hk
    have vz:i<=k:=vz
    obtain⟨h1,h2⟩:=ih (by omega)
    simp only[cj]
    by_cases dr:E k=true
    ·have iO:i≠k:=fun e=>by rw[e,dr]at fN;cases fN
     have wT: ¬pr k i:=fun hm=>by have:=hE k (by omega) dr i hm;rw[fN]at this;cases this
     have c:=hc i k (by omega) (by omega) wT
     simp only[dr,if_true]
     refine⟨fun t ht=> ?_,fun id ai=> ?_⟩
     ·rw[eS fun d hd e=>c.dj d hd (e ▸ ht)];exact h1 t ht
     ·rw[gh fun hm=>c.wj id hm ai];exact h2 id ai
    ·simp only[dr];exact⟨h1,h2⟩
 exact b n (by omega) (Nat.le_refl _)
theorem insert(hc:∀i j,i<j->j<n-> ¬pr j i->Compat oc ac R i j)(hE:nV n pr E){i:Nat}(hi:i<n)(fN:E i=false){E':Nat->Bool}(qt:∀k,E' k=(E k||k==i)):
 cj oc ac E' s n=l9 (oc i).dst (ac i) (cj oc ac E s n):=by
 have a:∀k,k<=i->cj oc ac E' s k=cj oc ac E s k:=by
  intro k
  induction k with
  |zero=>intro _;rfl
  |succ k ih=>
   intro hk
   have:E' k=E k:=by rw[qt k];have:(k==i)=false:=by simp;omega
                     simp[this]
   simp only[cj,this,ih (by omega)]
 have b:∀k,i+1<=k->k<=n->cj oc ac E' s k=l9 (oc i).dst (ac i) (cj oc ac E s k):=by
  intro k vz
  induction vz with
  |refl=>
   intro _
   have h1:E' i=true:=by rw[qt i];simp
   simp only[cj,h1,fN,if_true,a i (Nat.le_refl _)]
   rfl
  | @step k vz ih=>
    intro hk
    have vz:i+1<=k:=vz
    have h1:E' k=E k:=by rw[qt k];have:(k==i)=false:=by simp;omega
                         simp[this]
    simp only[cj,h1,ih (by omega)]
    by_cases dr:E k=true
    ·have wT: ¬pr k i:=fun hm=>by have:=hE k (by omega) dr i hm;rw[fN]at this;cases this
     have c:=hc i k (by omega) (by omega) wT
     simp only[dr,if_true]
     refine tP (fun t ht he=> ?_) (fun id ai hm=>(c.wi id hm).2 ai)
     exact c.di t he (by simp[ct,ht])
    ·simp only[dr];rfl
 exact b n (by omega) (Nat.le_refl _)
end
end Go.Proofs.YtpkobkdgcanmjaaGreat
namespace Go.Proofs.YtpkobkdgcanmjaaGreat
structure kA (M:Nat->Prop) (a7:Place) (H0:Hp) (w0:World) (n:Nat) (cx:Cx) (φ:Place) (s:S) (us:Nat->Prop) (a:Act) (w:World):Prop where
 heap:af M φ ⟨s.o,us⟩ w
 tr:Trans a7 H0 w0 φ ⟨s.o,us⟩ w
 size:a.tmps.size=n
 defers:lu cx w0 φ ⟨s.o,us⟩ w a.defers
 env:∀i,V.den (ad M φ ⟨s.o,us⟩) φ ⟨s.o,us⟩ w (s.env i) (a.tmps.getD i undef)
section
variable {P:Program}{M:Nat->Prop}{φ a7:Place}{H0:Hp}{w w' w0:World}{n:Nat}{s:S}{us:Nat->Prop}{a:Act}{cx:Cx}{ro:Option Nat}{k:Nat}
variable {next:Act->World->Prop}{Q:Exit->Act->World->Prop}
theorem dJ(hs:kA M a7 H0 w0 n cx φ s us a w){aj:Place}{H':Hp}(hH:af M aj H' w')(ht:Trans φ ⟨s.o,us⟩ w aj H' w'){v:V}{val:Value}(hd:V.den (ad M aj H') aj H' w' v val){dst:Option Tmp}(ba:dk n dst)
 {o':Nat->ab} {us':Nat->Prop} (ho:H'.o=o') (hu:∀id,H'.us id->us' id):kA M a7 H0 w0 n cx aj ⟨ay s.env dst v,o',s.nx⟩ us' (a.put dst val) w':=by
 obtain⟨k1,k2⟩:=dT hH hu
 subst ho
 refine⟨k1,hs.tr.trans (ht.trans k2), ?_, ?_,fun i=> ?_⟩
 ·cases dst<;>simp[Act.put,hs.size]
 ·have:=hs.defers.mono (ht.trans k2);cases dst<;>exact this
 ·cases dst with
  |none=>exact V.au (ht.trans k2) _ _ (hs.env i)
  |some d=>
   simp only[dk]at ba
   simp only[ay,ao,Act.put]
   by_cases hi:i=d
   ·subst hi
    have h1:(a.tmps.setIfInBounds i val).getD i undef=val:=by simp[Array.getD,hs.size,ba]
    rw[if_pos rfl,h1]
    exact V.au k2 _ _ hd
   ·have h1:(a.tmps.setIfInBounds d val).getD i undef=a.tmps.getD i undef:=by
     simp only[Array.getD_eq_getD_getElem?]
     rw[Array.getElem?_setIfInBounds_ne (Ne.symm hi)]
    rw[if_neg hi,h1]
    exact V.au (ht.trans k2) _ _ (hs.env i)
theorem mW(hs:kA M a7 H0 w0 n cx φ s us a w){o:Oper}{op:Op}(bL:o.op=op){c:Call}{f:Operand}{g:FuncId}{first cap:List V}(hc:op= .call c)(bZ:c.callee= .value f)(nC:s.ev f= .func (.func g) first cap):
 ∃vals:Array Value,V.ak (ad M φ ⟨s.o,us⟩) φ ⟨s.o,us⟩ w (first++c.args.toList.map s.ev++cap) vals.toList/\(eO P g->(execOp a.eval o).run P w= .ok (.enter g vals) w):=by
 have hf:=fQ (M:=M) (φ:=φ) (H:=⟨s.o,us⟩) (w:=w) s a hs.env f
 have b6:=eE (M:=M) (φ:=φ) (H:=⟨s.o,us⟩) (w:=w) s a hs.env c.args.toList
 rw[nC]at hf
 obtain⟨fa,ca,xX,pY,A0⟩:=hf
 refine⟨fa++c.args.map a.eval++ca, ?_,fun he=> ?_⟩
 ·rw[Array.toList_append,Array.toList_append,Array.toList_map]
  exact V.fB pY b6 A0
 ·have:=ff (w:=w) he (fa++c.args.map a.eval++ca)
  generalize qV:fa++c.args.map a.eval++ca=vals at this
  simp[execOp,bL,hc,resolve,bZ,xX,Deferred.ofValue,invoke,this,qV]
theorem ph(hs:kA M a7 H0 w0 n cx φ s us a w){fr:Nat}(cE: ¬us fr)(oi:∀id,id<s.nx->us id){o:Oper}{op:Op}(bL:o.op=op)(ba:dk n o.dst){v:V}{Δ:List (Nat×ab)}{rd:List Nat}(h:mU P s fr op v Δ rd)
 (hN:∀aj a' w',kA M a7 H0 w0 n cx aj (l9 o.dst (.val v Δ rd) s) (fun id=>us id\/id=fr) a' w'->next a' w'):o.wpIn (bU ro) k P a w next Q:=by
 rcases h with⟨⟨nJ,h⟩,_⟩|⟨c,f,g,first,cap,hc,bZ,nC,h⟩
 ·have h1:=pa (K:=fun v' ra _=>v'=v/\ra=Δ) h ⟨rfl,rfl⟩
  obtain⟨nx,val,w',aj,v',ra,nJ,⟨rfl,rfl⟩,hr,G6,g1,g2,g3,g4⟩:=mJ hs.heap (s:=s) rfl hs.env cE bL h1
  have nA:=dJ hs g1 g2 g3 ba (o':=put s.o ra) (us':=fun id=>us id\/id=fr) rfl (fun id hu=>hu.elim .inl (g4 id))
  refine eJ (fun c hc=>by rw[bL]at hc;subst hc;exact h1) ?_
  rw[hr]
  rcases G6 with rfl|⟨rfl,rfl⟩
  ·exact hN _ _ _ nA
  ·exact hN _ _ _ nA
 ·refine eJ (fun c' tF=>by rw[bL,hc]at tF;cases tF) ?_
  obtain⟨vals,aT,cB⟩:=mW (P:=P) hs bL hc bZ nC
  generalize first++c.args.toList.map s.ev++cap=all at h aT
  rcases h with⟨ds,rs,dc,hP,rfl,_,x6⟩|⟨rs,hH,rfl,gM⟩|⟨ds,dc,hP,_,rfl⟩|⟨hH,gM⟩
  ·obtain⟨f1,f2,f3,f4,f5⟩:=bN hs.heap (V.aA all) (aY all _ aT)
   have ft:(⟨s.o,us⟩:Hp).put (bH s.o (V.aA all))=⟨put s.o (bH s.o (V.aA all)),us⟩:=fe (H:=⟨s.o,us⟩) (by rw[gH];exact aY all _ aT)
   have mA:=bD f1 all ds _ f3 dc (V.ax f2 _ _ aT)
   have cq:=hP.2 _ w vals (fun b hb=>hb.elim (f1.om b) fun hl=>(f1.ours b hl).2) mA
   rw[cB hP.1]
   refine⟨fun hd=>by simp[bU]at hd,bp (cq.mono fun e w' ⟨hk,ho⟩=> ?_)⟩
   cases e with
   |panicked ch=>cases rs with|nil=>exact ho.elim|cons x l=>cases l<;>exact ho.elim
   |outgrown=>cases rs with|nil=>exact ho.elim|cons x l=>cases l<;>exact ho.elim
   |returned val=>
    rcases x6 with rfl|⟨im,rfl⟩
    ·obtain⟨k1,k2⟩:=cX f1 hk
     refine hN _ _ _ (dJ hs k1 (f2.trans k2) (fg ho) ba (by rw[ft]) fun id hu=> ?_)
     rw[ft]at hu;exact .inl hu
    ·obtain⟨k1,k2⟩:=cX hs.heap hk
     have ho:=R.nB (out:= .ret rs) (B':=ad M φ ⟨s.o,us⟩) im ho
     exact hN _ _ _ (dJ hs k1 k2 (fg ho) ba rfl fun id hu=> .inl hu)
  ·have cq:=hH.2 s.o us M φ w vals (fun id ai=>⟨rfl,oi id (gM id ai)⟩) hs.heap aT
   rw[cB hH.1]
   refine⟨fun hd=>by simp[bU]at hd,bp (cq.mono fun e w' ⟨aj,k1,k2,ho⟩=> ?_)⟩
   cases e with
   |panicked ch=>cases rs with|nil=>exact ho.elim|cons x l=>cases l<;>exact ho.elim
   |outgrown=>cases rs with|nil=>exact ho.elim|cons x l=>cases l<;>exact ho.elim
   |returned val=>exact hN _ _ _ (dJ hs k1 k2 (fg ho) ba rfl fun id hu=> .inl hu)
  ·obtain⟨f1,f2,f3,f4,f5⟩:=bN hs.heap (V.aA all) (aY all _ aT)
   have ft:(⟨s.o,us⟩:Hp).put (bH s.o (V.aA all))=⟨put s.o (bH s.o (V.aA all)),us⟩:=fe (H:=⟨s.o,us⟩) (by rw[gH];exact aY all _ aT)
   have mA:=bD f1 all ds _ f3 dc (V.ax f2 _ _ aT)
   have cq:=hP.2 _ w vals (fun b hb=>hb.elim (f1.om b) fun hl=>(f1.ours b hl).2) mA
   rw[cB hP.1]
   refine⟨fun hd=>by simp[bU]at hd,bp (cq.mono fun e w' ⟨hk,val,he,ho⟩=> ?_)⟩
   subst he
   obtain⟨k1,k2⟩:=cX f1 hk
   refine hN _ _ _ (dJ hs k1 (f2.trans k2) (ho _ _) ba (by rw[ft]) fun id hu=> ?_)
   rw[ft]at hu;exact .inl hu
  ·have cq:=hH.2 s.o us M φ w vals (fun id ai=>⟨rfl,oi id (gM id ai)⟩) cE hs.heap aT
   rw[cB hH.1]
   refine⟨fun hd=>by simp[bU]at hd,bp (cq.mono fun e w' ⟨aj,k1,k2,val,he,ho⟩=> ?_)⟩
   subst he
   exact hN _ _ _ (dJ hs k1 k2 ho ba rfl fun id hu=>hu)
theorem sr{o o2:Nat->ab}{us us2:Nat->Prop}(hH:af M φ ⟨o,us⟩ w)(ho:∀id,o2 id=o id\/o2 id= .no)(hu:∀id,us id->us2 id):af M φ ⟨o2,us2⟩ w/\Trans φ ⟨o,us⟩ w φ ⟨o2,us2⟩ w:=by
 have hl:∀id,(o2 id).live=true->(o id).live=true:=fun id h=>by
  rcases ho id with e|e
  ·rw[<- e];exact h
  ·rw[e]at h;cases h
 have uY:∀b,bf φ ⟨o2,us2⟩ b->bf φ ⟨o,us⟩ b:=fun b ⟨id,h1,h2⟩=>⟨id,hl id h1,h2⟩
 have ht:Trans φ ⟨o,us⟩ w φ ⟨o2,us2⟩ w:=by
  refine⟨cw.refl _ _,fun b hb=> .inl (uY b hb),⟨hu,fun id _ hr=> ?_,fun id e' _ he=> ?_⟩⟩
  ·rcases ho id with e|e
   ·exact⟨by show(o id).aN=true;rw[<- e];exact hr,rfl⟩
   ·rw[show(⟨o2,us2⟩:Hp).o id= .no from e]at hr;cases hr
  ·rcases ho id with e|e
   ·exact⟨e',by show(o id).aO=some e';rw[<- e];exact he,Nat.le_refl _,fun _=>rfl⟩
   ·rw[show(⟨o2,us2⟩:Hp).o id= .no from e]at he;cases he
 refine⟨⟨fun id=> ?_,fun id hn=> ?_,fun i j b hi hj=>hH.apart i j b (hl i hi) (hl j hj),fun b hb=>hH.ours b (uY b hb),hH.om⟩,ht⟩
 ·rcases ho id with e|e
  ·exact(hH.ok id).mono ht e rfl fun _ _ _=>rfl
  ·unfold aw;rw[show(⟨o2,us2⟩:Hp).o id= .no from e];trivial
 ·rcases ho id with e|e
  ·exact e.trans (hH.fresh id fun h=>hn (hu id h))
  ·exact e
def lI(ds:List Nat)(wl:List Nat)(N:Nat)(s:S):S:=
 ⟨fun t=>if ds.contains t=true then .bO else s.env t,fun id=>if wl.contains id=true then .no else s.o id,s.nx+N⟩
theorem tR(hs:kA M a7 H0 w0 n cx φ s us a w)(oi:∀id,id<s.nx->us id){N:Nat}(cl:∀id,us id->id<s.nx+N){o:Oper}{op:Op}(bL:o.op=op){v:V}{ws rd:List Nat}(h:pg P s op v ws rd)
 {s0:S} {ds wl:List Nat} (dc:∀t,ds.contains t=false->s.env t=s0.env t) (G7:∀id,wl.contains id=false->s.o id=s0.o id) (vA:∀id∈ws,wl.contains id=true) (vy:s0.nx=s.nx)
 (hQ:∀aj w' val,aQ M a7 H0 w0 n cx aj (lI ds wl N s0) a w'->V.den (ad M aj (lI ds wl N s0).H) aj (lI ds wl N s0).H w' v val->Q (.panic [{v:=val,recovered:=false}]) a w'):o.wpIn (bU ro) k P a w next Q:=by
 obtain⟨c,f,g,first,cap,hc,bZ,nC,h⟩:=h
 refine eJ (fun c' tF=>by rw[bL,hc]at tF;cases tF) ?_
 obtain⟨vals,aT,cB⟩:=mW (P:=P) hs bL hc bZ nC
 generalize first++c.args.toList.map s.ev++cap=all at h aT
 have fin:∀ (aj:Place) (w':World) (o':Nat->ab) (val:Value),(∀id,wl.contains id=false->o' id=s.o id)->af M aj ⟨o',us⟩ w'->Trans φ ⟨s.o,us⟩ w aj ⟨o',us⟩ w'->V.den (ad M aj ⟨o',us⟩) aj ⟨o',us⟩ w' v val->Q (.panic [{v:=val,recovered:=false}]) a w':=by
  intro aj w' o' val o3 k1 k2 k3
  obtain⟨m1,m2⟩:=sr (o2:=(lI ds wl N s0).o) (us2:=fun id=>id<s0.nx+N) k1 (fun id=>by
   show(if wl.contains id=true then ab.no else s0.o id)=o' id\/_
   by_cases hw:wl.contains id=true
   ·right;simp only[lI];rw[if_pos hw]
   ·left;rw[if_neg hw,o3 id (by simpa using hw),G7 id (by simpa using hw)]) (fun id h=>by rw[vy];exact cl id h)
  have ht:=hs.tr.trans (k2.trans m2)
  refine hQ aj w' val ⟨m1,ht,hs.size,hs.defers.mono (k2.trans m2),fun i=> ?_⟩ (V.au m2 _ _ k3)
  show V.den _ _ _ _ (if ds.contains i=true then V.bO else s0.env i) _
  by_cases hd:ds.contains i=true
  ·rw[if_pos hd];trivial
  ·rw[if_neg hd, <- dc i (by simpa using hd)];exact V.au (k2.trans m2) _ _ (hs.env i)
 rcases h with⟨dd,x,G8,hP,im,rfl,_,rfl⟩|⟨x,Δ,hH,rfl,rfl,gM⟩
 ·obtain⟨f1,f2,f3,f4,f5⟩:=bN hs.heap (V.aA all) (aY all _ aT)
  have mA:=bD f1 all dd _ f3 G8 (V.ax f2 _ _ aT)
  have cq:=hP.2 _ w vals (fun b hb=>hb.elim (f1.om b) fun hl=>(f1.ours b hl).2) mA
  rw[cB hP.1]
  refine⟨fun hd=>by simp[bU]at hd,bp (cq.mono fun e w' ⟨hk,ho⟩=> ?_)⟩
  cases e with
  |returned val=>exact ho.elim
  |outgrown=>exact ho.elim
  |panicked ch=>
   obtain⟨k1,k2⟩:=cX hs.heap hk
   have ho:=R.nB (out:= .aJ x) (B':=ad M φ ⟨s.o,us⟩) im ho
   obtain⟨val,rfl,hd⟩:=ho
   exact fin φ w' s.o val (fun _ _=>rfl) k1 k2 hd
 ·have cq:=hH.2 s.o us M φ w vals (fun id ai=>⟨rfl,oi id (gM id ai)⟩) hs.heap aT
  rw[cB hH.1]
  refine⟨fun hd=>by simp[bU]at hd,bp (cq.mono fun e w' ⟨aj,k1,k2,ho⟩=> ?_)⟩
  cases e with
  |returned val=>exact ho.elim
  |outgrown=>exact ho.elim
  |panicked ch=>
   obtain⟨val,rfl,hd⟩:=ho
   exact fin aj w' _ val (fun id ai=>nR fun y hy e=>by
    have:=vA y.1 (List.mem_map_of_mem hy)
    rw[e,ai]at this;cases this) k1 k2 hd
theorem cL(bK:∀i,V.den (ad M φ ⟨s.o,us⟩) φ ⟨s.o,us⟩ w (s.env i) (a.tmps.getD i undef)){ops:Array Oper}{o:Oper}{gd:Option (Nat×Bool)}{b:Bool}
 (hg:match o.guard with|none=>gd=none|some (j,want)=>∃d,jN ops j=some d/\gd=some (d,want)) (h:bu s gd b):Region.wanted o (yielded ops a.tmps)=b:=by
 unfold Region.wanted
 split at hg
 ·rename_i hn;simp only[hn];subst hg;exact h.symm
 ·rename_i j want hn
  simp only[hn]
  obtain⟨d,hd,rfl⟩:=hg
  unfold jN at hd
  unfold yielded
  simp only[hd,Option.bind_some]
  simp only[bu]at h
  have he:=bK d
  split at h
  ·rename_i c hv
   rw[hv]at he
   simp only[V.den,D.den]at he
   have:a.tmps[d]? =some (.bool c):=by
    rw[Array.getD_eq_getD_getElem?]at he
    cases hx:a.tmps[d]? with
    |none=>rw[hx]at he;simp[undef]at he
    |some x=>rw[hx]at he;simp at he;rw[he]
   simp only[this,h]
   cases c<;>cases want<;>rfl
  ·rename_i hv
   rw[hv]at he
   obtain⟨arr,a6,hn⟩:=he
   have:∀c,a.tmps[d]? ≠some (.bool c):=by
    intro c hx
    rw[Array.getD_eq_getD_getElem?,hx]at a6
    simp at a6
   subst h
   cases hx:a.tmps[d]? with
   |none=>rfl
   |some x=>cases x<;>first|(exact absurd hx (this _))|rfl
  ·exact h.elim
theorem cM{s s':S}{gd:Option (Nat×Bool)}{b:Bool}(h:∀d want,gd=some (d,want)->s'.env d=s.env d)(hg:bu s gd b):bu s' gd b:=by
 unfold bu at*
 cases gd with
 |none=>exact hg
 |some p=>obtain⟨d,want⟩:=p;simp only at hg|-;rw[h d want rfl];exact hg
theorem pj{s s':S}{x:Operand}(h:∀t,x= .tmp t->s'.env t=s.env t):s'.ev x=s.ev x:=by
 cases x<;>simp only[S.ev]
 exact h _ rfl
theorem lJ{s s':S}{op:Op}{c:Call}{f:Operand}{g:FuncId}{first cap:List V}(hv:∀x∈op.operands,s'.ev x=s.ev x)(hc:op= .call c)(bZ:c.callee= .value f)(nC:s.ev f= .func (.func g) first cap):
 s'.ev f= .func (.func g) first cap/\c.args.toList.map s'.ev=c.args.toList.map s.ev:=by
 subst hc
 exact⟨(hv f (by simp only[Op.operands,Call.operands,bZ];exact Array.mem_append.2 (.inl (by simp)))).trans nC,
  List.map_congr_left fun x hx=>hv x (by simp only[Op.operands,Call.operands];exact Array.mem_append.2 (.inr (Array.mem_toList_iff.1 hx)))⟩
theorem tO.frame {g:FuncId}{args:List V}{rd:List Nat}{o o':Nat->ab}{out:R}{Δ:List (Nat×ab)}(ho:∀id∈rd,o' id=o id)(h:tO P g args rd o out Δ):tO P g args rd o' out Δ:=
 ⟨h.1,fun o2 us M φ w vals h1 h2 h3=>h.2 o2 us M φ w vals (fun id ai=>⟨(h1 id ai).1.trans (ho id ai),(h1 id ai).2⟩) h2 h3⟩
theorem qn.frame {g:FuncId}{args:List V}{rd:List Nat}{o o':Nat->ab}{fr:Nat}{v:V}{Δ:List (Nat×ab)}(ho:∀id∈rd,o' id=o id)(h:qn P g args rd o fr v Δ):qn P g args rd o' fr v Δ:=
 ⟨h.1,fun o2 us M φ w vals h1 h2 h3=>h.2 o2 us M φ w vals (fun id ai=>⟨(h1 id ai).1.trans (ho id ai),(h1 id ai).2⟩) h2 h3⟩
theorem j8{s s':S}{fr:Nat}{op:Op}{v:V}{Δ:List (Nat×ab)}{rd:List Nat}(hv:∀x∈op.operands,s'.ev x=s.ev x)(ho:∀id∈rd,s'.o id=s.o id)(oi:s'.nx=s.nx)(h:mU P s fr op v Δ rd):∃nJ,mU P s' fr op v Δ nJ:=by
 rcases h with⟨⟨nJ,h⟩,gM⟩|⟨c,f,g,first,cap,rfl,bZ,nC,h⟩
 ·exact⟨_, .inl ⟨⟨nJ,by rw[qm op hv (by rw[<- gM];exact ho)];exact h⟩,rfl⟩⟩
 ·obtain⟨hf,hm⟩:=lJ hv rfl bZ nC
  rcases h with⟨ds,rs,dc,hP,l8,gM,x6⟩|⟨rs,hH,l8,gM⟩|⟨ds,dc,hP,gM,x6⟩|⟨hH,gM⟩
  ·have hr:∀id∈V.bq (first++c.args.toList.map s.ev++cap),s'.o id=s.o id:=fun id ai=>ho id (by rw[gM];simp only[eb,bZ,nC];exact ai)
   refine⟨_, .inr ⟨c,f,g,first,cap,rfl,bZ,hf, .inl ⟨ds,rs,by rw[hm,dD _ hr];exact dc,hP,l8,rfl, ?_⟩⟩⟩
   rw[hm,c0 (o:=s.o) fun id ai=>hr id (eu _ id ai)]
   exact x6
  ·exact⟨rd, .inr ⟨c,f,g,first,cap,rfl,bZ,hf, .inr (.inl ⟨rs,by rw[hm];exact hH.frame ho,l8,by rw[oi];exact gM⟩)⟩⟩
  ·have hr:∀id∈V.bq (first++c.args.toList.map s.ev++cap),s'.o id=s.o id:=fun id ai=>ho id (by rw[gM];simp only[eb,bZ,nC];exact ai)
   refine⟨_, .inr ⟨c,f,g,first,cap,rfl,bZ,hf, .inr (.inr (.inl ⟨ds,by rw[hm,dD _ hr];exact dc,hP,rfl, ?_⟩))⟩⟩
   rw[hm,c0 (o:=s.o) fun id ai=>hr id (eu _ id ai)]
   exact x6
  ·exact⟨rd, .inr ⟨c,f,g,first,cap,rfl,bZ,hf, .inr (.inr (.inr ⟨by rw[hm];exact hH.frame ho,by rw[oi];exact gM⟩))⟩⟩
theorem pk{s s':S}{op:Op}{v:V}{ws rd:List Nat}(hv:∀x∈op.operands,s'.ev x=s.ev x)(ho:∀id∈rd,s'.o id=s.o id)(oi:s'.nx=s.nx)(h:pg P s op v ws rd):pg P s' op v ws rd:=by
 obtain⟨c,f,g,first,cap,rfl,bZ,nC,h⟩:=h
 obtain⟨hf,hm⟩:=lJ hv rfl bZ nC
 refine⟨c,f,g,first,cap,rfl,bZ,hf, ?_⟩
 rw[hm]
 rcases h with⟨ds,x,dc,hP,im,l8,gM,vA⟩|⟨x,Δ,hH,l8,vA,gM⟩
 ·have hr:∀id∈V.bq (first++c.args.toList.map s.ev++cap),s'.o id=s.o id:=fun id ai=>ho id (by rw[gM];simp only[eb,bZ,nC];exact ai)
  exact .inl ⟨ds,x,by rw[dD _ hr];exact dc,hP,im,l8,by rw[gM];simp only[eb,bZ,nC,hf,hm],vA⟩
 ·exact .inr ⟨x,Δ,hH.frame ho,l8,vA,by rw[oi];exact gM⟩
theorem lK{ops:Array Oper}:∀ (l:List Oper) (l':List aV) (i:Nat) (o:Oper),eU n ops l=some l'->l[i]? =some o->sQ n ops o=some (aL l' i)
 |[],_,_,_,_,h=>by simp at h
 |x::l,l',i,o,h,hi=>by
  simp only[eU]at h
  split at h
  ·rename_i y ys hy MF
   injection h with h;subst h
   cases i with
   |zero=>simp at hi;subst hi;exact hy
   |succ i=>exact lK l ys i o MF (by simpa using hi)
  ·cases h
theorem mX{ops:Array Oper}{o:Oper}{x:aV}(h:sQ n ops o=some x):x.op=o.op/\x.dst=o.dst/\dk n o.dst/\
 (match o.guard with|none=>x.gd=none|some (j,want)=>∃d,jN ops j=some d/\x.gd=some (d,want)):=by
 unfold sQ at h
 split at h
 ·rename_i hd
  have ba:dk n o.dst:=by
   unfold pQ at hd;unfold dk
   split at hd<;>simp_all
  cases hg:o.guard with
  |none=>simp only[hg]at h;injection h with h;subst h;exact⟨rfl,rfl,ba,rfl⟩
  |some p=>
   obtain⟨j,want⟩:=p
   simp only[hg]at h
   cases w8:jN ops j with
   |none=>simp[w8]at h
   |some d=>simp only[w8]at h;injection h with h;subst h;exact⟨rfl,rfl,ba,d,w8,rfl⟩
 ·cases h
theorem ij{ops:Array Oper}{ae:Array Bool}(kH:∀k,k<ops.size->∀j∈aB ops k,j<k)(hs:ae.size=ops.size)(hr:Region.ready .any ops ae=[]):∀k,k<ops.size->ae.getD k false=true:=by
 intro k
 induction k using Nat.strongRecOn with
 |_ k ih=>
  intro hk
  cases hl:ae.getD k false with
  |true=>rfl
  |false=>
   have:k∈Region.ready .any ops ae:=by
    refine mem_ready.2 ⟨?_,ops[k],by simp[hk],fun e he hb=> ?_⟩
    ·simp only[Array.getD_eq_getD_getElem?]at hl|-
     rw[Array.getElem?_eq_getElem (by omega)]at hl|-
     simpa using hl
    ·have hm:e.on∈aB ops k:=by
      simp only[aB,Array.getElem?_eq_getElem hk,List.mem_map,List.mem_filter]
      exact⟨e,⟨Array.mem_toList_iff.2 he,hb⟩,rfl⟩
     exact ih _ (kH k hk _ hm) (by have:=kH k hk _ hm;omega)
   rw[hr]at this;cases this
theorem pn(hs:aQ M a7 H0 w0 n cx φ s a w):aQ M a7 H0 w0 n cx φ s a {w with drawn:=w.drawn+1}:=by
 obtain⟨k1,k2⟩:=cX (w':={w with drawn:=w.drawn+1}) hs.heap ⟨rfl,rfl,rfl,Nat.le_refl _,fun _ _ _=>rfl⟩
 exact⟨k1,hs.tr.trans k2,hs.size,hs.defers.mono k2,fun i=>V.au k2 _ _ (hs.env i)⟩
theorem ew{oc:Nat->aV}{ac:Nat->cC}{E:Nat->Bool}:∀k,(cj oc ac E s k).nx=s.nx
 |0=>rfl
 |k+1=>by
  simp only[cj]
  split
  ·cases ac k<;>exact ew k
  ·exact ew k
theorem rb{oc:Nat->aV}{ac:Nat->cC}{E:Nat->Bool}{t:Nat}:∀k,(∀j,j<k->(oc j).dst≠some t)->(cj oc ac E s k).env t=s.env t
 |0,_=>rfl
 |k+1,h=>by
  have ih:=rb (oc:=oc) (ac:=ac) (E:=E) (t:=t) k fun j hj=>h j (by omega)
  simp only[cj]
  split
  ·rw[eS fun d hd e=>h k (by omega) (by rw[hd,e])];exact ih
  ·exact ih
theorem xc{oc:Nat->aV}{ac:Nat->cC}{E:Nat->Bool}{id:Nat}:∀k,(∀j,j<k->id∉eR (ac j))->(cj oc ac E s k).o id=s.o id
 |0,_=>rfl
 |k+1,h=>by
  have ih:=xc (oc:=oc) (ac:=ac) (E:=E) (id:=id) k fun j hj=>h j (by omega)
  simp only[cj]
  split
  ·rw[gh (h k (by omega))];exact ih
  ·exact ih
theorem pq(aC:P.follows .mixedOrders=true){ops:Array Oper}{l:List aV}{id:Nat}(gN:eU n ops ops.toList=some l)(kH:∀k,k<ops.size->∀j∈aB ops k,j<k){ac:Nat->cC}{dl wl:List Nat}
 (hs:aQ M a7 H0 w0 n cx φ s a w) (x7:∀i,i<ops.size->xa P (cj (aL l) ac (fun _=>true) s i) (s.nx+i) (aL l i) (ac i))
 (x8:∀i,i<ops.size->ac i= .cF->∃j∈aB ops i,(ac j).ok=false)
 {po:Nat->Nat->Prop} (re:∀E:Nat->Bool,(∀k,k<ops.size->E k=true->∀j∈aB ops k,E j=true)->∀k,k<ops.size->(∀j∈aB ops k,E j=true)->∀j,po k j->E j=true) (pt:∀k,k<ops.size->∀j,po k j->j<k)
 (hc:∀i j,i<j->j<ops.size-> ¬po j i->Compat (aL l) ac (fun i=>mm (ac i)) i j)
 (Gn:∀i,i<ops.size->∀t,(aL l i).dst=some t->dl.contains t=true) (G7:∀i,i<ops.size->∀id∈eR (ac i),wl.contains id=true)
 (vA:∀i v ws rd,i<ops.size->ac i= .aJ v ws rd->∀id∈ws,wl.contains id=true)
 (hQ:(∀i,i<ops.size->(ac i).ok=true)->∀φ a w,aQ M a7 H0 w0 n cx φ ⟨(cj (aL l) ac (fun _=>true) s ops.size).env,(cj (aL l) ac (fun _=>true) s ops.size).o,s.nx+ops.size⟩ a w->Q .normal a w)
 (hX:∀i v ws rd,i<ops.size->ac i= .aJ v ws rd->∀φ a w val,aQ M a7 H0 w0 n cx φ (lI dl wl ops.size s) a w->V.den (ad M φ (lI dl wl ops.size s).H) φ (lI dl wl ops.size s).H w v val->Q (.panic [{v:=val,recovered:=false}]) a w):
 (Code.region id ops true).wpIn (bU ro) k P Q a w:=by
 refine wpIn_region_any aC ?_
 have hs:=pn hs
 generalize ({w with drawn:=w.drawn+1}:World)=w at hs
 let N:=ops.size
 let Ef (ae:Array Bool) (k:Nat):Bool:=ae.getD k false
 let qu (ae:Array Bool) (j:Nat):Prop:=j<s.nx\/∃k,k<N/\Ef ae k=true/\j=s.nx+k
 have key:∀ (fuel:Nat) (ae:Array Bool) (φ:Place) (a:Act) (w:World),ae.size=N->ae.count true+fuel=N->(∀k,k<N->Ef ae k=true->∀j∈aB ops k,Ef ae j=true)->(∀k,k<N->Ef ae k=true->(ac k).ok=true)->
  kA M a7 H0 w0 n cx φ (cj (aL l) ac (Ef ae) s N) (qu ae) a w->wpAnyIn (bU ro) k P .any ops Q fuel ae a w:=by
  have fin:∀ (ae:Array Bool) (φ:Place) (a:Act) (w:World),(∀k,k<N->Ef ae k=true)->(∀k,k<N->Ef ae k=true->(ac k).ok=true)->kA M a7 H0 w0 n cx φ (cj (aL l) ac (Ef ae) s N) (qu ae) a w->Q .normal a w:=by
   intro ae φ a w aT qv hu
   have e:∀k,k<=N->cj (aL l) ac (Ef ae) s k=cj (aL l) ac (fun _=>true) s k:=by
    intro k
    induction k with
    |zero=>intro _;rfl
    |succ k ih=>intro hk;simp only[cj,aT k (by omega),ih (by omega)]
   rw[e N (Nat.le_refl _)]at hu
   obtain⟨k1,k2⟩:=dT (us':=fun id=>id<s.nx+N) hu.heap (fun id h=>by
    show id<s.nx+N
    rcases h with h|⟨k,hk,_,rfl⟩<;>omega)
   exact hQ (fun i hi=>qv i hi (aT i hi)) φ a w ⟨k1,hu.tr.trans k2,hu.size,hu.defers.mono k2,fun i=>V.au k2 _ _ (hu.env i)⟩
  intro fuel
  induction fuel with
  |zero=>
   intro ae φ a w cG ss kq qv hu
   have aT:∀k,k<N->Ef ae k=true:=by
    intro k hk
    have h1:ae.count true=ae.size:=by omega
    rw[Array.count_eq_size]at h1
    have:=h1 ae[k] (Array.getElem_mem (by omega))
    simp only[Ef,Array.getD_eq_getD_getElem?]
    rw[Array.getElem?_eq_getElem (by omega)]
    simpa using this.symm
   refine⟨?_,fin ae φ a w aT qv hu⟩
   rw[List.eq_nil_iff_forall_not_mem]
   intro k hk
   obtain⟨h1,o,h2,_⟩:=mem_ready.1 hk
   have MG:k<N:=(Array.getElem?_eq_some_iff.1 h2).1
   have:=aT k MG
   simp only[Ef,Array.getD_eq_getD_getElem?]at this h1
   rw[Array.getElem?_eq_getElem (by omega)]at this h1
   simp only[Option.getD_some]at this h1
   rw[this]at h1;cases h1
  |succ fuel ih=>
   intro ae φ a w cG ss kq qv hu
   refine⟨fun hr=>fin ae φ a w (ij kH cG hr) qv hu,fun i hi=> ?_⟩
   obtain⟨h1,o,h2,h3⟩:=mem_ready.1 hi
   have kB:i<N:=(Array.getElem?_eq_some_iff.1 h2).1
   have fN:Ef ae i=false:=by
    simp only[Ef,Array.getD_eq_getD_getElem?]at h1|-
    rw[Array.getElem?_eq_getElem (by omega)]at h1|-
    simpa using h1
   have tQ:∀j∈aB ops i,Ef ae j=true:=by
    intro j hj
    simp only[aB,h2,List.mem_map,List.mem_filter]at hj
    obtain⟨e,⟨he,hb⟩,rfl⟩:=hj
    exact h3 e (Array.mem_toList_iff.1 he) hb
   have tS:nV N po (Ef ae):=fun k hk dr=>re _ kq k hk (kq k hk dr)
   obtain⟨A9,FY⟩:=xb (s:=s) pt hc tS kB fN (re _ kq i kB tQ)
   obtain⟨g1,g2,g3,g4⟩:=mX (lK _ _ i o gN (by simpa using h2))
   have cE: ¬qu ae (s.nx+i):=by
    rintro(h|⟨k,_,hk,he⟩)
    ·omega
    ·have:k=i:=by omega
     subst this;rw[fN]at hk;cases hk
   have qt:∀k,Ef (ae.setIfInBounds i true) k=(Ef ae k||k==i):=by
    intro k
    simp only[Ef,Array.getD_eq_getD_getElem?]
    by_cases e:k=i
    ·subst e;simp[cG,kB]
    ·rw[Array.getElem?_setIfInBounds_ne (Ne.symm e)]
     have:(k==i)=false:=by simpa using e
     simp[this]
   have x9:=insert (s:=s) hc tS kB fN qt
   have ya:∀k,k<N->Ef (ae.setIfInBounds i true) k=true->∀j∈aB ops k,Ef (ae.setIfInBounds i true) j=true:=by
    intro k hk dr j hj
    rw[qt]at dr|-
    by_cases e:k=i
    ·subst e;simp[tQ j hj]
    ·have:(k==i)=false:=by simpa using e
     rw[this,Bool.or_false]at dr
     simp[kq k hk dr j hj]
   have tT:(ae.setIfInBounds i true).count true+fuel=N:=by
    have cm:i<ae.size:=by omega
    have e1:ae.setIfInBounds i true=ae.set i true cm:=by simp[Array.setIfInBounds,cm]
    have e2:ae[i]=false:=by
     have:=fN
     simp only[Ef,Array.getD_eq_getD_getElem?]at this
     rw[Array.getElem?_eq_getElem cm]at this
     simpa using this
    rw[e1,Array.count_set cm,e2]
    simp
    omega
   have fK:(ac i).ok=true->∀aj a' w',kA M a7 H0 w0 n cx aj (l9 o.dst (ac i) (cj (aL l) ac (Ef ae) s N)) (fun id=>qu ae id\/id=s.nx+i) a' w'->wpAnyIn (bU ro) k P .any ops Q fuel (ae.setIfInBounds i true) a' w':=by
    intro Ba aj a' w' nn
    refine ih _ aj a' w' (by simp[cG]) tT ya (fun k hk dr=> ?_) ?_
    ·rw[qt]at dr
     by_cases e:k=i
     ·subst e;exact Ba
     ·have:(k==i)=false:=by simpa using e
      rw[this,Bool.or_false]at dr
      exact qv k hk dr
    rw[x9,g2]
    obtain⟨k1,k2⟩:=dT (us':=qu (ae.setIfInBounds i true)) nn.heap (fun id h=>by
     rcases h with(h|⟨k,hk,dr,rfl⟩)|rfl
     ·exact .inl h
     ·exact .inr ⟨k,hk,by rw[qt,dr];rfl,rfl⟩
     ·exact .inr ⟨i,kB,by rw[qt];simp,rfl⟩)
    exact⟨k1,nn.tr.trans k2,nn.size,nn.defers.mono k2,fun j=>V.au k2 _ _ (nn.env j)⟩
   have su:∀d want,(aL l i).gd=some (d,want)->(cj (aL l) ac (Ef ae) s N).env d=(cj (aL l) ac (fun _=>true) s i).env d:=fun d want hd=>A9 d (by simp[ct,tmpsOf,hd])
   have aI:=x7 i kB
   have sv:∀x∈(aL l i).op.operands,(cj (aL l) ac (Ef ae) s N).ev x=(cj (aL l) ac (fun _=>true) s i).ev x:=fun x hx=>pj fun t ht=>A9 t (by
    subst ht
    simp only[ct,tmpsOf,List.mem_append,List.mem_filterMap]
    exact .inl (.inl ⟨.tmp t,Array.mem_toList_iff.2 hx,rfl⟩))
   have vB:(cj (aL l) ac (Ef ae) s N).nx=(cj (aL l) ac (fun _=>true) s i).nx:=(ew N).trans (ew i).symm
   unfold wpOpIn
   simp only[h2]
   cases kC:ac i with
   |skip=>
    rw[kC]at aI fK
    have hw:=cL hu.env g4 (cM su aI)
    simp only[hw,Bool.false_eq_true,if_false]
    refine⟨fun _ _=>trivial,fK rfl φ _ w ?_⟩
    have:=dJ (v:= .a8 []) (val:=undef) hu hu.heap (Trans.refl _ _ _) ⟨#[],rfl,rfl⟩ (dst:=o.dst) g3 rfl (us':=fun id=>qu ae id\/id=s.nx+i) (fun id h=> .inl h)
    exact this
   |val v Δ rd=>
    rw[kC]at aI fK
    have hw:=cL hu.env g4 (cM su aI.1)
    simp only[hw,if_true]
    obtain⟨nJ,kp⟩:=j8 sv (fun id ai=>FY id (by rw[kC];exact ai)) vB aI.2
    exact ph hu cE (fun id h=> .inl (by rw[ew]at h;exact h)) g1.symm g3 kp (fK rfl)
   |aJ v ws rd=>
    rw[kC]at aI
    have hw:=cL hu.env g4 (cM su aI.1)
    simp only[hw,if_true]
    have kp:=pk sv (fun id ai=>FY id (by rw[kC];exact ai)) vB aI.2
    refine tR (s0:=s) (ds:=dl) (wl:=wl) (N:=N) hu (fun id h=> .inl (by rw[ew]at h;exact h)) (fun id h=> ?_) g1.symm kp (fun t ht=> ?_) (fun id ai=> ?_) (vA i v ws rd kB kC) (ew N).symm (fun aj w' val h1 h2=>hX i v ws rd kB kC aj a w' val h1 h2)
    ·rw[ew]
     rcases h with h|⟨k,hk,_,rfl⟩<;>omega
    ·refine rb N fun j hj e=> ?_
     have:=Gn j hj t e
     rw[ht]at this;cases this
    ·refine xc N fun j hj hm=> ?_
     have:=G7 j hj id hm
     rw[ai]at this;cases this
   |cF=>
    exfalso
    obtain⟨j,hj,yb⟩:=x8 i kB kC
    have:=qv j (Nat.lt_trans (kH i kB j hj) kB) (tQ j hj)
    rw[yb]at this;cases this
 refine key ops.size _ φ a w (by simp[N]) (by simp[N,Array.count_replicate]) (fun k hk dr=> ?_) (fun k hk dr=> ?_) ?_
 ·simp[Ef,Array.getD_eq_getD_getElem?,Array.getElem?_replicate]at dr
  split at dr<;>simp at dr
 ·simp[Ef,Array.getD_eq_getD_getElem?,Array.getElem?_replicate]at dr
  split at dr<;>simp at dr
 ·have e:∀k,cj (aL l) ac (Ef (Array.replicate ops.size false)) s k=s:=by
   intro k
   induction k with
   |zero=>rfl
   |succ k ih=>
    have:Ef (Array.replicate ops.size false) k=false:=by
     simp only[Ef,Array.getD_eq_getD_getElem?,Array.getElem?_replicate]
     split<;>rfl
    simp only[cj,this,ih]
    rfl
  rw[e]
  obtain⟨k1,k2⟩:=dT (us':=qu (Array.replicate ops.size false)) hs.heap (fun id h=> .inl h)
  exact⟨k1,hs.tr.trans k2,hs.size,hs.defers.mono k2,fun j=>V.au k2 _ _ (hs.env j)⟩
end
end Go.Proofs.YtpkobkdgcanmjaaGreat
