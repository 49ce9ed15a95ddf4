/-
  A PART OF THE PROOF. Conditions: none.
-/
import Derived.OrdersIn
import Derived.Test.YtbmnikpknlkbkaaGreatEk6
set_option linter.unusedSimpArgs false
set_option linter.unusedVariables false
namespace Go.Proofs.YtbmnikpknlkbkaaGreat
def m5(P:Program)(g:FuncId)(ds:List D)(o o1 oa:Nat->aa)(K:V->(Nat->aa)->Prop)(X:V->(Nat->aa)->Prop):Prop:=
 ∃out,c0 P g ds out/\((match out with| .ret rs=>K (fP rs) o1| .aH x=>X (.d x) o1)\/(out.flat=true/\match out with| .ret rs=>K (fP rs) o| .aH x=>X (.d x) o)\/(out.ga=true/\match out with| .ret rs=>K (fP rs) oa| .aH x=>X (.d x) oa))
def m6(P:Program)(g:FuncId)(args:List V)(o:Nat->aa)(nx:Nat)(K:V->(Nat->aa)->Nat->Prop)(X:V->(Nat->aa)->Nat->Prop):Prop:=jd P g args o nx K X
theorem jd.mono {P:Program}{g:FuncId}{args:List V}{o:Nat->aa}{nx:Nat}{K X K' X':V->(Nat->aa)->Nat->Prop}(hK:∀v o n,K v o n->K' v o n)(hX:∀v o n,X v o n->X' v o n)(h:jd P g args o nx K X):jd P g args o nx K' X':=
 h.imp (jJ.mono hK hX) (jJ.mono hK hX)
@[congr] theorem xo {P:Program} {g g':FuncId} {ds Bn:List D} {o o1 oa:Nat->aa} {K X} (h:g=g') (h':ds=Bn):m5 P g ds o o1 oa K X=m5 P g' Bn o o1 oa K X:=by subst h;subst h';rfl
@[congr] theorem xp {P:Program} {g g':FuncId} {aO Bu:List V} {o:Nat->aa} {nx:Nat} {K X} (h:g=g') (h':aO=Bu):m6 P g aO o nx K X=m6 P g' Bu o nx K X:=by subst h;subst h';rfl
def xq(P:Program)(g:FuncId)(args:List V)(o:Nat->aa)(nx:Nat)(K X:V->(Nat->aa)->Nat->Prop):Prop:=
 (∃ds,aQ o args=some ds/\m5 P g ds o (put o (bD o (V.aB args))) (put o (kq o (V.aB args))) (fun v o'=>K v o' (nx+1)) (fun v o'=>X v o' (nx+1)))\/jJ P g args o nx K X
def yr(P:Program)(s:S)(o:aT)(X:V->S->Prop)(K:S->Prop):Prop:=
 match o.op with
 | .call c=>match c.callee with
   | .value f=>match s.ev f with
     | .func (.func g) first cap=>match aQ s.o (first++c.args.toList.map s.ev++cap)with
       |some ds=>m5 P g ds s.o (put s.o (bD s.o (V.aB (first++c.args.toList.map s.ev++cap)))) (put s.o (kq s.o (V.aB (first++c.args.toList.map s.ev++cap)))) (fun v o'=>K ⟨ay s.env o.dst v,o',s.nx+1⟩) (fun v o'=>X v ⟨s.env,o',s.nx+1⟩)\/
        m6 P g (first++c.args.toList.map s.ev++cap) s.o s.nx (fun v o' nx'=>K ⟨ay s.env o.dst v,o',nx'⟩) (fun v o' nx'=>X v ⟨s.env,o',nx'⟩)
       |none=>m6 P g (first++c.args.toList.map s.ev++cap) s.o s.nx (fun v o' nx'=>K ⟨ay s.env o.dst v,o',nx'⟩) (fun v o' nx'=>X v ⟨s.env,o',nx'⟩)
     | .g8 id=>eo P id (c.args.toList.map s.ev) s.o s.nx (fun v o' nx'=>K ⟨ay s.env o.dst v,o',nx'⟩) (fun v o' nx'=>X v ⟨s.env,o',nx'⟩)
     |_=>False
   | .invoke r m=>match lA P m (s.ev r)with
     |some (g,y)=>xq P g (y::c.args.toList.map s.ev) s.o s.nx (fun v o' nx'=>K ⟨ay s.env o.dst v,o',nx'⟩) (fun v o' nx'=>X v ⟨s.env,o',nx'⟩)
     |none=>False
   |_=>match dG P s s.nx o.op with
    |some (v,Δ,_)=>K ⟨ay s.env o.dst v,put s.o Δ,s.nx+1⟩
    |none=>False
 | .panic x=>match s.ev x with
   | .d (.iface t y)=>X (.d (.iface t y)) s
   | .iface t y=>X (.iface t y) s
   |_=>False
 | .next x str=>match iL s.o (s.ev x)with
   |some (id,l)=>str=false/\qY id l fun v Δ _=>K ⟨ay s.env o.dst v,put s.o Δ,s.nx+1⟩
   |none=>match dG P s s.nx o.op with
    |some (v,Δ,_)=>K ⟨ay s.env o.dst v,put s.o Δ,s.nx+1⟩
    |none=>False
 |op=>match dG P s s.nx op with
  |some (v,Δ,_)=>K ⟨ay s.env o.dst v,put s.o Δ,s.nx+1⟩
  |none=>False
def jO(P:Program)(X:V->S->Prop)(K:S->Prop):List aT->S->Prop
 |[],s=>K s
 |o::l,s=>match o.gd with
  |none=>yr P s o X (jO P X K l)
  |some (d,want)=>match s.env d with
   | .d (.bool b)=>if b=want then yr P s o X (jO P X K l)else jO P X K l ⟨ay s.env o.dst (.a8 []),s.o,s.nx+1⟩
   | .a8 []=>jO P X K l ⟨ay s.env o.dst (.a8 []),s.o,s.nx+1⟩
   |_=>False
def tZ(b:Nat)(body:(et->S->Prop)->S->Prop)(Q:et->S->Prop)(s:S):Prop:=
 ∃ (J:Nat->S->Prop),(∃m s1,p4 b s s1/\J m s1)/\∀m s0,J m s0->body (fun e s=>match e with| .normal=>∃m' s1,m'<m/\p4 b s s1/\J m' s1|e=>Q e s) s0
@[congr] theorem xr {b:Nat} {body Q} {s s':S} (h:s=s'):tZ b body Q s=tZ b body Q s':=by subst h;rfl
def js(t:Bool)(A B:Prop):Prop:=(t=true->A)/\(t=false->B)
@[congr] theorem xu {t t':Bool} {A B:Prop} (h:t=t'):js t A B=js t' A B:=by subst h;rfl
@[simp] theorem lL (A B:Prop):js true A B=A:=by simp[js]
@[simp] theorem j9 (A B:Prop):js false A B=B:=by simp[js]
section
variable {P:Program}{n b:Nat}
theorem rp{s:S}{o:aT}{o':Oper}{X X':V->S->Prop}{K K':S->Prop}(bE:o'.op=o.op)(a9:o'.dst=o.dst)(hd:dq n o'.dst)(hK:∀s,K s->K' s)(hX:∀v s,X v s->X' v s)(h:yr P s o X K):EG P n s o' X' K':=by
 refine⟨hd, ?_⟩
 rw[a9,bE]
 unfold yr at h
 have hs:∀ {op:Op},(match dG P s s.nx op with|some (v,Δ,_)=>K ⟨ay s.env o.dst v,put s.o Δ,s.nx+1⟩|none=>False)->wX P s s.nx op fun v Δ _=>K' ⟨ay s.env o.dst v,put s.o Δ,s.nx+1⟩:=by
  intro op h
  split at h
  ·rename_i v Δ rd he;exact pq he (hK _ h)
  ·exact h.elim
 split at h
 ·rename_i c hc
  split at h
  ·rename_i f bY
   simp only[hc,bY]
   split at h
   ·rename_i g first cap hf
    unfold oZ
    simp only[hf]
    unfold lz
    split at h
    ·rename_i ds dg
     rcases h with⟨out,hP,h|⟨iy,h⟩|⟨iy,h⟩⟩|h
     ·refine .inl ⟨ds,out,dg,hP, ?_⟩
      cases out<;>first|exact hK _ h|exact hX _ _ h
     ·refine .inr (.inl ⟨ds,out,dg,hP,iy, ?_⟩)
      cases out<;>first|exact hK _ h|exact hX _ _ h
     ·refine .inr (.inr (.inl ⟨ds,out,dg,hP,iy, ?_⟩))
      cases out<;>first|exact hK _ h|exact hX _ _ h
     ·exact .inr (.inr (.inr (jd.mono (fun v o n h=>hK _ h) (fun v o n h=>hX _ _ h) h)))
    ·exact .inr (.inr (.inr (jd.mono (fun v o n h=>hK _ h) (fun v o n h=>hX _ _ h) h)))
   ·rename_i id hf
    unfold oZ
    simp only[hf]
    exact eo.mono (fun v o n h=>hK _ h) (fun v o n h=>hX _ _ h) h
   ·exact h.elim
  ·rename_i r m bY
   simp only[hc,bY]
   split at h
   ·rename_i g y hr
    simp only[hr]
    unfold lz
    rcases h with⟨ds,dg,out,hP,h|⟨iy,h⟩|⟨iy,h⟩⟩|h
    ·refine .inl ⟨ds,out,dg,hP, ?_⟩
     cases out<;>first|exact hK _ h|exact hX _ _ h
    ·refine .inr (.inl ⟨ds,out,dg,hP,iy, ?_⟩)
     cases out<;>first|exact hK _ h|exact hX _ _ h
    ·refine .inr (.inr (.inl ⟨ds,out,dg,hP,iy, ?_⟩))
     cases out<;>first|exact hK _ h|exact hX _ _ h
    ·exact .inr (.inr (.inr (.inl (jJ.mono (fun v o n h=>hK _ h) (fun v o n h=>hX _ _ h) h))))
   ·exact h.elim
  ·rename_i bY hinv
   rw[hc]at h|-
   obtain⟨vO,args,ts⟩:=c
   cases vO with
   |value f=>exact absurd rfl (bY f)
   |invoke r m=>exact absurd rfl (hinv r m)
   |_=>exact hs h
 ·rename_i x hx
  simp only[hx]
  split at h
  ·rename_i hv;simp only[hv];exact hX _ _ h
  ·rename_i hv;simp only[hv];exact hX _ _ h
  ·exact h.elim
 ·rename_i x str hx
  rw[hx]at h|-
  split at h
  ·rename_i id l hl
   exact .inr ⟨h.1,id,l,hl,fun e=>hK _ (h.2.1 e),fun i k x e=>hK _ (h.2.2 i k x e)⟩
  ·exact hs h
 ·rename_i hc hp ow
  have h2:=hs h
  cases hh:o.op<;>first
   |exact absurd hh (hc _)
   |exact absurd hh (hp _)
   |exact absurd hh (ow _ _)
   |(rw[hh]at h2;exact h2)
theorem eb{ops:Array Oper}{X X':V->S->Prop}{K K':S->Prop}(hK:∀s,K s->K' s)(hX:∀v s,X v s->X' v s):∀ (l:List Oper) (l':List aT) (s:S),eW n ops l=some l'->jO P X K l' s->nH P n ops X' K' l s
 |[],l',s,h,hr=>by simp[eW]at h;subst h;exact hK _ hr
 |o::l,l',s,h,hr=>by
  simp only[eW]at h
  split at h
  ·rename_i x xs hx w6
   injection h with h;subst h
   unfold s6 at hx
   split at hx
   ·rename_i hd
    have a9:dq n o.dst:=by
     unfold p5 at hd;unfold dq
     split at hd<;>simp_all
    simp only[nH,nG]
    cases hg:o.guard with
    |none=>
     simp only[hg]at hx
     injection hx with hx;subst hx
     exact rp rfl rfl a9 (fun s hs=>eb hK hX l xs s w6 hs) hX hr
    |some p=>
     obtain⟨j,want⟩:=p
     simp only[hg]at hx
     cases xw:jS ops j with
     |none=>simp[xw]at hx
     |some d=>
      simp only[xw]at hx
      injection hx with hx;subst hx
      simp only
      simp only[jO]at hr
      split at hr
      ·rename_i t ht
       simp only[xw,ht]
       split at hr
       ·rename_i e
        exact⟨fun _=>rp rfl rfl a9 (fun s hs=>eb hK hX l xs s w6 hs) hX hr,fun h=>absurd e h⟩
       ·rename_i e
        exact⟨fun h=>absurd h e,fun _=>⟨a9,eb hK hX l xs _ w6 hr⟩⟩
      ·rename_i ht
       simp only[xw,ht]
       exact⟨a9,eb hK hX l xs _ w6 hr⟩
      ·exact hr.elim
   ·cases hx
  ·cases h
end
end Go.Proofs.YtbmnikpknlkbkaaGreat
namespace Go.Proofs.YtbmnikpknlkbkaaGreat
mutual
def V.refs:V->List Nat
 | .ptr id _=>[id]| .osl id _=>[id]| .pe id _ _ _ _=>[id]| .mg id _ _=>[id]| .mp id=>[id]| .g8 id=>[id]
 | .agg cs=>V.bn cs
 | .a8 cs=>V.bn cs
 | .func _ a b=>V.bn a++V.bn b
 | .iface _ x=>x.refs
 |_=>[]
def V.bn:List V->List Nat
 |[]=>[]
 |v::vs=>v.refs++V.bn vs
end
mutual
theorem eu:∀ (v:V),∀id∈v.ids,id∈v.refs
 | .osl id _,j,h=>by simpa[V.ids,V.refs]using h
 | .agg cs,j,h=>by simp only[V.ids]at h;simp only[V.refs];exact ew cs j h
 | .iface _ x,j,h=>by simp only[V.ids]at h;simp only[V.refs];exact eu x j h
 | .mp _,j,h=>by simpa[V.ids,V.refs]using h
 | .d _,_,h| .b6,_,h| .a8 _,_,h| .ptr _ _,_,h| .pe _ _ _ _ _,_,h| .pp _ _,_,h| .func _ _ _,_,h| .bL,_,h| .iA _,_,h| .mg _ _ _,_,h| .cM,_,h| .g8 _,_,h=>by simp[V.ids]at h
theorem ew:∀ (vs:List V),∀id∈V.aB vs,id∈V.bn vs
 |[],j,h=>by simp[V.aB]at h
 |v::vs,j,h=>by
  simp only[V.aB,V.bn,List.mem_append]at h|-
  exact h.imp (eu v j) (ew vs j)
end
mutual
theorem bu{o o':Nat->aa}:∀ (v:V),(∀id∈v.refs,o' id=o id)->cJ o' v=cJ o v
 | .osl id ep,h=>by simp only[cJ,h id (by simp[V.refs])]
 | .mp id,h=>by simp only[cJ,h id (by simp[V.refs])]
 | .agg cs,h=>by simp only[cJ,dH cs (by simpa[V.refs]using h)]
 | .iface t x,h=>by simp only[cJ,bu x (by simpa[V.refs]using h)]
 | .d _,_| .b6,_| .a8 _,_| .ptr _ _,_| .pe _ _ _ _ _,_| .pp _ _,_| .func _ _ _,_| .bL,_| .iA _,_| .mg _ _ _,_| .cM,_| .g8 _,_=>by simp only[cJ]
theorem dH{o o':Nat->aa}:∀ (vs:List V),(∀id∈V.bn vs,o' id=o id)->aQ o' vs=aQ o vs
 |[],_=>rfl
 |v::vs,h=>by
  simp only[aQ,bu v (fun id ah=>h id (by simp[V.bn,ah])),dH vs (fun id ah=>h id (by simp[V.bn,ah]))]
end
theorem de{o o':Nat->aa}{ids:List Nat}(h:∀id∈ids,o' id=o id):bD o' ids=bD o ids:=by
 rw[fu,fu]
 exact List.map_congr_left fun id ah=>by rw[h id ah]
def ec(s:S)(op:Op):List Nat:=
 match op with
 | .load _ x=>(s.ev x).refs
 | .nilCheck x=>(s.ev x).refs
 | .fieldAddr _ x _=>(s.ev x).refs
 | .indexAddr _ x _=>(s.ev x).refs
 | .store _ x v=>(s.ev x).refs++(s.ev v).refs
 | .buildSlice _ _ parts=>V.bn (parts.toList.map fun p=>s.ev p.2)
 | .binOp _ _ x y _=>(s.ev x).refs++(s.ev y).refs
 | .slice _ x _ _ _=>(s.ev x).refs
 | .lookup _ m k _=>(s.ev m).refs++(s.ev k).refs
 | .mapUpdate _ m k v=>(s.ev m).refs++((s.ev k).refs++(s.ev v).refs)
 | .insert _ m k v=>(s.ev m).refs++((s.ev k).refs++(s.ev v).refs)
 | .range _ x=>(s.ev x).refs
 | .next x _=>(s.ev x).refs
 | .entry x=>(s.ev x).refs
 | .call c=>match c.callee with
   | .builtin _=>V.bn (c.args.toList.map s.ev)
   | .value f=>match s.ev f with
     | .func _ first cap=>V.bn (first++c.args.toList.map s.ev++cap)
     |_=>[]
   |_=>[]
 |_=>[]
section
variable {P:Program}{s s':S}{fr:Nat}
theorem ka{o o':Nat->aa}(v:V)(h:∀id∈v.refs,o' id=o id):jm o' v=jm o v:=by
 cases v with
 |osl id ep=>simp only[jm,h id (by simp[V.refs])]
 |d x=>cases x<;>rfl
 |_=>rfl
theorem kb{o o':Nat->aa}(v:V)(q:Nat)(h:∀id∈v.refs,o' id=o id):gY o' v q=gY o v q:=by
 cases v<;>simp only[gY]<;>rw[h _ (by simp[V.refs])]
theorem qA{o o':Nat->aa}(v:V)(h:∀id∈v.refs,o' id=o id):oC o' v=oC o v:=by
 have h1:cy o' v=cy o v:=by unfold cy;rw[bu v h]
 cases v<;>first|rfl|simp only[oC,h1]
theorem nU{o o':Nat->aa}(v:V)(h:∀id∈v.refs,o' id=o id):jB o' v=jB o v:=by
 cases v with
 |mp id=>simp only[jB,h id (by simp[V.refs])]
 |d x=>cases x<;>rfl
 |_=>rfl
theorem nV{o o':Nat->aa}(v:V)(h:∀id∈v.refs,o' id=o id):jC o' v=jC o v:=by
 cases v with
 |ptr id off=>simp only[jC,h id (by simp[V.refs])]
 |d x=>cases x<;>rfl
 |_=>rfl
theorem gr{o o':Nat->aa}(v:V)(h:∀id∈v.refs,o' id=o id):lh o' v=lh o v:=by
 cases v with
 |mp id=>simp only[lh,h id (by simp[V.refs])]
 |d x=>cases x<;>rfl
 |_=>rfl
theorem pt{o o':Nat->aa}(v:V)(h:∀id∈v.refs,o' id=o id):mD o' v=mD o v:=by
 cases v with
 |mp id=>simp only[mD,h id (by simp[V.refs])]
 |d x=>cases x<;>rfl
 |_=>rfl
theorem pv{o o':Nat->aa}(v:V)(str:Bool)(h:∀id∈v.refs,o' id=o id):iK o' v str=iK o v str:=by
 cases v with
 |ptr id off=>cases off<;>simp only[iK,h id (by simp[V.refs])]
 |_=>rfl
theorem nW{o o':Nat->aa}(v:V)(h:∀id∈v.refs,o' id=o id):hU o' v=hU o v:=by
 cases v with
 |ptr id off=>cases off<;>simp only[hU,h id (by simp[V.refs])]
 |_=>rfl
theorem nX{o o':Nat->aa}{fr:Nat}{t:TypeId}{P:Program}(v:V)(h:∀id∈v.refs,o' id=o id):hS P o' fr t v=hS P o fr t v:=by
 unfold hS
 cases v with
 |mp id=>simp only[h id (by simp[V.refs])]
 |d x=>cases x<;>rfl
 |_=>rfl
theorem nY{o o':Nat->aa}(v:V)(h:∀id∈v.refs,o' id=o id):hG o' v=hG o v:=by
 cases v with
 |ptr id off=>simp only[hG,h id (by simp[V.refs])]
 |_=>rfl
theorem nZ{o o':Nat->aa}(v:V)(h:∀id∈v.refs,o' id=o id):hO o' v=hO o v:=by
 cases v with
 |mg id off n=>simp only[hO,h id (by simp[V.refs])]
 |_=>rfl
theorem qB(op:Op)(hv:∀x∈op.operands,s'.ev x=s.ev x)(ho:∀id∈ec s op,s'.o id=s.o id):dG P s' fr op=dG P s fr op:=by
 cases op<;>simp only[dG]
 case move x=>rw[hv x (by simp[Op.operands])]
 case assign x=>rw[hv x (by simp[Op.operands])]
 case pick c a b=>rw[hv c (by simp[Op.operands]),hv a (by simp[Op.operands]),hv b (by simp[Op.operands])]
 case box t x=>rw[hv x (by simp[Op.operands])]
 case build t parts=>
  have:(parts.toList.map fun p=>(p.1,s'.ev p.2))=parts.toList.map fun p=>(p.1,s.ev p.2):=
   List.map_congr_left fun p hp=>by rw[hv p.2 (by simp only[Op.operands];simp;exact⟨p.1,by simpa using hp⟩)]
  rw[this]
 case buildSlice t len parts=>
  have:(parts.toList.map fun p=>(p.1,s'.ev p.2))=parts.toList.map fun p=>(p.1,s.ev p.2):=
   List.map_congr_left fun p hp=>by rw[hv p.2 (by simp only[Op.operands];simp;exact⟨p.1,by simpa using hp⟩)]
  rw[this]
  have e:(parts.toList.map fun p=>(p.1,s.ev p.2)).map (·.2)=parts.toList.map fun p=>s.ev p.2:=by simp[Function.comp_def]
  have h1:aQ s'.o ((parts.toList.map fun p=>(p.1,s.ev p.2)).map (·.2))=aQ s.o ((parts.toList.map fun p=>(p.1,s.ev p.2)).map (·.2)):=dH _ (by rw[e];exact ho)
  have h2:bD s'.o (V.aB ((parts.toList.map fun p=>(p.1,s.ev p.2)).map (·.2)))=bD s.o (V.aB ((parts.toList.map fun p=>(p.1,s.ev p.2)).map (·.2))):=
   de fun id ah=>ho id (by rw[e]at ah;exact ew _ id ah)
  simp only[dc,h1,h2]
 case load t x=>
  rw[hv x (by simp[Op.operands])]
  cases hx:s.ev x<;>simp only[gq]<;>rw[ho _ (by simp[ec,hx,V.refs])]
 case store t x y=>
  rw[hv x (by simp[Op.operands]),hv y (by simp[Op.operands])]
  have h1:cJ s'.o (s.ev y)=cJ s.o (s.ev y):=bu _ fun id ah=>ho id (by simp[ec,ah])
  have h2:bD s'.o (s.ev y).ids=bD s.o (s.ev y).ids:=de fun id ah=>ho id (by simp[ec,eu _ _ ah])
  cases hx:s.ev x<;>simp only[jL]<;>rw[ho _ (by simp[ec,hx,V.refs])]
  simp only[h1,h2]
 case nilCheck x=>
  rw[hv x (by simp[Op.operands])]
  cases hx:s.ev x with
  |ptr id off=>simp only[ea];rw[ho _ (by simp[ec,hx,V.refs])]
  |func fn a b=>cases fn<;>rfl
  |_=>rfl
 case binOp op t x y yt=>
  rw[hv x (by simp[Op.operands]),hv y (by simp[Op.operands])]
  have h1:oC s'.o (s.ev x)=oC s.o (s.ev x):=qA _ fun id ah=>ho id (by simp[ec,ah])
  have h2:∀a b,yc P s'.o a b (s.ev x) (s.ev y)=yc P s.o a b (s.ev x) (s.ev y):=fun a b=>by
   have h3:∀id∈(s.ev x).refs,s'.o id=s.o id:=fun id ah=>ho id (by simp[ec,ah])
   have h4:=nU (s.ev x) h3
   have h5:=nV (s.ev x) h3
   unfold yc
   rw[h1,h4,h5]
  unfold bF jD
  simp only[h2]
 case slice t x lo hi mx=>
  rw[hv x (by simp[Op.operands])]
  have e1:lo.map s'.ev=lo.map s.ev:=by cases lo<;>simp[hv,Op.operands]
  have e2:hi.map s'.ev=hi.map s.ev:=by cases hi<;>simp[hv,Op.operands]
  have e3:mx.map s'.ev=mx.map s.ev:=by cases mx<;>simp[hv,Op.operands]
  rw[e1,e2,e3]
  have h3:∀id∈(s.ev x).refs,s'.o id=s.o id:=fun id ah=>ho id (by simp[ec,ah])
  have h1:cy s'.o (s.ev x)=cy s.o (s.ev x):=by unfold cy;rw[bu _ h3]
  have h2:bD s'.o (s.ev x).ids=bD s.o (s.ev x).ids:=de fun id ah=>h3 id (eu _ _ ah)
  have h4:p8 P s'.o t (s.ev x) (lo.map s.ev) (hi.map s.ev) (mx.map s.ev)=p8 P s.o t (s.ev x) (lo.map s.ev) (hi.map s.ev) (mx.map s.ev):=by
   cases hx:s.ev x with
   |osl id ep=>simp only[p8,h3 id (by simp[hx,V.refs])]
   |_=>rfl
  unfold jA iG
  simp only[h1,h2,h4,nY _ h3]
 case field t x f=>rw[hv x (by simp[Op.operands])]
 case typeAssert x xt t ok=>rw[hv x (by simp[Op.operands])]
 case makeMap t r=>cases r<;>rfl
 case lookup t m k ok=>
  rw[hv m (by simp[Op.operands]),hv k (by simp[Op.operands])]
  have h3:∀id∈(s.ev m).refs,s'.o id=s.o id:=fun id ah=>ho id (by simp[ec,ah])
  have h1:cJ s'.o (s.ev k)=cJ s.o (s.ev k):=bu _ fun id ah=>ho id (by simp[ec,ah])
  unfold iI
  simp only[h1,pt _ h3]
 case mapUpdate t m k v=>
  rw[hv m (by simp[Op.operands]),hv k (by simp[Op.operands]),hv v (by simp[Op.operands])]
  have h3:∀id∈(s.ev m).refs,s'.o id=s.o id:=fun id ah=>ho id (by simp[ec,ah])
  have h1:cJ s'.o (s.ev k)=cJ s.o (s.ev k):=bu _ fun id ah=>ho id (by simp[ec,ah])
  have h2:cJ s'.o (s.ev v)=cJ s.o (s.ev v):=bu _ fun id ah=>ho id (by simp[ec,ah])
  have h4:bD s'.o (s.ev v).ids=bD s.o (s.ev v).ids:=de fun id ah=>ho id (by simp[ec,eu _ _ ah])
  unfold eD
  simp only[h1,h2,h4,gr _ h3]
 case insert t m k v=>
  rw[hv m (by simp[Op.operands]),hv k (by simp[Op.operands]),hv v (by simp[Op.operands])]
  have h3:∀id∈(s.ev m).refs,s'.o id=s.o id:=fun id ah=>ho id (by simp[ec,ah])
  have h1:cJ s'.o (s.ev k)=cJ s.o (s.ev k):=bu _ fun id ah=>ho id (by simp[ec,ah])
  have h2:cJ s'.o (s.ev v)=cJ s.o (s.ev v):=bu _ fun id ah=>ho id (by simp[ec,ah])
  have h4:bD s'.o (s.ev v).ids=bD s.o (s.ev v).ids:=de fun id ah=>ho id (by simp[ec,eu _ _ ah])
  unfold eD
  simp only[h1,h2,h4,gr _ h3]
 case index t x i=>rw[hv x (by simp[Op.operands]),hv i (by simp[Op.operands])]
 case range t x=>
  rw[hv x (by simp[Op.operands])]
  exact nX _ fun id ah=>ho id (by simp[ec,ah])
 case next x str=>
  rw[hv x (by simp[Op.operands])]
  exact pv _ _ fun id ah=>ho id (by simp[ec,ah])
 case entry x=>
  rw[hv x (by simp[Op.operands])]
  exact nW _ fun id ah=>ho id (by simp[ec,ah])
 case unOp op t x=>rw[hv x (by simp[Op.operands])]
 case convert u t x=>rw[hv x (by simp[Op.operands])]
 case makeInterface t x=>rw[hv x (by simp[Op.operands])]
 case makeFunc fn first cap=>
  have h1:first.toList.map s'.ev=first.toList.map s.ev:=List.map_congr_left fun x hx=>hv x (by simp only[Op.operands];exact Array.mem_append.2 (.inl (Array.mem_toList_iff.1 hx)))
  have h2:cap.toList.map s'.ev=cap.toList.map s.ev:=List.map_congr_left fun x hx=>hv x (by simp only[Op.operands];exact Array.mem_append.2 (.inr (Array.mem_toList_iff.1 hx)))
  rw[h1,h2]
 case makeSlice t l c=>rw[hv l (by simp[Op.operands]),hv c (by simp[Op.operands])]
 case fieldAddr t x f=>
  rw[hv x (by simp[Op.operands])]
  simp only[dF]
  cases g9 P t f<;>simp only
  rw[kb _ _ (by simpa[ec]using ho)]
 case indexAddr t x i=>
  rw[hv x (by simp[Op.operands]),hv i (by simp[Op.operands])]
  have h1:∀q,gY s'.o (s.ev x) q=gY s.o (s.ev x) q:=fun q=>kb _ _ (by simpa[ec]using ho)
  simp only[dE,h1]
  cases hx:s.ev x with
  |osl id ep=>simp only[ho id (by simp[ec,hx,V.refs])]
  |d y=>cases y<;>rfl
  |_=>rfl
 case extract x i=>rw[hv x (by simp[Op.operands])]
 case call c=>
  obtain⟨vO,args,ts⟩:=c
  cases vO<;>simp only
  rename_i b
  unfold jq
  have hm:∀x∈args.toList,s'.ev x=s.ev x:=fun x hx=>hv x (by simp only[Op.operands,Call.operands];exact Array.mem_append.2 (.inr (Array.mem_toList_iff.1 hx)))
  have hr:∀x∈args.toList,∀id∈(s.ev x).refs,s'.o id=s.o id:=by
   intro x hx id ah
   refine ho id ?_
   simp only[ec]
   generalize args.toList=l at hx
   induction l with
   |nil=>cases hx
   |cons y l ih=>
    simp only[List.map_cons,V.bn,List.mem_append]
    rcases List.mem_cons.1 hx with rfl|hx
    ·exact .inl ah
    ·exact .inr (ih hx)
  split
  ·rename_i x ha
   rw[ha]at hm hr
   rw[hm x (by simp)]
   have h1:∀t,qw P t s'.o (s.ev x)=qw P t s.o (s.ev x):=fun t=>by simp only[qw,ka _ (hr x (by simp))]
   simp only[h1]
  ·rename_i x y ha
   rw[ha]at hm hr
   rw[hm x (by simp),hm y (by simp)]
   simp only[jn,ka _ (hr y (by simp))]
   cases mE P fr ts (s.ev x) (s.ev y)with
   |some r=>rfl
   |none=>
   dsimp only
   cases hx:s.ev x with
   |osl id ep=>simp only[hr x (by simp) id (by simp[hx,V.refs])]
   |_=>rfl
  ·rename_i x y ha
   rw[ha]at hm
   rw[hm x (by simp),hm y (by simp)]
  ·rename_i x y ha
   rw[ha]at hm
   rw[hm x (by simp),hm y (by simp)]
  ·rename_i x y z h;rw[hm x (by rw[h];simp),hm y (by rw[h];simp),hm z (by rw[h];simp)]
  ·rename_i x y ha
   rw[ha]at hm hr
   rw[hm x (by simp),hm y (by simp)]
   have h1:cy s'.o (s.ev y)=cy s.o (s.ev y):=by unfold cy;rw[bu _ (hr y (by simp))]
   have h2:bD s'.o (s.ev y).ids=bD s.o (s.ev y).ids:=de fun id ah=>hr y (by simp) id (eu _ _ ah)
   unfold mC
   simp only[h1,h2,nZ _ (hr x (by simp))]
  ·rename_i x y ha
   rw[ha]at hm hr
   rw[hm x (by simp),hm y (by simp)]
   have h1:cJ s'.o (s.ev y)=cJ s.o (s.ev y):=bu _ (hr y (by simp))
   have h2:=gr _ (hr x (by simp))
   simp only[iM,h1,h2]
  ·rename_i x ha
   rw[ha]at hm
   rw[hm x (by simp)]
  ·rfl
end
end Go.Proofs.YtbmnikpknlkbkaaGreat
namespace Go.Proofs.YtbmnikpknlkbkaaGreat
def aa.refs:aa->List Nat
 | .row cs=>V.bn cs
 | .loop _ _ env _ _ _ _ _=>V.bn env
 |_=>[]
def xy(R:List Nat)(o:Nat->aa):Nat->aa:=fun id=>if R.contains id=true then o id else .no
def ua(P:Program)(g:FuncId)(args:List V)(rd:List Nat)(o:Nat->aa)(out:R)(Δ:List (Nat×aa)):Prop:=
 eP P g/\∀ (o':Nat->aa) (us:Nat->Prop) (M:Nat->Prop) (φ:Place) (w:World) (vals:Array Value),(∀id∈rd,o' id=o id/\us id)->af M φ ⟨o',us⟩ w->V.aj (ad M φ ⟨o',us⟩) φ ⟨o',us⟩ w args vals.toList->
  Calls P g vals w fun e w'=>∃ai,af M ai ⟨put o' Δ,us⟩ w'/\Trans φ ⟨o',us⟩ w ai ⟨put o' Δ,us⟩ w'/\out.is (ad M ai ⟨put o' Δ,us⟩) w' e
def qC(P:Program)(g:FuncId)(args:List V)(rd:List Nat)(o:Nat->aa)(fr:Nat)(v:V)(Δ:List (Nat×aa)):Prop:=
 eP P g/\∀ (o':Nat->aa) (us:Nat->Prop) (M:Nat->Prop) (φ:Place) (w:World) (vals:Array Value),(∀id∈rd,o' id=o id/\us id)-> ¬us fr->af M φ ⟨o',us⟩ w->V.aj (ad M φ ⟨o',us⟩) φ ⟨o',us⟩ w args vals.toList->
  Calls P g vals w fun e w'=>∃ai,af M ai ⟨put o' Δ,fun id=>us id\/id=fr⟩ w'/\Trans φ ⟨o',us⟩ w ai ⟨put o' Δ,fun id=>us id\/id=fr⟩ w'/\∃val,e= .returned val/\V.den (ad M ai ⟨put o' Δ,fun id=>us id\/id=fr⟩) ai ⟨put o' Δ,fun id=>us id\/id=fr⟩ w' v val
mutual
theorem V.jt {B B':Nat->Prop}{φ ai:Place}{H H':Hp}{w:World}(hB:∀b, ¬B b-> ¬B' b):∀ (v:V) (val:Value),(∀id∈v.refs,H'.o id=H.o id/\ai id=φ id/\H'.us id)->V.den B φ H w v val->V.den B' ai H' w v val
 | .d x,val,_,h=>D.aq (w:=w) (w':=w) (fun b _ hn=>⟨rfl,hB b hn⟩) x val h
 | .b6,_,_,h=>h
 | .bL,_,_,_=>trivial
 | .cM,_,_,h=>h
 | .iA es,val,_,h=>⟨D.aq (w:=w) (w':=w) (fun b _ hn=>⟨rfl,hB b hn⟩) (.sl es) val h.1,h.2⟩
 | .agg cs,val,hr,h=>by
   obtain⟨a,rfl,h1,h2⟩:=h
   exact⟨a,rfl,V.dI hB cs _ (by simpa[V.refs]using hr) h1,h2⟩
 | .a8 cs,val,hr,h=>by
   obtain⟨a,rfl,h1⟩:=h
   exact⟨a,rfl,V.dI hB cs _ (by simpa[V.refs]using hr) h1⟩
 | .ptr id off,val,hr,h=>by
   obtain⟨a,b,c⟩:=hr id (by simp[V.refs])
   obtain⟨h0,h1,h2⟩:=h
   refine⟨h0,c,fun aL=> ?_⟩
   rw[a]at aL
   obtain⟨x,y,z⟩:=h2 aL
   exact⟨x,b.trans y,z⟩
 | .osl id ep,val,hr,h=>by
   obtain⟨a,b,c⟩:=hr id (by simp[V.refs])
   obtain⟨h0,h1,h2⟩:=h
   refine⟨h0,c,fun e he=> ?_⟩
   rw[a]at he
   obtain⟨x,y⟩:=h2 e he
   exact⟨x,fun heq=>(y heq).trans b.symm⟩
 | .pe id ep i sz off,val,hr,h=>by
   obtain⟨a,b,c⟩:=hr id (by simp[V.refs])
   obtain⟨h0,h1,h2⟩:=h
   refine⟨h0,c,fun e he=> ?_⟩
   rw[a]at he
   obtain⟨x,y⟩:=h2 e he
   refine⟨x,fun heq=> ?_⟩
   obtain⟨p,q,r,z,u⟩:=y heq
   exact⟨p,q,r,b.trans z,u⟩
 | .pp cs off,val,_,h=>by
   obtain⟨a,ev,h1,h2,h3,h5,h4⟩:=h
   exact⟨a,ev,h1,h2,D.aw (w:=w) (w':=w) (fun b _ hn=>⟨rfl,hB b hn⟩) cs ev h3,h5,h4.mono (w:=w) (w':=w) (fun b _ hn=>⟨rfl,hB b hn⟩)⟩
 | .func fn first cap,val,hr,h=>by
   obtain⟨f,c,rfl,h1,h2⟩:=h
   exact⟨f,c,rfl,V.dI hB first _ (fun id ah=>hr id (by simp[V.refs,ah])) h1,V.dI hB cap _ (fun id ah=>hr id (by simp[V.refs,ah])) h2⟩
 | .iface t x,val,hr,h=>by
   obtain⟨u,rfl,h⟩:=h
   exact⟨u,rfl,V.jt hB x u (by simpa[V.refs]using hr) h⟩
 | .mg id off n,val,hr,h=>by
   obtain⟨a,b,c⟩:=hr id (by simp[V.refs])
   obtain⟨h0,h1,h2⟩:=h
   refine⟨h0,c,fun aL=> ?_⟩
   rw[a]at aL
   obtain⟨x,y,z⟩:=h2 aL
   exact⟨x,b.trans y,z⟩
 | .mp id,val,hr,h=>by
   obtain⟨a,b,c⟩:=hr id (by simp[V.refs])
   obtain⟨h0,h1,h2⟩:=h
   refine⟨h0,c,fun aL=> ?_⟩
   rw[a]at aL
   exact(h2 aL).trans b.symm
 | .g8 id,val,hr,h=>by
   obtain⟨a,b,c⟩:=hr id (by simp[V.refs])
   obtain⟨h0,h1,h2⟩:=h
   refine⟨h0,c,fun aL=> ?_⟩
   rw[a]at aL
   obtain⟨x,y,z⟩:=h2 aL
   exact⟨x,b.trans y,z⟩
theorem V.dI {B B':Nat->Prop}{φ ai:Place}{H H':Hp}{w:World}(hB:∀b, ¬B b-> ¬B' b):∀ (vs:List V) (vals:List Value),(∀id∈V.bn vs,H'.o id=H.o id/\ai id=φ id/\H'.us id)->V.aj B φ H w vs vals->V.aj B' ai H' w vs vals
 |[],_,_,h=>h
 |v::vs,_,hr,h=>by
  obtain⟨u,us,rfl,h1,h2⟩:=h
  exact⟨u,us,rfl,V.jt hB v u (fun id ah=>hr id (by simp[V.bn,ah])) h1,V.dI hB vs us (fun id ah=>hr id (by simp[V.bn,ah])) h2⟩
end
theorem sF{env:List V}{i id:Nat}(h:id∈(eX env i).refs):id∈V.bn env:=by
 unfold eX at h
 induction env generalizing i with
 |nil=>simp[V.refs]at h
 |cons v env ih=>
  cases i with
  |zero=>simp only[List.getD_cons_zero]at h;simp[V.bn,h]
  |succ i=>simp only[List.getD_cons_succ]at h;simp[V.bn,ih h]
theorem au.refs {M M':Nat->Prop}{φ ai:Place}{H H':Hp}{w:World}{id:Nat}(hB:∀b, ¬ad M φ H b-> ¬ad M' ai H' b)(ho:H'.o id=H.o id)(bG:ai id=φ id)
 (hr:∀j∈(H.o id).refs,H'.o j=H.o j/\ai j=φ j/\H'.us j) (h:au M φ H w id):au M' ai H' w id:=by
 have hd:∀b,aS w b-> ¬ad M φ H b->w.heap[b]? =w.heap[b]? /\ ¬ad M' ai H' b:=fun b _ hn=>⟨rfl,hB b hn⟩
 unfold au at*
 rw[ho]
 cases hx:H.o id with
 |no=>trivial
 |row cs=>
  simp only[hx]at h|-
  obtain⟨b,cg,ty,h1,h2,h3,h4⟩:=h
  exact⟨b,cg,ty,bG.trans h1,h2,V.dI hB cs _ (fun j hj=>hr j (by rw[hx];exact hj)) h3,h4⟩
 |arr ep ty sz es=>
  simp only[hx]at h|-
  obtain⟨h0,xs,h1,evs,h2,h3,h4⟩:=h
  exact⟨h0,xs,by rw[bG];exact h1,evs,h2,h3,D.aw hd es evs h4⟩
 |ko ep es=>
  simp only[hx]at h|-
  rw[bG]
  exact D.aq hd (.sl es) _ h
 |map kt vt l=>
  simp only[hx]at h|-
  obtain⟨b,es,clock,h1,h2,h4,h3⟩:=h
  exact⟨b,es,clock,bG.trans h1,h2,h4,ao.mono hd l _ h3⟩
 |dA l=>
  simp only[hx]at h|-
  rw[bG]
  exact D.aq hd (.mp _ _) _ h
 |kX l last=>
  simp only[hx]at h|-
  obtain⟨b,h1,h2⟩:=h
  exact⟨b,bG.trans h1,h2.mono hd rfl⟩
 |ot s pos=>
  simp only[hx]at h|-
  obtain⟨b,h1,h2⟩:=h
  exact⟨b,bG.trans h1,h2⟩
 |loop nf n env ps iB fL st rT=>
  simp only[hx]at h|-
  obtain⟨b,r,h1,h2,h0,h3,h4,h5,h6,h7,h8,h9⟩:=h
  exact⟨b,r,bG.trans h1,h2,h0,h3,h4,h5,h6,h7,h8,fun i=>V.jt hB _ _ (fun j hj=>hr j (by rw[hx];exact sF hj)) (h9 i)⟩
section
variable {P:Program}
theorem qD{o o':Nat->aa}{Δ:List (Nat×aa)}{id:Nat}(h:o id=o' id):put o Δ id=put o' Δ id:=rq h
where rq {o o':Nat->aa}:∀ {Δ:List (Nat×aa)} {id:Nat},o id=o' id->put o Δ id=put o' Δ id
 |[],_,h=>h
 |x::Δ,id,h=>by
  simp only[put,List.foldl_cons]
  refine rq (Δ:=Δ) (o:=cN o x.1 x.2) (o':=cN o' x.1 x.2) ?_
  simp only[ak]
  split
  ·rfl
  ·exact h
theorem n3{o:Nat->aa}:∀ {Δ:List (Nat×aa)} {id:Nat},(∀x∈Δ,x.1≠id)->put o Δ id=o id
 |[],_,_=>rfl
 |x::Δ,id,h=>by
  have:=n3 (o:=cN o x.1 x.2) (Δ:=Δ) (id:=id) (fun y hy=>h y (by simp[hy]))
  simp only[put,List.foldl_cons]at this|-
  rw[this];simp[Ne.symm (h x (by simp))]
theorem ua.im {g:FuncId}{args:List V}{rd:List Nat}{o:Nat->aa}{nx:Nat}{out:R}{Δ:List (Nat×aa)}(ow:∀id∈rd,id<nx)(bS:∀id∈V.bn args,id∈rd)(kA:∀id∈rd,∀j∈(o id).refs,j∈rd)(yu:∀x∈Δ,x.1∈rd)(ET:∀x∈Δ,∀j∈x.2.refs,j∈rd)
 (h:jJ P g args (xy rd o) nx
  (fun v o1 _=>(∀id∈rd,o1 id=put o Δ id)/\∃vs rs,v=(match vs with|[v]=>v|vs=> .a8 vs)/\aQ o1 vs=some rs/\out= .ret rs/\∀id∈V.aB vs,id∉rd)
  (fun v o1 _=>(∀id∈rd,o1 id=put o Δ id)/\∃x,cJ o1 v=some x/\out= .aH x/\∀id∈v.ids,id∉rd)):ua P g args rd o out Δ:=by
 refine⟨h.1,fun o' us M φ w vals ho hH hd=> ?_⟩
 let M1:Nat->Prop:=fun b=>M b\/∃id,id∉rd/\(o' id).live=true/\cI (φ id)=some b
 let HR:Hp:=hp (xy rd o) nx
 have lM:∀id,id∈rd->xy rd o id=o' id:=fun id ah=>by simp[xy,ah,(ho id ah).1]
 have ke:∀id,id∉rd->xy rd o id= .no:=fun id ah=>by simp[xy,ah]
 have hB:∀b,ad M1 φ HR b↔ad M φ ⟨o',us⟩ b:=by
  intro b
  constructor
  ·rintro((h|⟨id,h1,h2,h3⟩)|⟨id,h1,h2⟩)
   ·exact .inl h
   ·exact .inr ⟨id,h2,h3⟩
   ·by_cases ah:id∈rd
    ·exact .inr ⟨id,by show(o' id).live=true;rw[<- lM id ah];exact h1,h2⟩
    ·have:HR.o id= .no:=ke id ah
     rw[this]at h1;cases h1
  ·rintro(h|⟨id,h1,h2⟩)
   ·exact .inl (.inl h)
   ·by_cases ah:id∈rd
    ·exact .inr ⟨id,by show(xy rd o id).live=true;rw[lM id ah];exact h1,h2⟩
    ·exact .inl (.inr ⟨id,ah,h1,h2⟩)
 have w8:∀id∈rd,HR.o id=o' id/\φ id=φ id/\HR.us id:=fun id ah=>⟨lM id ah,rfl,ow id ah⟩
 have Kx:af M1 φ HR w:=by
  refine⟨fun id=> ?_,fun id hn=> ?_,fun i j b hi hj bi bj=> ?_,fun b hb=> ?_,fun b hb=> ?_⟩
  ·by_cases ah:id∈rd
   ·refine au.refs (H:=⟨o',us⟩) (M:=M) (φ:=φ) (fun b hn hb=>hn ((hB b).1 hb)) (lM id ah) rfl (fun j hj=>w8 j ?_) (hH.ok id)
    have:o' id=o id:=(ho id ah).1
    exact kA id ah j (by rw[<- this];exact hj)
   ·unfold au
    rw[show HR.o id= .no from ke id ah];trivial
  ·exact ke id fun ah=>hn (ow id ah)
  ·have live:∀i,(HR.o i).live=true->i∈rd/\(o' i).live=true:=fun i hi=>by
    by_cases ah:i∈rd
    ·exact⟨ah,by rw[<- lM i ah];exact hi⟩
    ·rw[show HR.o i= .no from ke i ah]at hi;cases hi
   exact hH.apart i j b (live i hi).2 (live j hj).2 bi bj
  ·obtain⟨id,h1,h2⟩:=hb
   have ah:id∈rd:=by
    by_cases ah:id∈rd
    ·exact ah
    ·rw[show HR.o id= .no from ke id ah]at h1;cases h1
   rw[show HR.o id=o' id from lM id ah]at h1
   obtain⟨k1,k2⟩:=hH.ours b ⟨id,h1,h2⟩
   refine⟨?_,k2⟩
   rintro(hM|⟨j,j1,j2,j3⟩)
   ·exact k1 hM
   ·exact j1 (hH.apart j id b j2 h1 j3 h2 ▸ ah)
  ·rcases hb with hb|⟨id,h1,h2,h3⟩
   ·exact hH.oy b hb
   ·exact(hH.ours b ⟨id,h2,h3⟩).2
 have Ky:V.aj (ad M1 φ HR) φ HR w args vals.toList:=V.dI (H:=⟨o',us⟩) (fun b hn hb=>hn ((hB b).1 hb)) _ _ (fun id ah=>w8 id (bS id ah)) hd
 refine(h.2 M1 φ w vals Kx Ky).mono ?_
 rintro e w' ⟨dO,o1,qE,v,k1,k2,k3⟩
 have main:(∀id∈rd,o1 id=put o Δ id)->∃ai,af M ai ⟨put o' Δ,us⟩ w'/\Trans φ ⟨o',us⟩ w ai ⟨put o' Δ,us⟩ w'/\∀b,ad M ai ⟨put o' Δ,us⟩ b->M1 b\/∃id∈rd,(o1 id).live=true/\cI (dO id)=some b:=by
  intro iU
  have rf:∀id∈rd,put o' Δ id=o1 id:=fun id ah=>(qD (ho id ah).1).trans (iU id ah).symm
  have sZ:∀id,id∉rd->put o' Δ id=o' id:=fun id ah=>n3 fun x hx e=>ah (e ▸ yu x hx)
  let sx:Place:=fun id=>if id∈rd then dO id else φ id
  have n4:∀id∈rd,sx id=dO id:=fun id ah=>if_pos ah
  have pw:∀id,id∉rd->sx id=φ id:=fun id ah=>if_neg ah
  let H2:Hp:=⟨put o' Δ,us⟩
  have bP:∀b,bc sx H2 b->(∃id∈rd,(o1 id).live=true/\cI (dO id)=some b)\/∃id,id∉rd/\(o' id).live=true/\cI (φ id)=some b:=by
   rintro b ⟨id,h1,h2⟩
   by_cases ah:id∈rd
   ·exact .inl ⟨id,ah,by rw[<- rf id ah];exact h1,by rw[<- n4 id ah];exact h2⟩
   ·exact .inr ⟨id,ah,by rw[<- sZ id ah];exact h1,by rw[<- pw id ah];exact h2⟩
  have HE:∀b,ad M sx H2 b->ad M1 dO (hp o1 qE) b:=by
   rintro b (hb|hb)
   ·exact .inl (.inl hb)
   ·rcases bP b hb with⟨id,h1,h2,h3⟩|⟨id,h1,h2,h3⟩
    ·exact .inr ⟨id,h2,h3⟩
    ·exact .inl (.inr ⟨id,h1,h2,h3⟩)
  have Bv:bU φ ⟨o',us⟩ sx H2:=by
   refine⟨fun id h=>h,fun id hu hr=> ?_,fun id e' hu he=> ?_⟩
   ·by_cases ah:id∈rd
    ·rw[show H2.o id=o1 id from rf id ah]at hr
     obtain⟨a,b⟩:=k2.rel.row id (ow id ah) hr
     rw[show HR.o id=o' id from lM id ah]at a
     exact⟨a,(n4 id ah).trans b⟩
    ·rw[show H2.o id=o' id from sZ id ah]at hr
     exact⟨hr,pw id ah⟩
   ·by_cases ah:id∈rd
    ·rw[show H2.o id=o1 id from rf id ah]at he
     obtain⟨e0,a,b,c⟩:=k2.rel.ep id e' (ow id ah) he
     rw[show HR.o id=o' id from lM id ah]at a
     exact⟨e0,a,b,fun heq=>(n4 id ah).trans (c heq)⟩
    ·rw[show H2.o id=o' id from sZ id ah]at he
     exact⟨e',he,Nat.le_refl _,fun _=>pw id ah⟩
  have ou:∀b,aS w b-> ¬ad M φ ⟨o',us⟩ b->w'.heap[b]? =w.heap[b]? /\ ¬ad M sx H2 b:=by
   intro b hc hn
   obtain⟨a,c⟩:=k2.blocks (M:=M1) b hc (fun hb=>hn ((hB b).1 hb))
   exact⟨a,fun hb=>c (HE b hb)⟩
  have nP:∀b,b<w.heap.size-> ¬bc φ HR b->w'.heap[b]? =w.heap[b]? :=fun b hb hl=>k2.aU.block b hb hl
  have ht:Trans φ ⟨o',us⟩ w sx H2 w':=by
   refine⟨⟨k2.aU.os,k2.aU.tape,k2.aU.output,k2.aU.size,fun b hb hl=>nP b hb fun⟨id,h1,h2⟩=>hl ?_⟩,fun b hb=> ?_,Bv⟩
   ·by_cases ah:id∈rd
    ·exact⟨id,by show(o' id).live=true;rw[<- lM id ah];exact h1,h2⟩
    ·rw[show HR.o id= .no from ke id ah]at h1;cases h1
   ·rcases bP b hb with⟨id,h1,h2,h3⟩|⟨id,h1,h2,h3⟩
    ·rcases k2.grow b ⟨id,h2,h3⟩with⟨j,j1,j2⟩|q8
     ·by_cases ah:j∈rd
      ·exact .inl ⟨j,by show(o' j).live=true;rw[<- lM j ah];exact j1,j2⟩
      ·rw[show HR.o j= .no from ke j ah]at j1;cases j1
     ·exact .inr q8
    ·exact .inl ⟨id,h2,h3⟩
  refine⟨sx,⟨fun id=> ?_,fun id hn=> ?_,fun i j b hi hj bi bj=> ?_,fun b hb=> ?_,fun b hb=>Nat.lt_of_lt_of_le (hH.oy b hb) k2.aU.size⟩,ht,fun b hb=> ?_⟩
  ·by_cases ah:id∈rd
   ·refine au.refs (H:=hp o1 qE) (M:=M1) (φ:=dO) (fun b hn hb=>hn (HE b hb)) (rf id ah) (n4 id ah) (fun j hj=> ?_) (k1.ok id)
    have sW:j∈rd:=by
     have e1:o1 id=put o Δ id:=iU id ah
     have hj:j∈(put o Δ id).refs:=by rw[<- e1];exact hj
     have key:∀ (rr:List (Nat×aa)) (q:Nat->aa),(∀x∈rr,∀j∈x.2.refs,j∈rd)->(∀j∈(q id).refs,j∈rd)->∀j∈(put q rr id).refs,j∈rd:=by
      intro rr
      induction rr with
      |nil=>intro q _ h2;exact h2
      |cons x rr ih=>
       intro q h1 h2
       simp only[put,List.foldl_cons]
       refine ih (cN q x.1 x.2) (fun y hy=>h1 y (by simp[hy])) ?_
       simp only[ak]
       split
       ·exact h1 x (by simp)
       ·exact h2
     exact key Δ o ET (kA id ah) j hj
    exact⟨rf j sW,n4 j sW,(ho j sW).2⟩
   ·exact au.oE ou Bv (sZ id ah) (pw id ah) (fun hl b hb=>nP b (hH.ours b ⟨id,hl,hb⟩).2 fun⟨j,j1,j2⟩=>by
     by_cases hj:j∈rd
     ·rw[show HR.o j=o' j from lM j hj]at j1
      exact ah (hH.apart id j b hl j1 hb j2 ▸ hj)
     ·rw[show HR.o j= .no from ke j hj]at j1;cases j1) (hH.ok id)
  ·have ah:id∉rd:=fun ah=>hn (ho id ah).2
   exact(sZ id ah).trans (hH.fresh id hn)
  ·by_cases e1:i∈rd<;>by_cases e2:j∈rd
   ·refine k1.apart i j b ?_ ?_ (by rw[<- n4 i e1];exact bi) (by rw[<- n4 j e2];exact bj)
    ·show(o1 i).live=true;rw[<- rf i e1];exact hi
    ·show(o1 j).live=true;rw[<- rf j e2];exact hj
   ·exfalso
    refine(k1.ours b ⟨i,by show(o1 i).live=true;rw[<- rf i e1];exact hi,by rw[<- n4 i e1];exact bi⟩).1 (.inr ⟨j,e2,by rw[<- sZ j e2];exact hj,by rw[<- pw j e2];exact bj⟩)
   ·exfalso
    refine(k1.ours b ⟨j,by show(o1 j).live=true;rw[<- rf j e2];exact hj,by rw[<- n4 j e2];exact bj⟩).1 (.inr ⟨i,e1,by rw[<- sZ i e1];exact hi,by rw[<- pw i e1];exact bi⟩)
   ·exact hH.apart i j b (by show(o' i).live=true;rw[<- sZ i e1];exact hi) (by show(o' j).live=true;rw[<- sZ j e2];exact hj) (by rw[<- pw i e1];exact bi) (by rw[<- pw j e2];exact bj)
  ·rcases bP b hb with⟨id,h1,h2,h3⟩|⟨id,h1,h2,h3⟩
   ·obtain⟨a,c⟩:=k1.ours b ⟨id,h2,h3⟩
    exact⟨fun hM=>a (.inl hM),c⟩
   ·obtain⟨a,c⟩:=hH.ours b ⟨id,h2,h3⟩
    exact⟨a,Nat.lt_of_lt_of_le c k2.aU.size⟩
  ·rcases hb with hb|hb
   ·exact .inl (.inl hb)
   ·rcases bP b hb with h|h
    ·exact .inr h
    ·exact .inl (.inr h)
 have res:∀ (vs:List V) (xs:List D) (us':List Value),(∀id∈rd,o1 id=put o Δ id)->aQ o1 vs=some xs->(∀id∈V.aB vs,id∉rd)->V.aj (ad M1 dO (hp o1 qE)) dO (hp o1 qE) w' vs us'->
  ∃ai,af M ai ⟨put o' Δ,us⟩ w'/\Trans φ ⟨o',us⟩ w ai ⟨put o' Δ,us⟩ w'/\D.aj (ad M ai ⟨put o' Δ,us⟩) w' xs us':=by
  intro vs xs us' iU h1 EU h2
  obtain⟨f1,f2,f3,f4,f5⟩:=bK k1 (V.aB vs) (aW vs _ h2)
  have h3:=bz f1 vs xs us' f3 h1 (V.aw f2 _ _ h2)
  obtain⟨ai,m1,m2,m3⟩:=main iU
  refine⟨ai,m1,m2,D.aw (w:=w') (w':=w') (fun b _ hn=>⟨rfl,fun hb=>hn ?_⟩) xs us' h3⟩
  rcases m3 b hb with hb|⟨id,i1,i2,i3⟩
  ·exact .inl hb
  ·exact .inr ⟨id,by rw[f4 id fun hm=>EU id hm i1];exact i2,i3⟩
 cases e with
 |outgrown=>exact k3.elim
 |panicked ch=>
  obtain⟨val,rfl,g1,iU,x,g2,rfl,g3⟩:=k3
  obtain⟨ai,m1,m2,m3⟩:=res [v] [x] [val] iU (by simp[aQ,g2]) (by simpa[V.aB]using g3) ⟨val,[],rfl,g1,rfl⟩
  obtain⟨u,us2,he,h2,_⟩:=m3
  simp at he;obtain⟨rfl,rfl⟩:=he
  exact⟨ai,m1,m2,val,rfl,h2⟩
 |returned val=>
  obtain⟨g1,iU,vs,rs,rfl,g2,rfl,g3⟩:=k3
  match vs,g1,g2,g3 with
  |[],g1,g2,g3=>
   obtain⟨arr,rfl,hv⟩:=g1
   simp only[aQ,Option.some.injEq]at g2;subst g2
   obtain⟨ai,m1,m2,m3⟩:=res [] [] arr.toList iU rfl (by simp[V.aB]) hv
   exact⟨ai,m1,m2,arr,rfl,m3⟩
  |[v],g1,g2,g3=>
   obtain⟨ai,m1,m2,m3⟩:=res [v] rs [val] iU g2 g3 ⟨val,[],rfl,g1,rfl⟩
   refine⟨ai,m1,m2, ?_⟩
   cases rs with
   |nil=>cases m3
   |cons x l=>
    obtain⟨u,us2,he,h2,h3⟩:=m3
    simp at he;obtain⟨rfl,rfl⟩:=he
    cases l with
    |nil=>exact h2
    |cons y l=>obtain⟨_,_,h,_⟩:=h3;cases h
  |v::v2::l,g1,g2,g3=>
   obtain⟨arr,rfl,hv⟩:=g1
   obtain⟨ai,m1,m2,m3⟩:=res (v::v2::l) rs arr.toList iU g2 g3 hv
   refine⟨ai,m1,m2, ?_⟩
   have hl:=D.ag _ _ m3
   have Bt:=V.ag _ _ hv
   match rs,hl,m3 with
   |[],hl,_=>rw[Bt]at hl;simp at hl
   |[x],hl,_=>rw[Bt]at hl;simp at hl
   |x::y::l,_,m3=>exact⟨arr,rfl,m3⟩
end
end Go.Proofs.YtbmnikpknlkbkaaGreat
namespace Go.Proofs.YtbmnikpknlkbkaaGreat
inductive cH where
 |skip|val (v:V) (Δ:List (Nat×aa)) (rd:List Nat)|aH (v:V) (ws rd:List Nat)|cI
 deriving Inhabited
def cH.ok:cH->Bool
 | .skip| .val .. =>true
 |_=>false
def me(dst:Option Tmp)(x:cH)(s:S):S:=
 match x with
 | .skip=>⟨ay s.env dst (.a8 []),s.o,s.nx⟩
 | .val v Δ _=>⟨ay s.env dst v,put s.o Δ,s.nx⟩
 | .aH .. | .cI=>⟨ay s.env dst .bL,s.o,s.nx⟩
def eS:cH->List Nat
 | .val _ Δ _=>Δ.map (·.1)
 |_=>[]
def my:cH->List Nat
 | .val _ _ rd=>rd
 | .aH _ _ rd=>rd
 |_=>[]
def Bw(P:Program)(g:FuncId)(ds:List D)(v:V):Prop:=
 eP P g/\∀ (M:Nat->Prop) (w:World) (vals:Array Value),(∀b,M b->b<w.heap.size)->D.aj M w ds vals.toList->
  Calls P g vals w fun e w'=>cp (fun _=>False) w w'/\∃val,e= .returned val/\∀φ H,V.den M φ H w' v val
theorem Bw.im {P:Program}{g:FuncId}{ds:List D}{v:V}(hr:v.refs=[])(h:jJ P g (ds.map .d) (fun _=> .no) 0 (fun v' _ _=>v'=v) (fun _ _ _=>False)):Bw P g ds v:=by
 refine⟨h.1,fun M w vals hM hd=> ?_⟩
 let a6:Place:=fun _=> .nilFunc
 have nP:∀b, ¬bc a6 (hp (fun _=> .no) 0) b:=by rintro b ⟨id,hl,_⟩;simp[hp,aa.live]at hl
 refine(h.2 M a6 w vals (gO a6 hM) ((V.aV _ _).2 (D.aw (w:=w) (w':=w) (B:=M) (fun b _ hB=>⟨rfl,fun h=>h.elim hB (nP b)⟩) _ _ hd))).mono ?_
 rintro e w' ⟨ai,o',nx',v',k1,k2,k3⟩
 refine⟨⟨k2.aU.os,k2.aU.tape,k2.aU.output,k2.aU.size,fun k hk _=>k2.aU.block k hk (nP k)⟩, ?_⟩
 cases e with
 |outgrown=>exact k3.elim
 |panicked ch=>obtain⟨_,_,_,h⟩:=k3;exact h.elim
 |returned val=>
  obtain⟨g1,rfl⟩:=k3
  exact⟨val,rfl,fun φ H=>V.jt (B:=ad M ai (hp o' nx')) (φ:=ai) (H:=hp o' nx') (fun b hb hm=>hb (.inl hm)) v' val (fun id ah=>by rw[hr]at ah;cases ah) g1⟩
def m7(P:Program)(s:S)(fr:Nat)(op:Op)(v:V)(Δ:List (Nat×aa))(rd:List Nat):Prop:=
 ((∃nS,dG P s fr op=some (v,Δ,nS))/\rd=ec s op)\/
 (∃c f g first cap,op= .call c/\c.callee= .value f/\s.ev f= .func (.func g) first cap/\
  ((∃ds rs,aQ s.o (first++c.args.toList.map s.ev++cap)=some ds/\c0 P g ds (.ret rs)/\v=fP rs/\rd=ec s op/\
    (Δ=bD s.o (V.aB (first++c.args.toList.map s.ev++cap))\/D.fb rs=true/\Δ=[]))\/
   (∃rs,ua P g (first++c.args.toList.map s.ev++cap) rd s.o (.ret rs) Δ/\v=fP rs/\∀id∈rd,id<s.nx)\/
   (∃ds,aQ s.o (first++c.args.toList.map s.ev++cap)=some ds/\Bw P g ds v/\rd=ec s op/\Δ=bD s.o (V.aB (first++c.args.toList.map s.ev++cap)))\/
   (qC P g (first++c.args.toList.map s.ev++cap) rd s.o fr v Δ/\∀id∈rd,id<s.nx)))
def px(P:Program)(s:S)(op:Op)(v:V)(ws rd:List Nat):Prop:=
 ∃c f g first cap,op= .call c/\c.callee= .value f/\s.ev f= .func (.func g) first cap/\
  ((∃ds x,aQ s.o (first++c.args.toList.map s.ev++cap)=some ds/\c0 P g ds (.aH x)/\x.flat=true/\v= .d x/\rd=ec s op/\ws=[])\/
   (∃x Δ,ua P g (first++c.args.toList.map s.ev++cap) rd s.o (.aH x) Δ/\v= .d x/\ws=Δ.map (·.1)/\∀id∈rd,id<s.nx))
def br(s:S)(gd:Option (Nat×Bool))(b:Bool):Prop:=
 match gd with
 |none=>b=true
 |some (d,want)=>match s.env d with
  | .d (.bool c)=>b=(c==want)
  | .a8 []=>b=false
  |_=>False
def xz(P:Program)(s:S)(fr:Nat)(o:aT)(x:cH):Prop:=
 match x with
 | .skip=>br s o.gd false
 | .val v Δ rd=>br s o.gd true/\m7 P s fr o.op v Δ rd
 | .aH v ws rd=>br s o.gd true/\px P s o.op v ws rd
 | .cI=>True
def cm(oc:Nat->aT)(ac:Nat->cH)(E:Nat->Bool)(s:S):Nat->S
 |0=>s
 |k+1=>if E k then me (oc k).dst (ac k) (cm oc ac E s k)else cm oc ac E s k
structure Compat (oc:Nat->aT) (ac:Nat->cH) (R:Nat->List Nat) (i j:Nat):Prop where
 di:∀d,(oc i).dst=some d->d∉cD (oc j)
 dj:∀d,(oc j).dst=some d->d∉cD (oc i)
 wi:∀id∈eS (ac i),id∉R j/\id∉eS (ac j)
 wj:∀id∈eS (ac j),id∉R i
section
variable {P:Program}{oc:Nat->aT}{ac:Nat->cH}{s:S}{n:Nat}{E:Nat->Bool}{R:Nat->List Nat}{pr:Nat->Nat->Prop}
theorem qF{env:Nat->V}{dst:Option Tmp}{v:V}{t:Nat}(h:∀d,dst=some d->d≠t):ay env dst v t=env t:=by
 cases dst with
 |none=>rfl
 |some d=>simp only[ay,ak];rw[if_neg (fun e=>h d rfl e.symm)]
theorem df{o:Nat->aa}:∀ {Δ:List (Nat×aa)} {id:Nat},id∉Δ.map (·.1)->put o Δ id=o id
 |[],_,_=>rfl
 |x::Δ,id,h=>by
  simp only[List.map_cons,List.mem_cons,not_or]at h
  have:=df (o:=cN o x.1 x.2) (Δ:=Δ) h.2
  simp only[put,List.foldl_cons]at this|-
  rw[this];simp[h.1]
theorem n5{o o':Nat->aa}:∀ {Δ:List (Nat×aa)} {id:Nat},id∈Δ.map (·.1)\/o id=o' id->put o Δ id=put o' Δ id
 |[],_,h=>by rcases h with h|h;· simp at h
             ·exact h
 |x::Δ,id,h=>by
  simp only[put,List.foldl_cons]
  refine n5 (Δ:=Δ) (o:=cN o x.1 x.2) (o':=cN o' x.1 x.2) ?_
  simp only[List.map_cons,List.mem_cons]at h
  simp only[ak]
  by_cases e:id=x.1
  ·right;simp[e]
  ·rcases h with(h|h)|h
   ·exact absurd h e
   ·exact .inl h
   ·right;simp[e,h]
theorem eT{dst:Option Tmp}{x:cH}{t:Nat}(h:∀d,dst=some d->d≠t):(me dst x s).env t=s.env t:=by
 cases x<;>exact qF h
theorem gu{dst:Option Tmp}{x:cH}{id:Nat}(h:id∉eS x):(me dst x s).o id=s.o id:=by
 cases x with
 |val v Δ rd=>exact df h
 |_=>rfl
theorem n6{dst:Option Tmp}{x:cH}{s':S}{t:Nat}(h:s.env t=s'.env t):(me dst x s).env t=(me dst x s').env t:=by
 cases x<;>cases dst<;>simp only[me,ay,ak]<;>first|exact h|(split<;>first|rfl|exact h)
theorem qG{dst:Option Tmp}{x:cH}{s':S}{id:Nat}(h:s.o id=s'.o id):(me dst x s).o id=(me dst x s').o id:=by
 cases x with
 |val v Δ rd=>exact n5 (.inr h)
 |_=>exact h
theorem put_comm{o:Nat->aa}{Δ rr:List (Nat×aa)}(h:∀id∈Δ.map (·.1),id∉rr.map (·.1)):put (put o Δ) rr=put (put o rr) Δ:=by
 funext id
 by_cases h1:id∈Δ.map (·.1)
 ·rw[df (h id h1)]
  exact n5 (.inl h1)
 ·rw[df (Δ:=Δ) h1]
  by_cases h2:id∈rr.map (·.1)
  ·exact n5 (.inl h2)
  ·rw[df h2,df h2,df h1]
theorem m8{env:Nat->V}{d d':Option Tmp}{v v':V}(h:∀t,d=some t->d'≠some t):ay (ay env d v) d' v'=ay (ay env d' v') d v:=by
 cases d with
 |none=>rfl
 |some t=>
  cases d' with
  |none=>rfl
  |some t'=>
   have iT:t'≠t:=fun e=>h t rfl (by rw[e])
   funext i
   simp only[ay,ak]
   by_cases e1:i=t<;>by_cases e2:i=t'
   ·exact absurd (e2.symm.trans e1) iT
   all_goals simp[e1,e2]
   ·intro e;exact absurd e.symm iT
   ·intro e;exact absurd e iT
theorem ub{d d':Option Tmp}{x x':cH}(hd:∀t,d=some t->d'≠some t)(hw:∀id∈eS x,id∉eS x'):me d x (me d' x' s)=me d' x' (me d x s):=by
 cases x<;>cases x'<;>simp only[me]<;>first
  |rw[m8 hd,put_comm hw]
  |rw[m8 hd]
def n7(n:Nat)(pr:Nat->Nat->Prop)(E:Nat->Bool):Prop:=∀k,k<n->E k=true->∀j,pr k j->E j=true
theorem xA(_:∀k,k<n->∀j,pr k j->j<k)(hc:∀i j,i<j->j<n-> ¬pr j i->Compat oc ac R i j)(hE:n7 n pr E){i:Nat}(hi:i<n)(fR:E i=false)(uc:∀j,pr i j->E j=true):
 (∀t∈cD (oc i),(cm oc ac E s n).env t=(cm oc ac (fun _=>true) s i).env t)/\(∀id∈R i,(cm oc ac E s n).o id=(cm oc ac (fun _=>true) s i).o id):=by
 have a:∀k,k<=i->(∀t∈cD (oc i),(cm oc ac E s k).env t=(cm oc ac (fun _=>true) s k).env t)/\(∀id∈R i,(cm oc ac E s k).o id=(cm oc ac (fun _=>true) s k).o id):=by
  intro k
  induction k with
  |zero=>intro _;exact⟨fun _ _=>rfl,fun _ _=>rfl⟩
  |succ k ih=>
   intro hk
   obtain⟨h1,h2⟩:=ih (by omega)
   simp only[cm,if_true]
   by_cases dw:E k=true
   ·simp only[dw,if_true]
    exact⟨fun t ht=>n6 (h1 t ht),fun id ah=>qG (h2 id ah)⟩
   ·have xk: ¬pr i k:=fun hm=>dw (uc k hm)
    have c:=hc k i (by omega) hi xk
    simp only[dw]
    refine⟨fun t ht=> ?_,fun id ah=> ?_⟩
    ·rw[eT fun d hd e=>c.di d hd (e ▸ ht)];exact h1 t ht
    ·rw[gu fun hm=>(c.wi id hm).1 ah];exact h2 id ah
 have b:∀k,i<=k->k<=n->(∀t∈cD (oc i),(cm oc ac E s k).env t=(cm oc ac (fun _=>true) s i).env t)/\(∀id∈R i,(cm oc ac E s k).o id=(cm oc ac (fun _=>true) s i).o id):=by
  intro k vU
  induction vU with
  |refl=>intro _;exact a i (Nat.le_refl _)
  | @step k vU ih=>
    intro hk
    have vU:i<=k:=vU
    obtain⟨h1,h2⟩:=ih (by omega)
    simp only[cm]
    by_cases dw:E k=true
    ·have iT:i≠k:=fun e=>by rw[e,dw]at fR;cases fR
     have xk: ¬pr k i:=fun hm=>by have:=hE k (by omega) dw i hm;rw[fR]at this;cases this
     have c:=hc i k (by omega) (by omega) xk
     simp only[dw,if_true]
     refine⟨fun t ht=> ?_,fun id ah=> ?_⟩
     ·rw[eT fun d hd e=>c.dj d hd (e ▸ ht)];exact h1 t ht
     ·rw[gu fun hm=>c.wj id hm ah];exact h2 id ah
    ·simp only[dw];exact⟨h1,h2⟩
 exact b n (by omega) (Nat.le_refl _)
theorem insert(hc:∀i j,i<j->j<n-> ¬pr j i->Compat oc ac R i j)(hE:n7 n pr E){i:Nat}(hi:i<n)(fR:E i=false){E':Nat->Bool}(qH:∀k,E' k=(E k||k==i)):
 cm oc ac E' s n=me (oc i).dst (ac i) (cm oc ac E s n):=by
 have a:∀k,k<=i->cm oc ac E' s k=cm oc ac E s k:=by
  intro k
  induction k with
  |zero=>intro _;rfl
  |succ k ih=>
   intro hk
   have:E' k=E k:=by rw[qH k];have:(k==i)=false:=by simp;omega
                     simp[this]
   simp only[cm,this,ih (by omega)]
 have b:∀k,i+1<=k->k<=n->cm oc ac E' s k=me (oc i).dst (ac i) (cm oc ac E s k):=by
  intro k vU
  induction vU with
  |refl=>
   intro _
   have h1:E' i=true:=by rw[qH i];simp
   simp only[cm,h1,fR,if_true,a i (Nat.le_refl _)]
   rfl
  | @step k vU ih=>
    intro hk
    have vU:i+1<=k:=vU
    have h1:E' k=E k:=by rw[qH k];have:(k==i)=false:=by simp;omega
                         simp[this]
    simp only[cm,h1,ih (by omega)]
    by_cases dw:E k=true
    ·have xk: ¬pr k i:=fun hm=>by have:=hE k (by omega) dw i hm;rw[fR]at this;cases this
     have c:=hc i k (by omega) (by omega) xk
     simp only[dw,if_true]
     refine ub (fun t ht he=> ?_) (fun id ah hm=>(c.wi id hm).2 ah)
     exact c.di t he (by simp[cD,ht])
    ·simp only[dw];rfl
 exact b n (by omega) (Nat.le_refl _)
end
end Go.Proofs.YtbmnikpknlkbkaaGreat
namespace Go.Proofs.YtbmnikpknlkbkaaGreat
structure kG (M:Nat->Prop) (a6:Place) (H0:Hp) (w0:World) (n:Nat) (cx:Cx) (φ:Place) (s:S) (us:Nat->Prop) (a:Act) (w:World):Prop where
 heap:af M φ ⟨s.o,us⟩ w
 tr:Trans a6 H0 w0 φ ⟨s.o,us⟩ w
 size:a.tmps.size=n
 defers:lC cx w0 φ ⟨s.o,us⟩ w a.defers
 env:∀i,V.den (ad M φ ⟨s.o,us⟩) φ ⟨s.o,us⟩ w (s.env i) (a.tmps.getD i undef)
section
variable {P:Program}{M:Nat->Prop}{φ a6:Place}{H0:Hp}{w w' w0:World}{n:Nat}{s:S}{us:Nat->Prop}{a:Act}{cx:Cx}{ro:Option Nat}{k:Nat}
variable {next:Act->World->Prop}{Q:Exit->Act->World->Prop}
theorem dM(hs:kG M a6 H0 w0 n cx φ s us a w){ai:Place}{H':Hp}(hH:af M ai H' w')(ht:Trans φ ⟨s.o,us⟩ w ai H' w'){v:V}{val:Value}(hd:V.den (ad M ai H') ai H' w' v val){dst:Option Tmp}(a9:dq n dst)
 {o':Nat->aa} {us':Nat->Prop} (ho:H'.o=o') (hu:∀id,H'.us id->us' id):kG M a6 H0 w0 n cx ai ⟨ay s.env dst v,o',s.nx⟩ us' (a.put dst val) w':=by
 obtain⟨k1,k2⟩:=dU hH hu
 subst ho
 refine⟨k1,hs.tr.trans (ht.trans k2), ?_, ?_,fun i=> ?_⟩
 ·cases dst<;>simp[Act.put,hs.size]
 ·have:=hs.defers.mono (ht.trans k2);cases dst<;>exact this
 ·cases dst with
  |none=>exact V.aq (ht.trans k2) _ _ (hs.env i)
  |some d=>
   simp only[dq]at a9
   simp only[ay,ak,Act.put]
   by_cases hi:i=d
   ·subst hi
    have h1:(a.tmps.setIfInBounds i val).getD i undef=val:=by simp[Array.getD,hs.size,a9]
    rw[if_pos rfl,h1]
    exact V.aq k2 _ _ hd
   ·have h1:(a.tmps.setIfInBounds d val).getD i undef=a.tmps.getD i undef:=by
     simp only[Array.getD_eq_getD_getElem?]
     rw[Array.getElem?_setIfInBounds_ne (Ne.symm hi)]
    rw[if_neg hi,h1]
    exact V.aq (ht.trans k2) _ _ (hs.env i)
theorem m9(hs:kG M a6 H0 w0 n cx φ s us a w){o:Oper}{op:Op}(bE:o.op=op){c:Call}{f:Operand}{g:FuncId}{first cap:List V}(hc:op= .call c)(bY:c.callee= .value f)(nL:s.ev f= .func (.func g) first cap):
 ∃vals:Array Value,V.aj (ad M φ ⟨s.o,us⟩) φ ⟨s.o,us⟩ w (first++c.args.toList.map s.ev++cap) vals.toList/\(eP P g->(execOp a.eval o).run P w= .ok (.enter g vals) w):=by
 have hf:=fU (M:=M) (φ:=φ) (H:=⟨s.o,us⟩) (w:=w) s a hs.env f
 have bS:=eF (M:=M) (φ:=φ) (H:=⟨s.o,us⟩) (w:=w) s a hs.env c.args.toList
 rw[nL]at hf
 obtain⟨fa,ca,ym,qd,Bo⟩:=hf
 refine⟨fa++c.args.map a.eval++ca, ?_,fun he=> ?_⟩
 ·rw[Array.toList_append,Array.toList_append,Array.toList_map]
  exact V.fE qd bS Bo
 ·have:=fh (w:=w) he (fa++c.args.map a.eval++ca)
  generalize ri:fa++c.args.map a.eval++ca=vals at this
  simp[execOp,bE,hc,resolve,bY,ym,Deferred.ofValue,invoke,this,ri]
theorem py(hs:kG M a6 H0 w0 n cx φ s us a w){fr:Nat}(cz: ¬us fr)(ow:∀id,id<s.nx->us id){o:Oper}{op:Op}(bE:o.op=op)(a9:dq n o.dst){v:V}{Δ:List (Nat×aa)}{rd:List Nat}(h:m7 P s fr op v Δ rd)
 (hN:∀ai a' w',kG M a6 H0 w0 n cx ai (me o.dst (.val v Δ rd) s) (fun id=>us id\/id=fr) a' w'->next a' w'):o.wpIn (bT ro) k P a w next Q:=by
 rcases h with⟨⟨nS,h⟩,_⟩|⟨c,f,g,first,cap,hc,bY,nL,h⟩
 ·have h1:=pq (K:=fun v' rr _=>v'=v/\rr=Δ) h ⟨rfl,rfl⟩
  obtain⟨nx,val,w',ai,v',rr,nS,⟨rfl,rfl⟩,hr,EV,g1,g2,g3,g4⟩:=mR hs.heap (s:=s) rfl hs.env cz bE h1
  have nJ:=dM hs g1 g2 g3 a9 (o':=put s.o rr) (us':=fun id=>us id\/id=fr) rfl (fun id hu=>hu.elim .inl (g4 id))
  refine eK (fun c hc=>by rw[bE]at hc;subst hc;exact h1) ?_
  rw[hr]
  rcases EV with rfl|⟨rfl,rfl⟩
  ·exact hN _ _ _ nJ
  ·exact hN _ _ _ nJ
 ·refine eK (fun c' tR=>by rw[bE,hc]at tR;cases tR) ?_
  obtain⟨vals,aR,cG⟩:=m9 (P:=P) hs bE hc bY nL
  generalize first++c.args.toList.map s.ev++cap=all at h aR
  rcases h with⟨ds,rs,dg,hP,rfl,_,yu⟩|⟨rs,hH,rfl,gM⟩|⟨ds,dg,hP,_,rfl⟩|⟨hH,gM⟩
  ·obtain⟨f1,f2,f3,f4,f5⟩:=bK hs.heap (V.aB all) (aW all _ aR)
   have fy:(⟨s.o,us⟩:Hp).put (bD s.o (V.aB all))=⟨put s.o (bD s.o (V.aB all)),us⟩:=fg (H:=⟨s.o,us⟩) (by rw[gN];exact aW all _ aR)
   have mH:=bz f1 all ds _ f3 dg (V.aw f2 _ _ aR)
   have cB:=hP.2 _ w vals (fun b hb=>hb.elim (f1.oy b) fun hl=>(f1.ours b hl).2) mH
   rw[cG hP.1]
   refine⟨fun hd=>by simp[bT]at hd,bg (cB.mono fun e w' ⟨hk,ho⟩=> ?_)⟩
   cases e with
   |panicked ch=>cases rs with|nil=>exact ho.elim|cons x l=>cases l<;>exact ho.elim
   |outgrown=>cases rs with|nil=>exact ho.elim|cons x l=>cases l<;>exact ho.elim
   |returned val=>
    rcases yu with rfl|⟨iy,rfl⟩
    ·obtain⟨k1,k2⟩:=da f1 hk
     refine hN _ _ _ (dM hs k1 (f2.trans k2) (fi ho) a9 (by rw[fy]) fun id hu=> ?_)
     rw[fy]at hu;exact .inl hu
    ·obtain⟨k1,k2⟩:=da hs.heap hk
     have ho:=R.nK (out:= .ret rs) (B':=ad M φ ⟨s.o,us⟩) iy ho
     exact hN _ _ _ (dM hs k1 k2 (fi ho) a9 rfl fun id hu=> .inl hu)
  ·have cB:=hH.2 s.o us M φ w vals (fun id ah=>⟨rfl,ow id (gM id ah)⟩) hs.heap aR
   rw[cG hH.1]
   refine⟨fun hd=>by simp[bT]at hd,bg (cB.mono fun e w' ⟨ai,k1,k2,ho⟩=> ?_)⟩
   cases e with
   |panicked ch=>cases rs with|nil=>exact ho.elim|cons x l=>cases l<;>exact ho.elim
   |outgrown=>cases rs with|nil=>exact ho.elim|cons x l=>cases l<;>exact ho.elim
   |returned val=>exact hN _ _ _ (dM hs k1 k2 (fi ho) a9 rfl fun id hu=> .inl hu)
  ·obtain⟨f1,f2,f3,f4,f5⟩:=bK hs.heap (V.aB all) (aW all _ aR)
   have fy:(⟨s.o,us⟩:Hp).put (bD s.o (V.aB all))=⟨put s.o (bD s.o (V.aB all)),us⟩:=fg (H:=⟨s.o,us⟩) (by rw[gN];exact aW all _ aR)
   have mH:=bz f1 all ds _ f3 dg (V.aw f2 _ _ aR)
   have cB:=hP.2 _ w vals (fun b hb=>hb.elim (f1.oy b) fun hl=>(f1.ours b hl).2) mH
   rw[cG hP.1]
   refine⟨fun hd=>by simp[bT]at hd,bg (cB.mono fun e w' ⟨hk,val,he,ho⟩=> ?_)⟩
   subst he
   obtain⟨k1,k2⟩:=da f1 hk
   refine hN _ _ _ (dM hs k1 (f2.trans k2) (ho _ _) a9 (by rw[fy]) fun id hu=> ?_)
   rw[fy]at hu;exact .inl hu
  ·have cB:=hH.2 s.o us M φ w vals (fun id ah=>⟨rfl,ow id (gM id ah)⟩) cz hs.heap aR
   rw[cG hH.1]
   refine⟨fun hd=>by simp[bT]at hd,bg (cB.mono fun e w' ⟨ai,k1,k2,val,he,ho⟩=> ?_)⟩
   subst he
   exact hN _ _ _ (dM hs k1 k2 ho a9 rfl fun id hu=>hu)
theorem sG{o o2:Nat->aa}{us us2:Nat->Prop}(hH:af M φ ⟨o,us⟩ w)(ho:∀id,o2 id=o id\/o2 id= .no)(hu:∀id,us id->us2 id):af M φ ⟨o2,us2⟩ w/\Trans φ ⟨o,us⟩ w φ ⟨o2,us2⟩ w:=by
 have hl:∀id,(o2 id).live=true->(o id).live=true:=fun id h=>by
  rcases ho id with e|e
  ·rw[<- e];exact h
  ·rw[e]at h;cases h
 have vj:∀b,bc φ ⟨o2,us2⟩ b->bc φ ⟨o,us⟩ b:=fun b ⟨id,h1,h2⟩=>⟨id,hl id h1,h2⟩
 have ht:Trans φ ⟨o,us⟩ w φ ⟨o2,us2⟩ w:=by
  refine⟨cp.refl _ _,fun b hb=> .inl (vj b hb),⟨hu,fun id _ hr=> ?_,fun id e' _ he=> ?_⟩⟩
  ·rcases ho id with e|e
   ·exact⟨by show(o id).aM=true;rw[<- e];exact hr,rfl⟩
   ·rw[show(⟨o2,us2⟩:Hp).o id= .no from e]at hr;cases hr
  ·rcases ho id with e|e
   ·exact⟨e',by show(o id).aN=some e';rw[<- e];exact he,Nat.le_refl _,fun _=>rfl⟩
   ·rw[show(⟨o2,us2⟩:Hp).o id= .no from e]at he;cases he
 refine⟨⟨fun id=> ?_,fun id hn=> ?_,fun i j b hi hj=>hH.apart i j b (hl i hi) (hl j hj),fun b hb=>hH.ours b (vj b hb),hH.oy⟩,ht⟩
 ·rcases ho id with e|e
  ·exact(hH.ok id).mono ht e rfl fun _ _ _=>rfl
  ·unfold au;rw[show(⟨o2,us2⟩:Hp).o id= .no from e];trivial
 ·rcases ho id with e|e
  ·exact e.trans (hH.fresh id fun h=>hn (hu id h))
  ·exact e
def lN(ds:List Nat)(wl:List Nat)(N:Nat)(s:S):S:=
 ⟨fun t=>if ds.contains t=true then .bL else s.env t,fun id=>if wl.contains id=true then .no else s.o id,s.nx+N⟩
theorem ud(hs:kG M a6 H0 w0 n cx φ s us a w)(ow:∀id,id<s.nx->us id){N:Nat}(b5:∀id,us id->id<s.nx+N){o:Oper}{op:Op}(bE:o.op=op){v:V}{ws rd:List Nat}(h:px P s op v ws rd)
 {s0:S} {ds wl:List Nat} (dg:∀t,ds.contains t=false->s.env t=s0.env t) (EW:∀id,wl.contains id=false->s.o id=s0.o id) (vV:∀id∈ws,wl.contains id=true) (vT:s0.nx=s.nx)
 (hQ:∀ai w' val,aP M a6 H0 w0 n cx ai (lN ds wl N s0) a w'->V.den (ad M ai (lN ds wl N s0).H) ai (lN ds wl N s0).H w' v val->Q (.panic [{v:=val,recovered:=false}]) a w'):o.wpIn (bT ro) k P a w next Q:=by
 obtain⟨c,f,g,first,cap,hc,bY,nL,h⟩:=h
 refine eK (fun c' tR=>by rw[bE,hc]at tR;cases tR) ?_
 obtain⟨vals,aR,cG⟩:=m9 (P:=P) hs bE hc bY nL
 generalize first++c.args.toList.map s.ev++cap=all at h aR
 have fin:∀ (ai:Place) (w':World) (o':Nat->aa) (val:Value),(∀id,wl.contains id=false->o' id=s.o id)->af M ai ⟨o',us⟩ w'->Trans φ ⟨s.o,us⟩ w ai ⟨o',us⟩ w'->V.den (ad M ai ⟨o',us⟩) ai ⟨o',us⟩ w' v val->Q (.panic [{v:=val,recovered:=false}]) a w':=by
  intro ai w' o' val pf k1 k2 k3
  obtain⟨m1,m2⟩:=sG (o2:=(lN ds wl N s0).o) (us2:=fun id=>id<s0.nx+N) k1 (fun id=>by
   show(if wl.contains id=true then aa.no else s0.o id)=o' id\/_
   by_cases hw:wl.contains id=true
   ·right;simp only[lN];rw[if_pos hw]
   ·left;rw[if_neg hw,pf id (by simpa using hw),EW id (by simpa using hw)]) (fun id h=>by rw[vT];exact b5 id h)
  have ht:=hs.tr.trans (k2.trans m2)
  refine hQ ai w' val ⟨m1,ht,hs.size,hs.defers.mono (k2.trans m2),fun i=> ?_⟩ (V.aq m2 _ _ k3)
  show V.den _ _ _ _ (if ds.contains i=true then V.bL else s0.env i) _
  by_cases hd:ds.contains i=true
  ·rw[if_pos hd];trivial
  ·rw[if_neg hd, <- dg i (by simpa using hd)];exact V.aq (k2.trans m2) _ _ (hs.env i)
 rcases h with⟨dd,x,EX,hP,iy,rfl,_,rfl⟩|⟨x,Δ,hH,rfl,rfl,gM⟩
 ·obtain⟨f1,f2,f3,f4,f5⟩:=bK hs.heap (V.aB all) (aW all _ aR)
  have mH:=bz f1 all dd _ f3 EX (V.aw f2 _ _ aR)
  have cB:=hP.2 _ w vals (fun b hb=>hb.elim (f1.oy b) fun hl=>(f1.ours b hl).2) mH
  rw[cG hP.1]
  refine⟨fun hd=>by simp[bT]at hd,bg (cB.mono fun e w' ⟨hk,ho⟩=> ?_)⟩
  cases e with
  |returned val=>exact ho.elim
  |outgrown=>exact ho.elim
  |panicked ch=>
   obtain⟨k1,k2⟩:=da hs.heap hk
   have ho:=R.nK (out:= .aH x) (B':=ad M φ ⟨s.o,us⟩) iy ho
   obtain⟨val,rfl,hd⟩:=ho
   exact fin φ w' s.o val (fun _ _=>rfl) k1 k2 hd
 ·have cB:=hH.2 s.o us M φ w vals (fun id ah=>⟨rfl,ow id (gM id ah)⟩) hs.heap aR
  rw[cG hH.1]
  refine⟨fun hd=>by simp[bT]at hd,bg (cB.mono fun e w' ⟨ai,k1,k2,ho⟩=> ?_)⟩
  cases e with
  |returned val=>exact ho.elim
  |outgrown=>exact ho.elim
  |panicked ch=>
   obtain⟨val,rfl,hd⟩:=ho
   exact fin ai w' _ val (fun id ah=>n3 fun y hy e=>by
    have:=vV y.1 (List.mem_map_of_mem hy)
    rw[e,ah]at this;cases this) k1 k2 hd
theorem cO(bH:∀i,V.den (ad M φ ⟨s.o,us⟩) φ ⟨s.o,us⟩ w (s.env i) (a.tmps.getD i undef)){ops:Array Oper}{o:Oper}{gd:Option (Nat×Bool)}{b:Bool}
 (hg:match o.guard with|none=>gd=none|some (j,want)=>∃d,jS ops j=some d/\gd=some (d,want)) (h:br s gd b):Region.wanted o (yielded ops a.tmps)=b:=by
 unfold Region.wanted
 split at hg
 ·rename_i hn;simp only[hn];subst hg;exact h.symm
 ·rename_i j want hn
  simp only[hn]
  obtain⟨d,hd,rfl⟩:=hg
  unfold jS at hd
  unfold yielded
  simp only[hd,Option.bind_some]
  simp only[br]at h
  have he:=bH d
  split at h
  ·rename_i c hv
   rw[hv]at he
   simp only[V.den,D.den]at he
   have:a.tmps[d]? =some (.bool c):=by
    rw[Array.getD_eq_getD_getElem?]at he
    cases hx:a.tmps[d]? with
    |none=>rw[hx]at he;simp[undef]at he
    |some x=>rw[hx]at he;simp at he;rw[he]
   simp only[this,h]
   cases c<;>cases want<;>rfl
  ·rename_i hv
   rw[hv]at he
   obtain⟨arr,aZ,hn⟩:=he
   have:∀c,a.tmps[d]? ≠some (.bool c):=by
    intro c hx
    rw[Array.getD_eq_getD_getElem?,hx]at aZ
    simp at aZ
   subst h
   cases hx:a.tmps[d]? with
   |none=>rfl
   |some x=>cases x<;>first|(exact absurd hx (this _))|rfl
  ·exact h.elim
theorem cP{s s':S}{gd:Option (Nat×Bool)}{b:Bool}(h:∀d want,gd=some (d,want)->s'.env d=s.env d)(hg:br s gd b):br s' gd b:=by
 unfold br at*
 cases gd with
 |none=>exact hg
 |some p=>obtain⟨d,want⟩:=p;simp only at hg|-;rw[h d want rfl];exact hg
theorem pz{s s':S}{x:Operand}(h:∀t,x= .tmp t->s'.env t=s.env t):s'.ev x=s.ev x:=by
 cases x<;>simp only[S.ev]
 exact h _ rfl
theorem lO{s s':S}{op:Op}{c:Call}{f:Operand}{g:FuncId}{first cap:List V}(hv:∀x∈op.operands,s'.ev x=s.ev x)(hc:op= .call c)(bY:c.callee= .value f)(nL:s.ev f= .func (.func g) first cap):
 s'.ev f= .func (.func g) first cap/\c.args.toList.map s'.ev=c.args.toList.map s.ev:=by
 subst hc
 exact⟨(hv f (by simp only[Op.operands,Call.operands,bY];exact Array.mem_append.2 (.inl (by simp)))).trans nL,
  List.map_congr_left fun x hx=>hv x (by simp only[Op.operands,Call.operands];exact Array.mem_append.2 (.inr (Array.mem_toList_iff.1 hx)))⟩
theorem ua.frame {g:FuncId}{args:List V}{rd:List Nat}{o o':Nat->aa}{out:R}{Δ:List (Nat×aa)}(ho:∀id∈rd,o' id=o id)(h:ua P g args rd o out Δ):ua P g args rd o' out Δ:=
 ⟨h.1,fun o2 us M φ w vals h1 h2 h3=>h.2 o2 us M φ w vals (fun id ah=>⟨(h1 id ah).1.trans (ho id ah),(h1 id ah).2⟩) h2 h3⟩
theorem qC.frame {g:FuncId}{args:List V}{rd:List Nat}{o o':Nat->aa}{fr:Nat}{v:V}{Δ:List (Nat×aa)}(ho:∀id∈rd,o' id=o id)(h:qC P g args rd o fr v Δ):qC P g args rd o' fr v Δ:=
 ⟨h.1,fun o2 us M φ w vals h1 h2 h3=>h.2 o2 us M φ w vals (fun id ah=>⟨(h1 id ah).1.trans (ho id ah),(h1 id ah).2⟩) h2 h3⟩
theorem kf{s s':S}{fr:Nat}{op:Op}{v:V}{Δ:List (Nat×aa)}{rd:List Nat}(hv:∀x∈op.operands,s'.ev x=s.ev x)(ho:∀id∈rd,s'.o id=s.o id)(ow:s'.nx=s.nx)(h:m7 P s fr op v Δ rd):∃nS,m7 P s' fr op v Δ nS:=by
 rcases h with⟨⟨nS,h⟩,gM⟩|⟨c,f,g,first,cap,rfl,bY,nL,h⟩
 ·exact⟨_, .inl ⟨⟨nS,by rw[qB op hv (by rw[<- gM];exact ho)];exact h⟩,rfl⟩⟩
 ·obtain⟨hf,hm⟩:=lO hv rfl bY nL
  rcases h with⟨ds,rs,dg,hP,mc,gM,yu⟩|⟨rs,hH,mc,gM⟩|⟨ds,dg,hP,gM,yu⟩|⟨hH,gM⟩
  ·have hr:∀id∈V.bn (first++c.args.toList.map s.ev++cap),s'.o id=s.o id:=fun id ah=>ho id (by rw[gM];simp only[ec,bY,nL];exact ah)
   refine⟨_, .inr ⟨c,f,g,first,cap,rfl,bY,hf, .inl ⟨ds,rs,by rw[hm,dH _ hr];exact dg,hP,mc,rfl, ?_⟩⟩⟩
   rw[hm,de (o:=s.o) fun id ah=>hr id (ew _ id ah)]
   exact yu
  ·exact⟨rd, .inr ⟨c,f,g,first,cap,rfl,bY,hf, .inr (.inl ⟨rs,by rw[hm];exact hH.frame ho,mc,by rw[ow];exact gM⟩)⟩⟩
  ·have hr:∀id∈V.bn (first++c.args.toList.map s.ev++cap),s'.o id=s.o id:=fun id ah=>ho id (by rw[gM];simp only[ec,bY,nL];exact ah)
   refine⟨_, .inr ⟨c,f,g,first,cap,rfl,bY,hf, .inr (.inr (.inl ⟨ds,by rw[hm,dH _ hr];exact dg,hP,rfl, ?_⟩))⟩⟩
   rw[hm,de (o:=s.o) fun id ah=>hr id (ew _ id ah)]
   exact yu
  ·exact⟨rd, .inr ⟨c,f,g,first,cap,rfl,bY,hf, .inr (.inr (.inr ⟨by rw[hm];exact hH.frame ho,by rw[ow];exact gM⟩))⟩⟩
theorem pA{s s':S}{op:Op}{v:V}{ws rd:List Nat}(hv:∀x∈op.operands,s'.ev x=s.ev x)(ho:∀id∈rd,s'.o id=s.o id)(ow:s'.nx=s.nx)(h:px P s op v ws rd):px P s' op v ws rd:=by
 obtain⟨c,f,g,first,cap,rfl,bY,nL,h⟩:=h
 obtain⟨hf,hm⟩:=lO hv rfl bY nL
 refine⟨c,f,g,first,cap,rfl,bY,hf, ?_⟩
 rw[hm]
 rcases h with⟨ds,x,dg,hP,iy,mc,gM,vV⟩|⟨x,Δ,hH,mc,vV,gM⟩
 ·have hr:∀id∈V.bn (first++c.args.toList.map s.ev++cap),s'.o id=s.o id:=fun id ah=>ho id (by rw[gM];simp only[ec,bY,nL];exact ah)
  exact .inl ⟨ds,x,by rw[dH _ hr];exact dg,hP,iy,mc,by rw[gM];simp only[ec,bY,nL,hf,hm],vV⟩
 ·exact .inr ⟨x,Δ,hH.frame ho,mc,vV,by rw[ow];exact gM⟩
theorem lP{ops:Array Oper}:∀ (l:List Oper) (l':List aT) (i:Nat) (o:Oper),eW n ops l=some l'->l[i]? =some o->s6 n ops o=some (aK l' i)
 |[],_,_,_,_,h=>by simp at h
 |x::l,l',i,o,h,hi=>by
  simp only[eW]at h
  split at h
  ·rename_i y ys hy Kz
   injection h with h;subst h
   cases i with
   |zero=>simp at hi;subst hi;exact hy
   |succ i=>exact lP l ys i o Kz (by simpa using hi)
  ·cases h
theorem na{ops:Array Oper}{o:Oper}{x:aT}(h:s6 n ops o=some x):x.op=o.op/\x.dst=o.dst/\dq n o.dst/\
 (match o.guard with|none=>x.gd=none|some (j,want)=>∃d,jS ops j=some d/\x.gd=some (d,want)):=by
 unfold s6 at h
 split at h
 ·rename_i hd
  have a9:dq n o.dst:=by
   unfold p5 at hd;unfold dq
   split at hd<;>simp_all
  cases hg:o.guard with
  |none=>simp only[hg]at h;injection h with h;subst h;exact⟨rfl,rfl,a9,rfl⟩
  |some p=>
   obtain⟨j,want⟩:=p
   simp only[hg]at h
   cases xw:jS ops j with
   |none=>simp[xw]at h
   |some d=>simp only[xw]at h;injection h with h;subst h;exact⟨rfl,rfl,a9,d,xw,rfl⟩
 ·cases h
theorem ir{ops:Array Oper}{ae:Array Bool}(kO:∀k,k<ops.size->∀j∈aC ops k,j<k)(hs:ae.size=ops.size)(hr:Region.ready .any ops ae=[]):∀k,k<ops.size->ae.getD k false=true:=by
 intro k
 induction k using Nat.strongRecOn with
 |_ k ih=>
  intro hk
  cases hl:ae.getD k false with
  |true=>rfl
  |false=>
   have:k∈Region.ready .any ops ae:=by
    refine mem_ready.2 ⟨?_,ops[k],by simp[hk],fun e he hb=> ?_⟩
    ·simp only[Array.getD_eq_getD_getElem?]at hl|-
     rw[Array.getElem?_eq_getElem (by omega)]at hl|-
     simpa using hl
    ·have hm:e.on∈aC ops k:=by
      simp only[aC,Array.getElem?_eq_getElem hk,List.mem_map,List.mem_filter]
      exact⟨e,⟨Array.mem_toList_iff.2 he,hb⟩,rfl⟩
     exact ih _ (kO k hk _ hm) (by have:=kO k hk _ hm;omega)
   rw[hr]at this;cases this
theorem pB(hs:aP M a6 H0 w0 n cx φ s a w):aP M a6 H0 w0 n cx φ s a {w with drawn:=w.drawn+1}:=by
 obtain⟨k1,k2⟩:=da (w':={w with drawn:=w.drawn+1}) hs.heap ⟨rfl,rfl,rfl,Nat.le_refl _,fun _ _ _=>rfl⟩
 exact⟨k1,hs.tr.trans k2,hs.size,hs.defers.mono k2,fun i=>V.aq k2 _ _ (hs.env i)⟩
theorem ey{oc:Nat->aT}{ac:Nat->cH}{E:Nat->Bool}:∀k,(cm oc ac E s k).nx=s.nx
 |0=>rfl
 |k+1=>by
  simp only[cm]
  split
  ·cases ac k<;>exact ey k
  ·exact ey k
theorem ru{oc:Nat->aT}{ac:Nat->cH}{E:Nat->Bool}{t:Nat}:∀k,(∀j,j<k->(oc j).dst≠some t)->(cm oc ac E s k).env t=s.env t
 |0,_=>rfl
 |k+1,h=>by
  have ih:=ru (oc:=oc) (ac:=ac) (E:=E) (t:=t) k fun j hj=>h j (by omega)
  simp only[cm]
  split
  ·rw[eT fun d hd e=>h k (by omega) (by rw[hd,e])];exact ih
  ·exact ih
theorem xB{oc:Nat->aT}{ac:Nat->cH}{E:Nat->Bool}{id:Nat}:∀k,(∀j,j<k->id∉eS (ac j))->(cm oc ac E s k).o id=s.o id
 |0,_=>rfl
 |k+1,h=>by
  have ih:=xB (oc:=oc) (ac:=ac) (E:=E) (id:=id) k fun j hj=>h j (by omega)
  simp only[cm]
  split
  ·rw[gu (h k (by omega))];exact ih
  ·exact ih
theorem pC(aD:P.follows .mixedOrders=true){ops:Array Oper}{l:List aT}{id:Nat}(gS:eW n ops ops.toList=some l)(kO:∀k,k<ops.size->∀j∈aC ops k,j<k){ac:Nat->cH}{dl wl:List Nat}
 (hs:aP M a6 H0 w0 n cx φ s a w) (yw:∀i,i<ops.size->xz P (cm (aK l) ac (fun _=>true) s i) (s.nx+i) (aK l i) (ac i))
 (yx:∀i,i<ops.size->ac i= .cI->∃j∈aC ops i,(ac j).ok=false)
 {po:Nat->Nat->Prop} (rv:∀E:Nat->Bool,(∀k,k<ops.size->E k=true->∀j∈aC ops k,E j=true)->∀k,k<ops.size->(∀j∈aC ops k,E j=true)->∀j,po k j->E j=true) (pD:∀k,k<ops.size->∀j,po k j->j<k)
 (hc:∀i j,i<j->j<ops.size-> ¬po j i->Compat (aK l) ac (fun i=>my (ac i)) i j)
 (D9:∀i,i<ops.size->∀t,(aK l i).dst=some t->dl.contains t=true) (EW:∀i,i<ops.size->∀id∈eS (ac i),wl.contains id=true)
 (vV:∀i v ws rd,i<ops.size->ac i= .aH v ws rd->∀id∈ws,wl.contains id=true)
 (hQ:(∀i,i<ops.size->(ac i).ok=true)->∀φ a w,aP M a6 H0 w0 n cx φ ⟨(cm (aK l) ac (fun _=>true) s ops.size).env,(cm (aK l) ac (fun _=>true) s ops.size).o,s.nx+ops.size⟩ a w->Q .normal a w)
 (hX:∀i v ws rd,i<ops.size->ac i= .aH v ws rd->∀φ a w val,aP M a6 H0 w0 n cx φ (lN dl wl ops.size s) a w->V.den (ad M φ (lN dl wl ops.size s).H) φ (lN dl wl ops.size s).H w v val->Q (.panic [{v:=val,recovered:=false}]) a w):
 (Code.region id ops true).wpIn (bT ro) k P Q a w:=by
 refine wpIn_region_any aD ?_
 have hs:=pB hs
 generalize ({w with drawn:=w.drawn+1}:World)=w at hs
 let N:=ops.size
 let Ef (ae:Array Bool) (k:Nat):Bool:=ae.getD k false
 let qI (ae:Array Bool) (j:Nat):Prop:=j<s.nx\/∃k,k<N/\Ef ae k=true/\j=s.nx+k
 have key:∀ (fuel:Nat) (ae:Array Bool) (φ:Place) (a:Act) (w:World),ae.size=N->ae.count true+fuel=N->(∀k,k<N->Ef ae k=true->∀j∈aC ops k,Ef ae j=true)->(∀k,k<N->Ef ae k=true->(ac k).ok=true)->
  kG M a6 H0 w0 n cx φ (cm (aK l) ac (Ef ae) s N) (qI ae) a w->wpAnyIn (bT ro) k P .any ops Q fuel ae a w:=by
  have fin:∀ (ae:Array Bool) (φ:Place) (a:Act) (w:World),(∀k,k<N->Ef ae k=true)->(∀k,k<N->Ef ae k=true->(ac k).ok=true)->kG M a6 H0 w0 n cx φ (cm (aK l) ac (Ef ae) s N) (qI ae) a w->Q .normal a w:=by
   intro ae φ a w aR qJ hu
   have e:∀k,k<=N->cm (aK l) ac (Ef ae) s k=cm (aK l) ac (fun _=>true) s k:=by
    intro k
    induction k with
    |zero=>intro _;rfl
    |succ k ih=>intro hk;simp only[cm,aR k (by omega),ih (by omega)]
   rw[e N (Nat.le_refl _)]at hu
   obtain⟨k1,k2⟩:=dU (us':=fun id=>id<s.nx+N) hu.heap (fun id h=>by
    show id<s.nx+N
    rcases h with h|⟨k,hk,_,rfl⟩<;>omega)
   exact hQ (fun i hi=>qJ i hi (aR i hi)) φ a w ⟨k1,hu.tr.trans k2,hu.size,hu.defers.mono k2,fun i=>V.aq k2 _ _ (hu.env i)⟩
  intro fuel
  induction fuel with
  |zero=>
   intro ae φ a w cl sH kA qJ hu
   have aR:∀k,k<N->Ef ae k=true:=by
    intro k hk
    have h1:ae.count true=ae.size:=by omega
    rw[Array.count_eq_size]at h1
    have:=h1 ae[k] (Array.getElem_mem (by omega))
    simp only[Ef,Array.getD_eq_getD_getElem?]
    rw[Array.getElem?_eq_getElem (by omega)]
    simpa using this.symm
   refine⟨?_,fin ae φ a w aR qJ hu⟩
   rw[List.eq_nil_iff_forall_not_mem]
   intro k hk
   obtain⟨h1,o,h2,_⟩:=mem_ready.1 hk
   have KA:k<N:=(Array.getElem?_eq_some_iff.1 h2).1
   have:=aR k KA
   simp only[Ef,Array.getD_eq_getD_getElem?]at this h1
   rw[Array.getElem?_eq_getElem (by omega)]at this h1
   simp only[Option.getD_some]at this h1
   rw[this]at h1;cases h1
  |succ fuel ih=>
   intro ae φ a w cl sH kA qJ hu
   refine⟨fun hr=>fin ae φ a w (ir kO cl hr) qJ hu,fun i hi=> ?_⟩
   obtain⟨h1,o,h2,h3⟩:=mem_ready.1 hi
   have kH:i<N:=(Array.getElem?_eq_some_iff.1 h2).1
   have fR:Ef ae i=false:=by
    simp only[Ef,Array.getD_eq_getD_getElem?]at h1|-
    rw[Array.getElem?_eq_getElem (by omega)]at h1|-
    simpa using h1
   have uc:∀j∈aC ops i,Ef ae j=true:=by
    intro j hj
    simp only[aC,h2,List.mem_map,List.mem_filter]at hj
    obtain⟨e,⟨he,hb⟩,rfl⟩:=hj
    exact h3 e (Array.mem_toList_iff.1 he) hb
   have ue:n7 N po (Ef ae):=fun k hk dw=>rv _ kA k hk (kA k hk dw)
   obtain⟨Bx,DI⟩:=xA (s:=s) pD hc ue kH fR (rv _ kA i kH uc)
   obtain⟨g1,g2,g3,g4⟩:=na (lP _ _ i o gS (by simpa using h2))
   have cz: ¬qI ae (s.nx+i):=by
    rintro(h|⟨k,_,hk,he⟩)
    ·omega
    ·have:k=i:=by omega
     subst this;rw[fR]at hk;cases hk
   have qH:∀k,Ef (ae.setIfInBounds i true) k=(Ef ae k||k==i):=by
    intro k
    simp only[Ef,Array.getD_eq_getD_getElem?]
    by_cases e:k=i
    ·subst e;simp[cl,kH]
    ·rw[Array.getElem?_setIfInBounds_ne (Ne.symm e)]
     have:(k==i)=false:=by simpa using e
     simp[this]
   have yy:=insert (s:=s) hc ue kH fR qH
   have yz:∀k,k<N->Ef (ae.setIfInBounds i true) k=true->∀j∈aC ops k,Ef (ae.setIfInBounds i true) j=true:=by
    intro k hk dw j hj
    rw[qH]at dw|-
    by_cases e:k=i
    ·subst e;simp[uc j hj]
    ·have:(k==i)=false:=by simpa using e
     rw[this,Bool.or_false]at dw
     simp[kA k hk dw j hj]
   have uf:(ae.setIfInBounds i true).count true+fuel=N:=by
    have cu:i<ae.size:=by omega
    have e1:ae.setIfInBounds i true=ae.set i true cu:=by simp[Array.setIfInBounds,cu]
    have e2:ae[i]=false:=by
     have:=fR
     simp only[Ef,Array.getD_eq_getD_getElem?]at this
     rw[Array.getElem?_eq_getElem cu]at this
     simpa using this
    rw[e1,Array.count_set cu,e2]
    simp
    omega
   have fN:(ac i).ok=true->∀ai a' w',kG M a6 H0 w0 n cx ai (me o.dst (ac i) (cm (aK l) ac (Ef ae) s N)) (fun id=>qI ae id\/id=s.nx+i) a' w'->wpAnyIn (bT ro) k P .any ops Q fuel (ae.setIfInBounds i true) a' w':=by
    intro Bz ai a' w' mq
    refine ih _ ai a' w' (by simp[cl]) uf yz (fun k hk dw=> ?_) ?_
    ·rw[qH]at dw
     by_cases e:k=i
     ·subst e;exact Bz
     ·have:(k==i)=false:=by simpa using e
      rw[this,Bool.or_false]at dw
      exact qJ k hk dw
    rw[yy,g2]
    obtain⟨k1,k2⟩:=dU (us':=qI (ae.setIfInBounds i true)) mq.heap (fun id h=>by
     rcases h with(h|⟨k,hk,dw,rfl⟩)|rfl
     ·exact .inl h
     ·exact .inr ⟨k,hk,by rw[qH,dw];rfl,rfl⟩
     ·exact .inr ⟨i,kH,by rw[qH];simp,rfl⟩)
    exact⟨k1,mq.tr.trans k2,mq.size,mq.defers.mono k2,fun j=>V.aq k2 _ _ (mq.env j)⟩
   have sI:∀d want,(aK l i).gd=some (d,want)->(cm (aK l) ac (Ef ae) s N).env d=(cm (aK l) ac (fun _=>true) s i).env d:=fun d want hd=>Bx d (by simp[cD,tmpsOf,hd])
   have aG:=yw i kH
   have sJ:∀x∈(aK l i).op.operands,(cm (aK l) ac (Ef ae) s N).ev x=(cm (aK l) ac (fun _=>true) s i).ev x:=fun x hx=>pz fun t ht=>Bx t (by
    subst ht
    simp only[cD,tmpsOf,List.mem_append,List.mem_filterMap]
    exact .inl (.inl ⟨.tmp t,Array.mem_toList_iff.2 hx,rfl⟩))
   have vW:(cm (aK l) ac (Ef ae) s N).nx=(cm (aK l) ac (fun _=>true) s i).nx:=(ey N).trans (ey i).symm
   unfold wpOpIn
   simp only[h2]
   cases kI:ac i with
   |skip=>
    rw[kI]at aG fN
    have hw:=cO hu.env g4 (cP sI aG)
    simp only[hw,Bool.false_eq_true,if_false]
    refine⟨fun _ _=>trivial,fN rfl φ _ w ?_⟩
    have:=dM (v:= .a8 []) (val:=undef) hu hu.heap (Trans.refl _ _ _) ⟨#[],rfl,rfl⟩ (dst:=o.dst) g3 rfl (us':=fun id=>qI ae id\/id=s.nx+i) (fun id h=> .inl h)
    exact this
   |val v Δ rd=>
    rw[kI]at aG fN
    have hw:=cO hu.env g4 (cP sI aG.1)
    simp only[hw,if_true]
    obtain⟨nS,iX⟩:=kf sJ (fun id ah=>DI id (by rw[kI];exact ah)) vW aG.2
    exact py hu cz (fun id h=> .inl (by rw[ey]at h;exact h)) g1.symm g3 iX (fN rfl)
   |aH v ws rd=>
    rw[kI]at aG
    have hw:=cO hu.env g4 (cP sI aG.1)
    simp only[hw,if_true]
    have iX:=pA sJ (fun id ah=>DI id (by rw[kI];exact ah)) vW aG.2
    refine ud (s0:=s) (ds:=dl) (wl:=wl) (N:=N) hu (fun id h=> .inl (by rw[ey]at h;exact h)) (fun id h=> ?_) g1.symm iX (fun t ht=> ?_) (fun id ah=> ?_) (vV i v ws rd kH kI) (ey N).symm (fun ai w' val h1 h2=>hX i v ws rd kH kI ai a w' val h1 h2)
    ·rw[ey]
     rcases h with h|⟨k,hk,_,rfl⟩<;>omega
    ·refine ru N fun j hj e=> ?_
     have:=D9 j hj t e
     rw[ht]at this;cases this
    ·refine xB N fun j hj hm=> ?_
     have:=EW j hj id hm
     rw[ah]at this;cases this
   |cI=>
    exfalso
    obtain⟨j,hj,yA⟩:=yx i kH kI
    have:=qJ j (Nat.lt_trans (kO i kH j hj) kH) (uc j hj)
    rw[yA]at this;cases this
 refine key ops.size _ φ a w (by simp[N]) (by simp[N,Array.count_replicate]) (fun k hk dw=> ?_) (fun k hk dw=> ?_) ?_
 ·simp[Ef,Array.getD_eq_getD_getElem?,Array.getElem?_replicate]at dw
  split at dw<;>simp at dw
 ·simp[Ef,Array.getD_eq_getD_getElem?,Array.getElem?_replicate]at dw
  split at dw<;>simp at dw
 ·have e:∀k,cm (aK l) ac (Ef (Array.replicate ops.size false)) s k=s:=by
   intro k
   induction k with
   |zero=>rfl
   |succ k ih=>
    have:Ef (Array.replicate ops.size false) k=false:=by
     simp only[Ef,Array.getD_eq_getD_getElem?,Array.getElem?_replicate]
     split<;>rfl
    simp only[cm,this,ih]
    rfl
  rw[e]
  obtain⟨k1,k2⟩:=dU (us':=qI (Array.replicate ops.size false)) hs.heap (fun id h=> .inl h)
  exact⟨k1,hs.tr.trans k2,hs.size,hs.defers.mono k2,fun j=>V.aq k2 _ _ (hs.env j)⟩
end
end Go.Proofs.YtbmnikpknlkbkaaGreat
