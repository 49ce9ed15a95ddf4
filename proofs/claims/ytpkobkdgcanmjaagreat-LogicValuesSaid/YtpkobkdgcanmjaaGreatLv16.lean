/-
  LogicValues: at every call the law answers true, and leaves all memory as it was. Conditions: none.
-/
import Derived.OpenShut
import Derived.Carry
import Derived.Handed
import Derived.JoinedOf
import Derived.ProofKit
import Derived.Test.YtpkobkdgcanmjaaGreatRows
import Derived.Test.YtpkobkdgcanmjaaGreatLv15
set_option linter.unusedSimpArgs false
set_option linter.unusedVariables false
namespace Go.Proofs.YtpkobkdgcanmjaaGreat
theorem fk{c:Nat}{G:List Gr}{so:Nat->aa}{gone:Nat->Prop}{x x' y y':aa}(h:x=y)(h':x'=y')(hs:vW c G so gone y y'):vW c G so gone x x':=by rw[h,h'];exact hs
def rb(a b:Tm):Tm×Bool:=match jo a b with
 |some t=>(t,true)
 |none=>(a,false)
@[reducible] def jO (a b:Tm) (r:Nat) (v:V):Nat->aa:=aQ (aQ (aQ (aQ (fun _=> .no) 0 (.row a.row)) 1 (.row b.row)) 2 (.row [.d (.i 0), .d (.i 0), .aM])) r (.row [.d (.i a.op), .d (.i a.n),v])
theorem re{a b:Tm}{r j:Nat}{v w:V}(h:j≠r):jO a b r v j=jO a b r w j:=by unfold jO;rw[ay _ r _ _ h,ay _ r _ _ h]
theorem pV:∀a:Tm,a.fits->a.sz<=1000000->∀b:Tm,b.fits->bJ Tryz.prog 18 [a.d,b.d] (.ret [(rb a b).1.d, .bool (rb a b).2]):=by
 refine Tm.ja fun a ih ha za b hb=> ?_
 have yO:=(Tm.bF _).1 ha
 have sW:=(Tm.bF _).1 hb
 refine bJ.bg mix IJ (by simp) ?_
 rw[Pb]
 by_cases h0:a.op=16
 ·have uX:(a.op==16)=true:=by simpa using h0
  have e:rb a b=(b,true):=by unfold rb;rw[gN,if_pos h0]
  rw[e]
  simp+contextual (disch:=first|omega|simp only[go_sem,false_implies]) only[go_sem,wrap64,if_pos,uX]
 have uX:(a.op==16)=false:=by simpa using h0
 by_cases h1:b.op=16
 ·have jf:(b.op==16)=true:=by simpa using h1
  have e:rb a b=(a,true):=by unfold rb;rw[gN,if_neg h0,if_pos h1]
  rw[e]
  simp+contextual (disch:=first|omega|simp only[go_sem,false_implies]) only[go_sem,wrap64,if_pos,uX,jf]
 have jf:(b.op==16)=false:=by simpa using h1
 by_cases h2:a.op≠b.op\/a.n≠b.n\/a.kids.length≠b.kids.length
 ·have e:rb a b=(a,false):=by unfold rb;rw[gN,if_neg h0,if_neg h1,if_pos h2]
  have tl:(a.op !=b.op||a.n !=b.n||(a.kids.length:Int)!=(b.kids.length:Int))=true:=by
   rcases h2 with h|h|h
   ·simp[h]
   ·simp[h]
   ·have:((a.kids.length:Int)!=(b.kids.length:Int))=true:=by simp;omega
    simp[this]
  rw[e]
  simp+contextual (disch:=first|omega|simp only[go_sem,false_implies]) only[go_sem,wrap64,if_pos,uX,jf,tl,List.length_map]
 have e1:a.op=b.op:=Classical.byContradiction fun e=>h2 (.inl e)
 have e2:a.n=b.n:=Classical.byContradiction fun e=>h2 (.inr (.inl e))
 have e3:a.kids.length=b.kids.length:=Classical.byContradiction fun e=>h2 (.inr (.inr e))
 have tl:(a.op !=b.op||a.n !=b.n||(a.kids.length:Int)!=(b.kids.length:Int))=false:=by simp[e1,e2,e3]
 have hr:jo a b=(cq a.kids b.kids).map fun l=> .mk a.op a.n l:=by rw[gN,if_neg h0,if_neg h1,if_neg h2]
 simp+contextual (disch:=first|omega|simp only[go_sem,false_implies]) only[go_sem,wrap64,if_pos,uX,jf,tl,List.length_map]
 have hn:=oi a.kids
 have TH:sN a.kids<=1000000:=by rw[Tm.pP]at za;omega
 have hg:Good (jO a b 36 .aM) 39:=(by repeat(first|exact hg.mono (by omega)|exact Good.nil|refine Good.aQ ?_ (by omega) rfl|refine Good.aQ ?_ (by omega) (uH _ _ _ (by omega))|refine Good.aQ ?_ (by omega) (by simp[aa.refs,V.aw,V.refs]<;>omega)))
 refine bN (fun i:Nat×List Tm=>⟨bD [.ak, .ak, .ptr 0 0, .ptr 1 0, .ptr 2 0, .ak, .ptr 36 0, .d (.i i.1)],aQ (jO a b 36 (.osl 39 0)) 39 (.arr 0 28 3 (i.2.map Tm.d)),40⟩)
  (fun i=>i.1<=a.kids.length/\i.2.length=i.1/\cq a.kids b.kids=(cq (a.kids.drop i.1) (b.kids.drop i.1)).map fun m=>i.2++m) (fun i=>a.kids.length - i.1) (0,[]) ⟨Nat.zero_le _,rfl,by simp⟩ (cR.Cd (ty:=28) (sz:=3) (es:=[]) (fun _=>False) .aM 39 _ (by omega) (fun j hj=> ?_) (by rw[aG];rfl) (.inl ⟨rfl,rfl,by decide⟩) (fun j hj=> ?_) (fun _ h=>h.elim) ?_) ?_
 ·by_cases e1:j=36
  ·subst e1
   exact fk (y:= .row [.d (.i a.op), .d (.i a.n), .aM]) (by(repeat(first|rfl|rw[aG]|rw[ay _ _ _ _ (by omega)]))) (by unfold jO;(repeat(first|rfl|rw[aG]|rw[ay _ _ _ _ (by omega)]))) (my rfl (jW (jW (sx 0 rfl rfl rfl mw))))
  ·exact fk (y:=jO a b 36 .aM j) (by unfold jO;rw[od]) ((ay _ _ _ _ (by omega)).trans (re e1)) (ko rfl (fun r hr=>hg.refs j r hr))
 ·unfold jO;(repeat(first|rfl|rw[aG]|rw[ay _ _ _ _ (by omega)]))
 ·(repeat(first|exact jV|refine iG ?_|refine g8 rfl ?_|refine g8 (bT (bS (by omega))) ?_|refine pK 0 rfl rfl rfl ?_|refine pJ rfl (by simp[V.refs,V.aw]<;>first|omega|assumption) ?_|refine pL rfl (by simp[V.ids]<;>omega) ?_))
 rintro⟨k,done⟩ ⟨hk,hd,qi⟩
 simp only at hk hd qi
 simp+contextual (disch:=first|omega|simp only[go_sem,false_implies]) only[go_sem,wrap64,if_pos,List.length_map]
 refine aH (fun h5=> ?_) (fun h5=> ?_)
 ·simp at h5
  obtain⟨x,hx⟩:=bt h5
  obtain⟨y,hy⟩:=bt (l:=b.kids) (k:=k) (by omega)
  have jk:=List.mem_of_getElem? hx
  have Ce:=List.mem_of_getElem? hy
  have QI:cq (a.kids.drop k) (b.kids.drop k)=match jo x y with
   |some z=>(cq (a.kids.drop (k+1)) (b.kids.drop (k+1))).map fun m=>z::m
   |none=>none:=by
   obtain⟨g1,g2⟩:=List.getElem?_eq_some_iff.1 hx
   obtain⟨g3,g4⟩:=List.getElem?_eq_some_iff.1 hy
   rw[List.drop_eq_getElem_cons g1,List.drop_eq_getElem_cons g3,g2,g4,cq]
   cases jo x y<;>rfl
  rw[QI]at qi
  simp+contextual (disch:=first|omega|simp only[go_sem,false_implies]) only[go_sem,wrap64,if_pos,hx,hy]
  refine pn (ih x jk (yO.2 x jk) (by have:=oh jk;omega) y (sW.2 y Ce)) ?_
  simp+contextual (disch:=first|omega|simp only[go_sem,false_implies]) only[go_sem,wrap64,if_pos,hx,hy]
  refine cc (by decide) ?_
  cases hz:jo x y with
  |none=>
   have ez:rb x y=(x,false):=by unfold rb;rw[hz]
   rw[hz]at qi
   simp only[Option.map_none]at qi
   have e:rb a b=(a,false):=by unfold rb;rw[hr,qi];rfl
   rw[ez,e]
   simp+contextual (disch:=first|omega|simp only[go_sem,false_implies]) only[go_sem,wrap64,if_pos,and_self]
  |some z=>
   have ez:rb x y=(z,true):=by unfold rb;rw[hz]
   rw[hz]at qi
   rw[ez]
   simp+contextual (disch:=first|omega|simp only[go_sem,false_implies]) only[go_sem,wrap64,if_pos,hd]
   refine aW (k+1,done++[z]) ⟨h5,by simp[hd], ?_⟩ (by dsimp only;omega) (cR.Cd (fun j=>j=39) (.osl 39 1) 39 _ (by omega) (fun j hj=> ?_) (aG _ _ _) (.inr ⟨39,1,rfl,rfl, ?_⟩) (fun j hj=> ?_) (fun j h h2=>by omega) ?_)
   ·rw[qi]
    cases cq (a.kids.drop (k+1)) (b.kids.drop (k+1))<;>simp
   ·by_cases e1:j=36
    ·subst e1
     exact fk (y:= .row [.d (.i a.op), .d (.i a.n), .osl 39 1]) (by(repeat(first|rfl|rw[aG]|rw[ay _ _ _ _ (by omega)]))) (by unfold jO;(repeat(first|rfl|rw[aG]|rw[ay _ _ _ _ (by omega)]))) (my rfl (jW (jW (sx 0 rfl rfl rfl mw))))
    ·exact fk (y:=jO a b 36 .aM j) (by rw[ay _ _ _ _ e1,ay _ _ _ _ (by omega),ay _ _ _ _ (by omega),ay _ _ _ _ (by omega),ay _ _ _ _ (by omega),ay _ _ _ _ (by omega)];exact re e1) ((ay _ _ _ _ (by omega)).trans (re e1)) (ko rfl (fun r hr=>hg.refs j r hr))
   ·(repeat(first|rfl|rw[aG]|rw[ay _ _ _ _ (by omega)]))
    simp
   ·unfold jO;(repeat(first|rfl|rw[aG]|rw[ay _ _ _ _ (by omega)]))
   ·(repeat(first|exact jV|refine iG ?_|refine g8 rfl ?_|refine g8 (bT (bS (by omega))) ?_|refine pK 0 rfl rfl rfl ?_|refine pJ rfl (by simp[V.refs,V.aw]<;>first|omega|assumption) ?_|refine pL rfl (by simp[V.ids]<;>omega) ?_))
 ·simp at h5
  have Cz:k=a.kids.length:=by omega
  subst Cz
  rw[List.drop_eq_nil_of_le (Nat.le_refl _)]at qi
  simp only[cq,Option.map_some,List.append_nil]at qi
  have e:rb a b=(.mk a.op a.n done,true):=by unfold rb;rw[hr,qi];rfl
  rw[e]
  simp+contextual (disch:=first|omega|simp only[go_sem,false_implies]) only[go_sem,wrap64,if_pos,and_self]
  rw[Tm.zX]
end Go.Proofs.YtpkobkdgcanmjaaGreat
namespace Go.Proofs.YtpkobkdgcanmjaaGreat
def fK:Tm:= .mk 0 0 []
theorem gA:fK.d= .agg [.i 0, .i 0, .sl []]:=by unfold fK;rw[Tm.zX];rfl
def jE(a b:Tm):Tm×Bool:=if nG a b=true then(b,true)else if nG b a=true then(a,true)else if a.op≠b.op\/a.n≠b.n\/a.kids.length≠b.kids.length then(fK,false)else
 match kG a.kids b.kids with
 |some l=>(.mk a.op a.n l,decide (0<(l.length:Int)))
 |none=>(fK,false)
theorem DG(a b:Tm):A8 a b=if(jE a b).2=true then some (jE a b).1 else none:=by
 rw[AM];unfold jE
 by_cases h1:nG a b=true
 ·simp[h1]
 rw[if_neg h1,if_neg h1]
 by_cases h2:nG b a=true
 ·simp[h2]
 rw[if_neg h2,if_neg h2]
 by_cases h3:a.op≠b.op\/a.n≠b.n\/a.kids.length≠b.kids.length
 ·rw[if_pos h3,if_pos h3];rfl
 rw[if_neg h3,if_neg h3]
 cases kG a.kids b.kids with
 |none=>rfl
 |some l=>cases l<;>simp
theorem xm{a b:Tm}(h:A8 a b=none):(jE a b).2=false:=by
 rw[DG]at h
 cases e:(jE a b).2 with
 |false=>rfl
 |true=>rw[e]at h;cases h
theorem xn{a b z:Tm}(h:A8 a b=some z):jE a b=(z,true):=by
 rw[DG]at h
 cases e:(jE a b).2 with
 |false=>rw[e]at h;cases h
 |true=>
  rw[e]at h
  injection h with h
  rw[<- h, <- e]
theorem Cp{s:bX}:∀a:Tm,a.fits->Pn s a->a.sz<=1000000->∀b:Tm,b.fits->Pn s b->b.sz<=1000000->bJ Tryz.prog 43 [a.d,b.d] (.ret [(jE a b).1.d, .bool (jE a b).2]):=by
 refine Tm.ja fun a ih ha pa za b hb pb zb=> ?_
 have yO:=(Tm.bF _).1 ha
 have sW:=(Tm.bF _).1 hb
 refine bJ.bg mix IU (by simp) ?_
 rw[PE]
 simp+contextual (disch:=first|omega|simp only[go_sem,false_implies]) only[go_sem,wrap64,if_pos,and_self]
 refine ae (pU a ha pa b hb pb) rfl ?_
 cases h1:nG a b with
 |true=>
  have e:jE a b=(b,true):=by unfold jE;rw[if_pos h1]
  rw[e]
  simp+contextual (disch:=first|omega|simp only[go_sem,false_implies]) only[go_sem,wrap64,if_pos,and_self]
  refine br (uQ [b] (by simp) (by simpa using zb)) ?_
  simp+contextual (disch:=first|omega|simp only[go_sem,false_implies]) only[go_sem,wrap64,if_pos,and_self]
 |false=>
 simp+contextual (disch:=first|omega|simp only[go_sem,false_implies]) only[go_sem,wrap64,if_pos,and_self]
 refine ae (pU b hb pb a ha pa) rfl ?_
 have n1: ¬nG a b=true:=by rw[h1];simp
 cases h2:nG b a with
 |true=>
  have e:jE a b=(a,true):=by unfold jE;rw[if_neg n1,if_pos h2]
  rw[e]
  simp+contextual (disch:=first|omega|simp only[go_sem,false_implies]) only[go_sem,wrap64,if_pos,and_self]
  refine br (uQ [a] (by simp) (by simpa using za)) ?_
  simp+contextual (disch:=first|omega|simp only[go_sem,false_implies]) only[go_sem,wrap64,if_pos,and_self]
 |false=>
 have n2: ¬nG b a=true:=by rw[h2];simp
 by_cases h3:a.op≠b.op\/a.n≠b.n\/a.kids.length≠b.kids.length
 ·have e:jE a b=(fK,false):=by unfold jE;rw[if_neg n1,if_neg n2,if_pos h3]
  have G8:(a.op !=b.op||a.n !=b.n||(a.kids.length:Int)!=(b.kids.length:Int))=true:=by
   rcases h3 with h|h|h
   ·simp[h]
   ·simp[h]
   ·have:((a.kids.length:Int)!=(b.kids.length:Int))=true:=by simp;omega
    simp[this]
  rw[e,gA]
  simp+contextual (disch:=first|omega|simp only[go_sem,false_implies]) only[go_sem,wrap64,if_pos,G8,List.length_map]
 have e1:a.op=b.op:=Classical.byContradiction fun e=>h3 (.inl e)
 have e2:a.n=b.n:=Classical.byContradiction fun e=>h3 (.inr (.inl e))
 have e3:a.kids.length=b.kids.length:=Classical.byContradiction fun e=>h3 (.inr (.inr e))
 have G8:(a.op !=b.op||a.n !=b.n||(a.kids.length:Int)!=(b.kids.length:Int))=false:=by simp[e1,e2,e3]
 simp+contextual (disch:=first|omega|simp only[go_sem,false_implies]) only[go_sem,wrap64,if_pos,G8,List.length_map]
 have hn:=oi a.kids
 have TH:sN a.kids<=1000000:=by rw[Tm.pP]at za;omega
 have T1:sN b.kids<=1000000:=by rw[Tm.pP]at zb;omega
 have hg:Good (jO a b 36 .aM) 42:=(by repeat(first|exact hg.mono (by omega)|exact Good.nil|refine Good.aQ ?_ (by omega) rfl|refine Good.aQ ?_ (by omega) (uH _ _ _ (by omega))|refine Good.aQ ?_ (by omega) (by simp[aa.refs,V.aw,V.refs]<;>omega)))
 refine bN (fun i:Nat×List Tm=>⟨bD [.ak, .ak, .ptr 0 0, .ptr 1 0, .ptr 2 0, .ak, .ptr 36 0, .ak, .ak, .ak, .ak, .ak, .ak, .ak, .ak, .ak, .ak, .ak, .ak, .ak, .ak, .ak, .ak, .ak, .ak, .ak, .ak, .ak, .ak, .ak, .ak, .ak, .ak, .ak, .ak, .ak, .ak, .ak, .ak, .ak, .ak, .ak, .ak, .ak, .ak, .ak, .ak, .ak, .ak, .ak, .ak, .ak, .ak, .ak, .ak, .d (.sl (a.kids.map Tm.d)), .d (.i a.kids.length), .d (.i i.1)],aQ (jO a b 36 (.osl 42 0)) 42 (.arr 0 28 3 (i.2.map Tm.d)),43⟩)
  (fun i=>i.1<=a.kids.length/\i.2.length=i.1/\kG a.kids b.kids=(kG (a.kids.drop i.1) (b.kids.drop i.1)).map fun m=>i.2++m) (fun i=>a.kids.length - i.1) (0,[]) ⟨Nat.zero_le _,rfl,by simp⟩ (cR.Cd (ty:=28) (sz:=3) (es:=[]) (fun _=>False) .aM 42 _ (by omega) (fun j hj=> ?_) (by rw[aG];rfl) (.inl ⟨rfl,rfl,by decide⟩) (fun j hj=> ?_) (fun _ h=>h.elim) ?_) ?_
 ·by_cases e1:j=36
  ·subst e1
   exact fk (y:= .row [.d (.i a.op), .d (.i a.n), .aM]) (by(repeat(first|rfl|rw[aG]|rw[ay _ _ _ _ (by omega)]))) (by unfold jO;(repeat(first|rfl|rw[aG]|rw[ay _ _ _ _ (by omega)]))) (my rfl (jW (jW (sx 0 rfl rfl rfl mw))))
  ·exact fk (y:=jO a b 36 .aM j) (by unfold jO;rw[od]) ((ay _ _ _ _ (by omega)).trans (re e1)) (ko rfl (fun r hr=>hg.refs j r hr))
 ·unfold jO;(repeat(first|rfl|rw[aG]|rw[ay _ _ _ _ (by omega)]))
 ·(repeat(first|exact jV|refine iG ?_|refine g8 rfl ?_|refine g8 (bT (bS (by omega))) ?_|refine pK 0 rfl rfl rfl ?_|refine pJ rfl (by simp[V.refs,V.aw]<;>first|omega|assumption) ?_|refine pL rfl (by simp[V.ids]<;>omega) ?_))
 rintro⟨k,done⟩ ⟨hk,hd,qi⟩
 simp only at hk hd qi
 simp+contextual (disch:=first|omega|simp only[go_sem,false_implies]) only[go_sem,wrap64,if_pos,List.length_map]
 refine aH (fun h5=> ?_) (fun h5=> ?_)
 ·simp at h5
  obtain⟨x,hx⟩:=bt h5
  obtain⟨y,hy⟩:=bt (l:=b.kids) (k:=k) (by omega)
  have jk:=List.mem_of_getElem? hx
  have Ce:=List.mem_of_getElem? hy
  have QI:kG (a.kids.drop k) (b.kids.drop k)=match A8 x y with
   |some z=>(kG (a.kids.drop (k+1)) (b.kids.drop (k+1))).map fun m=>z::m
   |none=>none:=by
   obtain⟨g1,g2⟩:=List.getElem?_eq_some_iff.1 hx
   obtain⟨g3,g4⟩:=List.getElem?_eq_some_iff.1 hy
   rw[List.drop_eq_getElem_cons g1,List.drop_eq_getElem_cons g3,g2,g4,kG]
   cases A8 x y<;>rfl
  rw[QI]at qi
  simp+contextual (disch:=first|omega|simp only[go_sem,false_implies]) only[go_sem,wrap64,if_pos,hx,hy]
  refine pn (ih x jk (yO.2 x jk) (pa.u0 jk) (by have:=oh jk;omega) y (sW.2 y Ce) (pb.u0 Ce) (by have:=oh Ce;omega)) ?_
  simp+contextual (disch:=first|omega|simp only[go_sem,false_implies]) only[go_sem,wrap64,if_pos,hx,hy]
  refine cc (by decide) ?_
  cases hz:A8 x y with
  |none=>
   have ez:=xm hz
   rw[hz]at qi
   simp only[Option.map_none]at qi
   have e:jE a b=(fK,false):=by unfold jE;rw[if_neg n1,if_neg n2,if_neg h3,qi]
   rw[ez,e,gA]
   simp+contextual (disch:=first|omega|simp only[go_sem,false_implies]) only[go_sem,wrap64,if_pos,and_self]
  |some z=>
   have ez:=xn hz
   rw[hz]at qi
   rw[ez]
   simp+contextual (disch:=first|omega|simp only[go_sem,false_implies]) only[go_sem,wrap64,if_pos,hd]
   refine aW (k+1,done++[z]) ⟨h5,by simp[hd], ?_⟩ (by dsimp only;omega) (cR.Cd (fun j=>j=42) (.osl 42 1) 42 _ (by omega) (fun j hj=> ?_) (aG _ _ _) (.inr ⟨42,1,rfl,rfl, ?_⟩) (fun j hj=> ?_) (fun j h h2=>by omega) ?_)
   ·rw[qi]
    cases kG (a.kids.drop (k+1)) (b.kids.drop (k+1))<;>simp
   ·by_cases e1:j=36
    ·subst e1
     exact fk (y:= .row [.d (.i a.op), .d (.i a.n), .osl 42 1]) (by(repeat(first|rfl|rw[aG]|rw[ay _ _ _ _ (by omega)]))) (by unfold jO;(repeat(first|rfl|rw[aG]|rw[ay _ _ _ _ (by omega)]))) (my rfl (jW (jW (sx 0 rfl rfl rfl mw))))
    ·exact fk (y:=jO a b 36 .aM j) (by rw[ay _ _ _ _ e1,ay _ _ _ _ (by omega),ay _ _ _ _ (by omega),ay _ _ _ _ (by omega),ay _ _ _ _ (by omega),ay _ _ _ _ (by omega),ay _ _ _ _ (by omega),ay _ _ _ _ (by omega)];exact re e1) ((ay _ _ _ _ (by omega)).trans (re e1)) (ko rfl (fun r hr=>hg.refs j r hr))
   ·(repeat(first|rfl|rw[aG]|rw[ay _ _ _ _ (by omega)]))
    simp
   ·unfold jO;(repeat(first|rfl|rw[aG]|rw[ay _ _ _ _ (by omega)]))
   ·(repeat(first|exact jV|refine iG ?_|refine g8 rfl ?_|refine g8 (bT (bS (by omega))) ?_|refine pK 0 rfl rfl rfl ?_|refine pJ rfl (by simp[V.refs,V.aw]<;>first|omega|assumption) ?_|refine pL rfl (by simp[V.ids]<;>omega) ?_))
 ·simp at h5
  have Cz:k=a.kids.length:=by omega
  subst Cz
  rw[List.drop_eq_nil_of_le (Nat.le_refl _)]at qi
  simp only[kG,Option.map_some,List.append_nil]at qi
  have e:jE a b=(.mk a.op a.n done,decide (0<(done.length:Int))):=by unfold jE;rw[if_neg n1,if_neg n2,if_neg h3,qi]
  rw[e]
  simp+contextual (disch:=first|omega|simp only[go_sem,false_implies]) only[go_sem,wrap64,if_pos,and_self]
  refine cc (by decide) ?_
  simp+contextual (disch:=first|omega|simp only[go_sem,false_implies]) only[go_sem,wrap64,if_pos,and_self]
  rw[Tm.zX]
theorem uR:∀a b j:Tm,a.fits->b.fits->jo a b=some j->j.fits:=by
 refine Tm.ja fun a ih b j ha hb h=> ?_
 have yO:=(Tm.bF _).1 ha
 have sW:=(Tm.bF _).1 hb
 rw[gN]at h
 by_cases h1:a.op=16
 ·rw[if_pos h1]at h;injection h with h;subst h;exact hb
 rw[if_neg h1]at h
 by_cases h2:b.op=16
 ·rw[if_pos h2]at h;injection h with h;subst h;exact ha
 rw[if_neg h2]at h
 by_cases h3:a.op≠b.op\/a.n≠b.n\/a.kids.length≠b.kids.length
 ·rw[if_pos h3]at h;cases h
 rw[if_neg h3]at h
 have e3:a.kids.length=b.kids.length:=Classical.byContradiction fun e=>h3 (.inr (.inr e))
 cases hr:cq a.kids b.kids with
 |none=>rw[hr]at h;cases h
 |some l=>
  rw[hr]at h
  injection h with h
  subst h
  have hlen:=uJ _ _ _ e3 hr
  have key:∀l m j:List Tm,(∀k∈l,k∈a.kids)->(∀k∈m,k.fits)->cq l m=some j->∀k∈j,k.fits:=by
   intro l
   induction l with
   |nil=>intro m j _ _ hj k hk;simp only[cq]at hj;injection hj with hj;subst hj;cases hk
   |cons x l yo=>
    intro m j h hm hj k hk
    cases m with
    |nil=>simp only[cq]at hj;injection hj with hj;subst hj;cases hk
    |cons y m=>
     rw[cq]at hj
     cases e:jo x y with
     |none=>rw[e]at hj;cases hj
     |some z=>
      rw[e]at hj
      cases e5:cq l m with
      |none=>rw[e5]at hj;cases hj
      |some w=>
       rw[e5]at hj
       injection hj with hj
       subst hj
       rcases List.mem_cons.1 hk with rfl|hk
       ·exact ih x (h x (by simp)) y _ (yO.2 x (h x (by simp))) (hm y (by simp)) e
       ·exact yo m w (fun q hq=>h q (by simp[hq])) (fun q hq=>hm q (by simp[hq])) e5 k hk
  exact(Tm.bF _).2 ⟨by simp[Tm.kids];omega,fun k hk=>key _ _ _ (fun _ h=>h) sW.2 hr k hk⟩
def eE(s:bX)(a b:Tm):Tm×Int:=if bd s [a,b]=true then(match jo a b with
 |some j=>if qg s j=true then(j,0)else(fK,3)
 |none=>(fK,5))else(fK,2)
theorem Fu{s:bX}{a b:Tm}(h:bd s [a,b]=true):(Pn s a/\a.sz<=80)/\Pn s b/\b.sz<=80:=by
 simp[bd,qg,j5]at h
 have h1:Pn s a:=h.2.1.2
 have h2:Pn s b:=h.2.2.2
 exact⟨⟨h1,by omega⟩,h2,by omega⟩
theorem Cq(s:bX)(hs:s.Fits)(a b:Tm)(ha:a.fits)(hb:b.fits):bJ Tryz.prog 11 [s.d,a.d,b.d] (.ret [(eE s a b).1.d, .i (eE s a b).2]):=by
 refine bJ.bg mix IA (by simp) ?_
 rw[O4]
 simp+contextual (disch:=first|omega|simp only[go_sem,false_implies]) only[go_sem,wrap64,if_pos,and_self]
 refine ae (na s hs [a,b] (by simp) (fun x hx=>by simp at hx;rcases hx with rfl|rfl<;>assumption)) rfl ?_
 cases h1:bd s [a,b]with
 |false=>
  have e:eE s a b=(fK,2):=by simp[eE,h1]
  rw[e,gA]
  simp+contextual (disch:=first|omega|simp only[go_sem,false_implies]) only[go_sem,wrap64,if_pos,and_self]
 |true=>
  obtain⟨⟨pa,za⟩,pb,zb⟩:=Fu h1
  have ND:=Ck a b pa pb
  simp+contextual (disch:=first|omega|simp only[go_sem,false_implies]) only[go_sem,wrap64,if_pos,and_self]
  refine br (Cp a ha pa (by omega) b hb pb (by omega)) ?_
  cases hr:jo a b with
  |none=>
   have e:eE s a b=(fK,5):=by simp[eE,h1,hr]
   rw[hr]at ND
   rw[xm ND,e,gA]
   simp+contextual (disch:=first|omega|simp only[go_sem,false_implies]) only[go_sem,wrap64,if_pos,and_self]
  |some j=>
   rw[hr]at ND
   rw[xn ND]
   simp+contextual (disch:=first|omega|simp only[go_sem,false_implies]) only[go_sem,wrap64,if_pos,and_self]
   refine ae (xl s hs j (uR a b j ha hb hr)) rfl ?_
   cases hv:qg s j with
   |false=>
    have e:eE s a b=(fK,3):=by simp[eE,h1,hr,hv]
    rw[e,gA]
    simp+contextual (disch:=first|omega|simp only[go_sem,false_implies]) only[go_sem,wrap64,if_pos,and_self]
   |true=>
    have e:eE s a b=(j,0):=by simp[eE,h1,hr,hv]
    rw[e]
    simp+contextual (disch:=first|omega|simp only[go_sem,false_implies]) only[go_sem,wrap64,if_pos,and_self]
theorem Cr(t:Tm)(ht:t.fits):bJ Tryz.prog 14 [t.d] (.ret [.bool (mm t fK)]):=by
 refine bJ.bg mix IE (by simp) ?_
 rw[O7]
 have h:=AA t ht fK (by simp[fK,Tm.fits,Tm.pt])
 rw[gA]at h
 simp+contextual (disch:=first|omega|simp only[go_sem,false_implies]) only[go_sem,wrap64,if_pos,and_self]
 refine ae h rfl ?_
 simp+contextual (disch:=first|omega|simp only[go_sem,false_implies]) only[go_sem,wrap64,if_pos,and_self]
end Go.Proofs.YtpkobkdgcanmjaaGreat
namespace Go.Proofs.YtpkobkdgcanmjaaGreat
theorem yF:fK.fits:=by simp[fK,Tm.fits,Tm.pt]
theorem yG:mm fK fK=true:=by rfl
theorem mC:bJ Tryz.prog 14 [.agg [.i 0, .i 0, .sl []]] (.ret [.bool true]):=by
 have h:=Cr fK yF
 rw[yG,gA]at h
 exact h
theorem AX{s:bX}{t:Tm}(h:qg s t=true):mB t=true:=by
 simp only[qg,Bool.and_eq_true,decide_eq_true_eq,j5]at h
 simp only[mB,decide_eq_true_eq,j5]
 omega
set_option maxHeartbeats 2000000 in
theorem qj(Cs:bJ Tryz.prog 8 [] (.ret [.bool true]))(s:bX)(hs:s.Fits)(a b:Tm)(ha:a.fits)(hb:b.fits):bJ Tryz.prog 3 [s.d,a.d,b.d] (.ret [.bool true]):=by
 refine bJ.bg mix Rl (by simp) ?_
 rw[c3]
 simp+contextual (disch:=first|omega|simp only[go_sem,false_implies]) only[go_sem,wrap64,if_pos,and_self]
 refine ae (vX s hs) rfl ?_
 cases h1:iE s with
 |false=>
  simp+contextual (disch:=first|omega|simp only[go_sem,false_implies]) only[go_sem,wrap64,if_pos,and_self]
  refine ae Cs rfl ?_
  simp+contextual (disch:=first|omega|simp only[go_sem,false_implies]) only[go_sem,wrap64,if_pos,and_self]
 |true=>
 simp+contextual (disch:=first|omega|simp only[go_sem,false_implies]) only[go_sem,wrap64,if_pos,and_self]
 refine ae (pS a ha) rfl ?_
 cases h2:mB a with
 |false=>
  simp+contextual (disch:=first|omega|simp only[go_sem,false_implies]) only[go_sem,wrap64,if_pos,and_self]
  refine ae Cs rfl ?_
  simp+contextual (disch:=first|omega|simp only[go_sem,false_implies]) only[go_sem,wrap64,if_pos,and_self]
 |true=>
 simp+contextual (disch:=first|omega|simp only[go_sem,false_implies]) only[go_sem,wrap64,if_pos,and_self]
 refine ae (pS b hb) rfl ?_
 cases h3:mB b with
 |false=>
  simp+contextual (disch:=first|omega|simp only[go_sem,false_implies]) only[go_sem,wrap64,if_pos,and_self]
  refine ae Cs rfl ?_
  simp+contextual (disch:=first|omega|simp only[go_sem,false_implies]) only[go_sem,wrap64,if_pos,and_self]
 |true=>
 have hc:=v7 s hs a ha
 have nV:=Co s hs a b ha hb
 have hj:=Cq s hs a b ha hb
 have Gz:=sE s hs a ha
 have GA:=sE s hs b hb
 have GC:=ME s hs
 cases h4:(ml s&&qg s a)with
 |false=>
  have l1:bd s [a]=false:=by simpa[bd]using h4
  have l2:bd s [a,b]=false:=by
   rw[Bool.eq_false_iff];intro h
   simp[bd]at h
   simp[h.1,h.2.1]at h4
  have e:eE s a b=(fK,2):=by simp[eE,l2]
  rw[l1]at hc
  rw[l2]at nV
  rw[e,gA]at hj
  simp only[Bool.false_and,eT,Bool.false_eq_true,if_false]at hc nV
  simp+contextual (disch:=first|omega|simp only[go_sem,false_implies]) only[go_sem,wrap64,if_pos,and_self]
  refine ae hc rfl ?_
  simp+contextual (disch:=first|omega|simp only[go_sem,false_implies]) only[go_sem,wrap64,if_pos,and_self]
  refine ae nV rfl ?_
  simp+contextual (disch:=first|omega|simp only[go_sem,false_implies]) only[go_sem,wrap64,if_pos,and_self]
  refine br hj ?_
  simp+contextual (disch:=first|omega|simp only[go_sem,false_implies]) only[go_sem,wrap64,if_pos,and_self]
  refine ae GC rfl ?_
  cases h5:ml s with
  |false=>
   simp+contextual (disch:=first|omega|simp only[go_sem,false_implies]) only[go_sem,wrap64,if_pos,and_self]
   refine ae mC rfl ?_
   simp+contextual (disch:=first|omega|simp only[go_sem,false_implies]) only[go_sem,wrap64,if_pos,and_self]
   refine ae Cs rfl ?_
   simp+contextual (disch:=first|omega|simp only[go_sem,false_implies]) only[go_sem,wrap64,if_pos,and_self]
  |true=>
   rw[h5,Bool.true_and]at h4
   simp+contextual (disch:=first|omega|simp only[go_sem,false_implies]) only[go_sem,wrap64,if_pos,and_self]
   refine ae Gz rfl ?_
   rw[h4]
   simp+contextual (disch:=first|omega|simp only[go_sem,false_implies]) only[go_sem,wrap64,if_pos,and_self]
   refine ae mC rfl ?_
   simp+contextual (disch:=first|omega|simp only[go_sem,false_implies]) only[go_sem,wrap64,if_pos,and_self]
   refine ae Cs rfl ?_
   simp+contextual (disch:=first|omega|simp only[go_sem,false_implies]) only[go_sem,wrap64,if_pos,and_self]
 |true=>
 rw[Bool.and_eq_true]at h4
 have l1:bd s [a]=true:=by simp[bd,h4.1,h4.2]
 have l2:bd s [a,b]=qg s b:=by simp[bd,h4.1,h4.2]
 have pa:Pn s a:=by
  have h:=h4.2
  simp only[qg,Bool.and_eq_true]at h
  exact h.2
 have za:a.sz<=80:=by
  have h:=h4.2
  simp only[qg,Bool.and_eq_true,decide_eq_true_eq,j5]at h
  omega
 obtain⟨k1,k2,k3⟩:=AL a pa
 have t1:decide (1<=uI a)=dG 16 a:=by rw[Bool.eq_iff_iff,decide_eq_true_eq];exact k2
 have t2:(uI a==2)=(dG 16 a&&dG 1 a):=by rw[Bool.eq_iff_iff,beq_iff_eq,Bool.and_eq_true];exact k3
 have n1:∀x:Bool,(x !=x)=false:=fun x=>by cases x<;>rfl
 rw[l1,t1,t2]at hc
 rw[l2]at nV
 rw[h4.1]at GC
 rw[h4.2]at Gz
 simp only[Bool.true_and,eT,if_true]at hc
 simp+contextual (disch:=first|omega|simp only[go_sem,false_implies]) only[go_sem,wrap64,if_pos,and_self]
 refine ae hc rfl ?_
 simp+contextual (disch:=first|omega|simp only[go_sem,false_implies]) only[go_sem,wrap64,if_pos,and_self]
 refine ae nV rfl ?_
 cases h5:qg s b with
 |false=>
  rw[h5]at l2 GA
  have e:eE s a b=(fK,2):=by simp[eE,l2]
  rw[e,gA]at hj
  simp+contextual (disch:=first|omega|simp only[go_sem,false_implies]) only[go_sem,wrap64,if_pos,eT]
  refine br hj ?_
  simp+contextual (disch:=first|omega|simp only[go_sem,false_implies]) only[go_sem,wrap64,if_pos,and_self]
  refine ae GC rfl ?_
  simp+contextual (disch:=first|omega|simp only[go_sem,false_implies]) only[go_sem,wrap64,if_pos,and_self]
  refine ae Gz rfl ?_
  simp+contextual (disch:=first|omega|simp only[go_sem,false_implies]) only[go_sem,wrap64,if_pos,and_self]
  refine ae (j6 a ha) rfl ?_
  simp+contextual (disch:=first|omega|simp only[go_sem,false_implies]) only[go_sem,wrap64,if_pos,n1]
  refine ae (ku a ha) rfl ?_
  simp+contextual (disch:=first|omega|simp only[go_sem,false_implies]) only[go_sem,wrap64,if_pos,n1]
  refine ae GA rfl ?_
  simp+contextual (disch:=first|omega|simp only[go_sem,false_implies]) only[go_sem,wrap64,if_pos,and_self]
  refine ae mC rfl ?_
  simp+contextual (disch:=first|omega|simp only[go_sem,false_implies]) only[go_sem,wrap64,if_pos,and_self]
  refine ae Cs rfl ?_
  simp+contextual (disch:=first|omega|simp only[go_sem,false_implies]) only[go_sem,wrap64,if_pos,and_self]
 |true=>
 rw[h5]at l2 GA
 simp+contextual (disch:=first|omega|simp only[go_sem,false_implies]) only[go_sem,wrap64,if_pos,eT]
 cases hr:jo a b with
 |none=>
  have e:eE s a b=(fK,5):=by simp[eE,l2,hr]
  have e2:rb a b=(a,false):=by unfold rb;rw[hr]
  rw[e,gA]at hj
  refine br hj ?_
  simp+contextual (disch:=first|omega|simp only[go_sem,false_implies]) only[go_sem,wrap64,if_pos,and_self]
  refine ae GC rfl ?_
  simp+contextual (disch:=first|omega|simp only[go_sem,false_implies]) only[go_sem,wrap64,if_pos,and_self]
  refine ae Gz rfl ?_
  simp+contextual (disch:=first|omega|simp only[go_sem,false_implies]) only[go_sem,wrap64,if_pos,and_self]
  refine ae (j6 a ha) rfl ?_
  simp+contextual (disch:=first|omega|simp only[go_sem,false_implies]) only[go_sem,wrap64,if_pos,n1]
  refine ae (ku a ha) rfl ?_
  simp+contextual (disch:=first|omega|simp only[go_sem,false_implies]) only[go_sem,wrap64,if_pos,n1]
  refine ae GA rfl ?_
  simp+contextual (disch:=first|omega|simp only[go_sem,false_implies]) only[go_sem,wrap64,if_pos,and_self]
  refine ae (pT a ha b hb) rfl ?_
  simp+contextual (disch:=first|omega|simp only[go_sem,false_implies]) only[go_sem,wrap64,if_pos,n1]
  refine br (pV a ha (by omega) b hb) ?_
  rw[e2]
  simp+contextual (disch:=first|omega|simp only[go_sem,false_implies]) only[go_sem,wrap64,if_pos,and_self]
  refine ae mC rfl ?_
  simp+contextual (disch:=first|omega|simp only[go_sem,false_implies]) only[go_sem,wrap64,if_pos,and_self]
  refine ae Cs rfl ?_
  simp+contextual (disch:=first|omega|simp only[go_sem,false_implies]) only[go_sem,wrap64,if_pos,and_self]
 |some j=>
  have MO:=uR a b j ha hb hr
  have e2:rb a b=(j,true):=by unfold rb;rw[hr]
  cases hv:qg s j with
  |false=>
   have e:eE s a b=(fK,3):=by simp[eE,l2,hr,hv]
   rw[e,gA]at hj
   refine br hj ?_
   simp+contextual (disch:=first|omega|simp only[go_sem,false_implies]) only[go_sem,wrap64,if_pos,and_self]
   refine ae GC rfl ?_
   simp+contextual (disch:=first|omega|simp only[go_sem,false_implies]) only[go_sem,wrap64,if_pos,and_self]
   refine ae Gz rfl ?_
   simp+contextual (disch:=first|omega|simp only[go_sem,false_implies]) only[go_sem,wrap64,if_pos,and_self]
   refine ae (j6 a ha) rfl ?_
   simp+contextual (disch:=first|omega|simp only[go_sem,false_implies]) only[go_sem,wrap64,if_pos,n1]
   refine ae (ku a ha) rfl ?_
   simp+contextual (disch:=first|omega|simp only[go_sem,false_implies]) only[go_sem,wrap64,if_pos,n1]
   refine ae GA rfl ?_
   simp+contextual (disch:=first|omega|simp only[go_sem,false_implies]) only[go_sem,wrap64,if_pos,and_self]
   refine ae (pT a ha b hb) rfl ?_
   simp+contextual (disch:=first|omega|simp only[go_sem,false_implies]) only[go_sem,wrap64,if_pos,n1]
   refine br (pV a ha (by omega) b hb) ?_
   rw[e2]
   simp+contextual (disch:=first|omega|simp only[go_sem,false_implies]) only[go_sem,wrap64,if_pos,and_self]
   refine ae (sE s hs j MO) rfl ?_
   simp+contextual (disch:=first|omega|simp only[go_sem,false_implies]) only[go_sem,wrap64,if_pos,hv]
   refine ae mC rfl ?_
   simp+contextual (disch:=first|omega|simp only[go_sem,false_implies]) only[go_sem,wrap64,if_pos,and_self]
   refine ae Cs rfl ?_
   simp+contextual (disch:=first|omega|simp only[go_sem,false_implies]) only[go_sem,wrap64,if_pos,and_self]
  |true=>
   have e:eE s a b=(j,0):=by simp[eE,l2,hr,hv]
   rw[e]at hj
   refine br hj ?_
   simp+contextual (disch:=first|omega|simp only[go_sem,false_implies]) only[go_sem,wrap64,if_pos,and_self]
   refine ae GC rfl ?_
   simp+contextual (disch:=first|omega|simp only[go_sem,false_implies]) only[go_sem,wrap64,if_pos,and_self]
   refine ae Gz rfl ?_
   simp+contextual (disch:=first|omega|simp only[go_sem,false_implies]) only[go_sem,wrap64,if_pos,and_self]
   refine ae (j6 a ha) rfl ?_
   simp+contextual (disch:=first|omega|simp only[go_sem,false_implies]) only[go_sem,wrap64,if_pos,n1]
   refine ae (ku a ha) rfl ?_
   simp+contextual (disch:=first|omega|simp only[go_sem,false_implies]) only[go_sem,wrap64,if_pos,n1]
   refine ae GA rfl ?_
   simp+contextual (disch:=first|omega|simp only[go_sem,false_implies]) only[go_sem,wrap64,if_pos,and_self]
   refine ae (pT a ha b hb) rfl ?_
   simp+contextual (disch:=first|omega|simp only[go_sem,false_implies]) only[go_sem,wrap64,if_pos,n1]
   refine br (pV a ha (by omega) b hb) ?_
   rw[e2]
   simp+contextual (disch:=first|omega|simp only[go_sem,false_implies]) only[go_sem,wrap64,if_pos,and_self]
   refine ae (sE s hs j MO) rfl ?_
   simp+contextual (disch:=first|omega|simp only[go_sem,false_implies]) only[go_sem,wrap64,if_pos,hv]
   refine ae (pS j MO) rfl ?_
   simp+contextual (disch:=first|omega|simp only[go_sem,false_implies]) only[go_sem,wrap64,if_pos,AX hv]
   refine ae (AA j MO j MO) rfl ?_
   simp+contextual (disch:=first|omega|simp only[go_sem,false_implies]) only[go_sem,wrap64,if_pos,v3 j]
   refine ae Cs rfl ?_
   simp+contextual (disch:=first|omega|simp only[go_sem,false_implies]) only[go_sem,wrap64,if_pos,and_self]
end Go.Proofs.YtpkobkdgcanmjaaGreat
section
namespace Go.Proofs.YtpkobkdgcanmjaaGreat
open Go
def Fv:Nat->Bool:=fun g=> !([143,142,178,179,168,190,191,64,83,84,103,68,113,99,114,144,145,146,147,148,149,151,152,181,184,185,193,77,70,81]:List Nat).contains g
def xP:D:= .agg [.sl [.agg [.str [70,97,108,115,101], .i 0], .agg [.str [84,114,117,101], .i 0], .agg [.str [90], .i 0], .agg [.str [83], .i 1], .agg [.str [78,105,108], .i 0], .agg [.str [67,111,110,115], .i 2]], .sl [.agg [.str [97,100,100], .i 2], .agg [.str [111,114], .i 2], .agg [.str [99,111,105,110], .i 0], .agg [.str [108,101,110], .i 1]], .sl [.agg [.i 0, .sl [.agg [.i 3, .i 2, .sl []], .agg [.i 1, .i 0, .sl []]], .i 1, .i 0, .sl [], .i 1], .agg [.i 0, .sl [.agg [.i 3, .i 3, .sl [.agg [.i 1, .i 0, .sl []]]], .agg [.i 1, .i 1, .sl []]], .i 3, .i 3, .sl [.agg [.i 4, .i 0, .sl [.agg [.i 1, .i 0, .sl []], .agg [.i 1, .i 1, .sl []]]]], .i 2], .agg [.i 1, .sl [.agg [.i 3, .i 1, .sl []], .agg [.i 1, .i 0, .sl []]], .i 3, .i 1, .sl [], .i 1], .agg [.i 1, .sl [.agg [.i 1, .i 0, .sl []], .agg [.i 3, .i 1, .sl []]], .i 3, .i 1, .sl [], .i 1], .agg [.i 1, .sl [.agg [.i 3, .i 0, .sl []], .agg [.i 3, .i 0, .sl []]], .i 3, .i 0, .sl [], .i 0], .agg [.i 2, .sl [], .i 3, .i 2, .sl [], .i 0], .agg [.i 2, .sl [], .i 3, .i 3, .sl [.agg [.i 3, .i 2, .sl []]], .i 0], .agg [.i 3, .sl [.agg [.i 3, .i 5, .sl [.agg [.i 1, .i 0, .sl []], .agg [.i 1, .i 1, .sl []]]]], .i 3, .i 3, .sl [.agg [.i 4, .i 3, .sl [.agg [.i 1, .i 1, .sl []]]]], .i 2], .agg [.i 3, .sl [.agg [.i 1, .i 0, .sl []]], .i 4, .i 0, .sl [.agg [.i 1, .i 1, .sl []], .agg [.i 1, .i 1, .sl []]], .i 2]]]
def GD:D:= .agg [.i 6, .i 3, .i 3, .sl [.agg [.i 1, .i 7, .sl []]], .i 1, .sl [.agg [.i 3, .i 2, .sl []], .agg [.i 1, .i 7, .sl []]], .sl [.agg [.i 4, .i 3, .i 3, .sl [.agg [.i 3, .i 2, .sl []]], .i 0, .sl [], .sl [.agg [.i 4, .i 3, .i 2, .sl [], .i 0, .sl [], .sl []]]], .agg [.i 2, .i 1, .i 7, .sl [], .i 0, .sl [], .sl []], .agg [.i 4, .i 3, .i 3, .sl [.agg [.i 1, .i 7, .sl []]], .i 0, .sl [], .sl [.agg [.i 6, .i 1, .i 7, .sl [], .i 0, .sl [.agg [.i 1, .i 7, .sl []]], .sl [.agg [.i 2, .i 3, .i 2, .sl [], .i 0, .sl [], .sl []], .agg [.i 2, .i 1, .i 7, .sl [], .i 0, .sl [], .sl []], .agg [.i 2, .i 1, .i 7, .sl [], .i 0, .sl [], .sl []]]]]]]]
def QJ:D:= .agg [.i 4, .i 0, .sl [.agg [.i 3, .i 3, .sl [.agg [.i 3, .i 2, .sl []]]], .agg [.i 1, .i 0, .sl []]]]
def GF:D:= .agg [.i 4, .i 0, .sl [.agg [.i 4, .i 2, .sl []], .agg [.i 4, .i 2, .sl []]]]
def QK:D:= .agg [.i 6, .i 3, .i 3, .sl [.agg [.i 3, .i 2, .sl []]], .i 0, .sl [.agg [.i 3, .i 3, .sl [.agg [.i 3, .i 2, .sl []]]]], .sl [.agg [.i 6, .i 3, .i 2, .sl [], .i 5, .sl [], .sl [.agg [.i 4, .i 3, .i 2, .sl [], .i 0, .sl [], .sl []]]], .agg [.i 6, .i 3, .i 3, .sl [.agg [.i 3, .i 2, .sl []]], .i 6, .sl [], .sl [.agg [.i 4, .i 3, .i 3, .sl [.agg [.i 3, .i 2, .sl []]], .i 0, .sl [], .sl [.agg [.i 4, .i 3, .i 2, .sl [], .i 0, .sl [], .sl []]]]]], .agg [.i 2, .i 3, .i 3, .sl [.agg [.i 3, .i 2, .sl []]], .i 0, .sl [], .sl []]]]
def QL:D:= .agg [.i 6, .i 3, .i 3, .sl [.agg [.i 3, .i 2, .sl []]], .i 0, .sl [.agg [.i 3, .i 3, .sl [.agg [.i 3, .i 2, .sl []]]]], .sl [.agg [.i 6, .i 3, .i 2, .sl [], .i 5, .sl [], .sl [.agg [.i 4, .i 3, .i 2, .sl [], .i 0, .sl [], .sl []]]], .agg [.i 6, .i 3, .i 2, .sl [], .i 5, .sl [], .sl [.agg [.i 4, .i 3, .i 2, .sl [], .i 0, .sl [], .sl []]]], .agg [.i 2, .i 3, .i 3, .sl [.agg [.i 3, .i 2, .sl []]], .i 0, .sl [], .sl []]]]
def QM:D:= .sl [.agg [.i 1, .i 7, .sl []]]
def MP:mn Tryz.prog:=mn.of Fv [] (fun _ h=>by cases h)
theorem Fw:ss Tryz.prog bB MP 5000 20 []=some (.ret [xP]):=by kernel_rfl
theorem QN:bJ Tryz.prog 20 [] (.ret [xP]):=bJ.ll mix lq Fw
theorem Fx:ss Tryz.prog bB MP 5000 57 [xP]=some (.ret [.i 0]):=by kernel_rfl
theorem MQ:bJ Tryz.prog 57 [xP] (.ret [.i 0]):=bJ.ll mix lq Fx
def Ct:mn Tryz.prog:=mn.of Fv [(57,[xP], .ret [.i 0])] (fun x h=>by
 cases h with
 |head=>exact MQ
 |tail _ h=>cases h)
end Go.Proofs.YtpkobkdgcanmjaaGreat
end
section
namespace Go.Proofs.YtpkobkdgcanmjaaGreat
open Go
theorem Cu:ss Tryz.prog bB Ct 5000 29 [xP,QM,QJ,GD]=some (.ret [.agg [.i 3, .i 3, .sl [.agg [.i 1, .i 7, .sl []]]], .i 0]):=by kernel_rfl
theorem MR:bJ Tryz.prog 29 [xP,QM,QJ,GD] (.ret [.agg [.i 3, .i 3, .sl [.agg [.i 1, .i 7, .sl []]]], .i 0]):=bJ.ll mix lq Cu
end Go.Proofs.YtpkobkdgcanmjaaGreat
end
section
namespace Go.Proofs.YtpkobkdgcanmjaaGreat
open Go
theorem Cv:ss Tryz.prog bB Ct 5000 29 [xP, .sl [],GF,QK]=some (.ret [.agg [.i 3, .i 3, .sl [.agg [.i 3, .i 2, .sl []]]], .i 0]):=by kernel_rfl
theorem MS:bJ Tryz.prog 29 [xP, .sl [],GF,QK] (.ret [.agg [.i 3, .i 3, .sl [.agg [.i 3, .i 2, .sl []]]], .i 0]):=bJ.ll mix lq Cv
end Go.Proofs.YtpkobkdgcanmjaaGreat
end
section
namespace Go.Proofs.YtpkobkdgcanmjaaGreat
open Go
theorem Cw:ss Tryz.prog bB Ct 5000 29 [xP, .sl [],GF,QL]=some (.ret [.agg [.i 0, .i 0, .sl []], .i 7]):=by kernel_rfl
theorem MT:bJ Tryz.prog 29 [xP, .sl [],GF,QL] (.ret [.agg [.i 0, .i 0, .sl []], .i 7]):=bJ.ll mix lq Cw
end Go.Proofs.YtpkobkdgcanmjaaGreat
end
section
namespace Go.Proofs.YtpkobkdgcanmjaaGreat
open Go
theorem Cy:ss Tryz.prog bB Ct 5000 38 [xP,GD]=some (.ret [.sl [.i 1, .i 0], .i 9, .i 0]):=by kernel_rfl
theorem MU:bJ Tryz.prog 38 [xP,GD] (.ret [.sl [.i 1, .i 0], .i 9, .i 0]):=bJ.ll mix lq Cy
end Go.Proofs.YtpkobkdgcanmjaaGreat
end
section
namespace Go.Proofs.YtpkobkdgcanmjaaGreat
open Go
def QO:mn Tryz.prog:=mn.of Fv [(57,[xP], .ret [.i 0]),(20,[], .ret [xP]),(29,[xP,QM,QJ,GD], .ret [.agg [.i 3, .i 3, .sl [.agg [.i 1, .i 7, .sl []]]], .i 0]),(29,[xP, .sl [],GF,QK], .ret [.agg [.i 3, .i 3, .sl [.agg [.i 3, .i 2, .sl []]]], .i 0]),(29,[xP, .sl [],GF,QL], .ret [.agg [.i 0, .i 0, .sl []], .i 7]),(38,[xP,GD], .ret [.sl [.i 1, .i 0], .i 9, .i 0])] (fun x h=>by
 simp only[List.mem_cons,List.not_mem_nil,or_false]at h
 rcases h with rfl|rfl|rfl|rfl|rfl|rfl
 ·exact MQ
 ·exact QN
 ·exact MR
 ·exact MS
 ·exact MT
 ·exact MU
 )
theorem v8:ss Tryz.prog bB QO 5000 8 []=some (.ret [.bool true]):=by kernel_rfl
theorem Fy:bJ Tryz.prog 8 [] (.ret [.bool true]):=bJ.ll mix lq v8
end Go.Proofs.YtpkobkdgcanmjaaGreat
end
section
namespace Go.Proofs.YtpkobkdgcanmjaaGreat
open Go.ChangeShapes Go.WideShapes Go.RowKit
def pW(P:Program)(rec:TypeId->Option (List TypeId)):Nat->List Field->Option (List TypeId)
 |_,[]=>some []
 |off,f::fs=>if f.offset=off then match rec f.type with
  |some l=>if P.cellsOf f.type=l.length then(pW P rec (off+l.length) fs).map (l++·)else none
  |none=>none else none
def jl(P:Program):Nat->TypeId->Option (List TypeId)
 |0,_=>none
 |n+1,t=>match P.underlying t with
  |some .bool|some (.int _)|some .string|some (.slice _)=>some [t]
  |some (.struct fs)=>pW P (jl P n) 0 fs.toList
  |some (.array k e)=>match jl P n e with
   |some l=>if P.cellsOf e=l.length then some (List.replicate k l).flatten else none
   |none=>none
  |_=>none
def isAgg(P:Program)(t:TypeId):Bool:=match P.underlying t with
 |some (.struct _)|some (.array _ _)=>true
 |_=>false
mutual
def D.g9 (P:Program):D->TypeId->Prop
 | .int k n,t=>P.underlying t=some (.int k)/\(Lit.int k n).wf=true
 | .bool _,t=>P.underlying t=some .bool
 | .str l,t=>P.underlying t=some .string/\l.length<=maxLen
 | .sl es,t=>∃e,P.underlying t=some (.slice e)/\es.length<=maxLen/\D.yH P es e
 | .agg cs,t=>isAgg P t=true/\∃ls,jl P 20 t=some ls/\D.fl P cs ls
 |_,_=>False
def D.yH (P:Program):List D->TypeId->Prop
 |[],_=>True
 |x::l,e=>D.g9 P x e/\D.yH P l e
def D.fl (P:Program):List D->List TypeId->Prop
 |[],ts=>ts=[]
 |x::l,ts=>∃t r,ts=t::r/\D.g9 P x t/\D.fl P l r
end
def oj(P:Program)(T:List TypeId):Bool:=T.all fun t=>match jl P 20 t with
 |some l=>decide (l.length=P.cellsOf t)&&decide (0<l.length)&&l.all fun u=>match P.underlying u with
  |some (.slice e)=>T.contains e
  |_=>true
 |none=>false
theorem mD{P:Program}:∀ {xs ys:List D} {l r:List TypeId},D.fl P xs l->D.fl P ys r->D.fl P (xs++ys) (l++r)
 |[],_,_,_,h,h'=>by simp only[D.fl]at h;subst h;exact h'
 |x::xs,_,_,_,h,h'=>by
  obtain⟨t,r,rfl,h1,h2⟩:=h
  exact⟨t,_,rfl,h1,mD h2 h'⟩
theorem aU{B:Nat->Prop}{w:World}:∀ {xs ys:List D} {l r:List Value},D.au B w xs l->D.au B w ys r->D.au B w (xs++ys) (l++r)
 |[],_,_,_,h,h'=>by simp only[D.au]at h;subst h;exact h'
 |x::xs,_,_,_,h,h'=>by
  obtain⟨t,r,rfl,h1,h2⟩:=h
  exact⟨t,_,rfl,h1,aU h2 h'⟩
theorem Flat.append {l r:List Value}(h:Flat l)(h':Flat r):Flat (l++r):=fun u hu=>(List.mem_append.1 hu).elim (h u) (h' u)
abbrev Fz:Nat->Prop:=fun _=>False
section
variable {H:Type}{enc:TypeId×Value->H}{P:Program}{W:World}{T:List TypeId}{b0:Nat}
def cL(P:Program)(W:World)(l:List TypeId)(cs:List Value):Prop:=∃xs,D.fl P xs l/\D.au Fz W xs cs/\Flat cs
theorem cL.append {l r:List TypeId}{cs ds:List Value}(h:cL P W l cs)(h':cL P W r ds):cL P W (l++r) (cs++ds):=by
 obtain⟨xs,a1,a2,a3⟩:=h
 obtain⟨ys,b1,b2,b3⟩:=h'
 exact⟨xs++ys,mD a1 b1,aU a2 b2,a3.append b3⟩
theorem cL.length {l:List TypeId}{cs:List Value}(h:cL P W l cs):cs.length=l.length:=by
 obtain⟨xs,a1,a2,_⟩:=h
 rw[D.aq _ _ a2]
 clear a2
 induction xs generalizing l with
 |nil=>simp only[D.fl]at a1;simp[a1]
 |cons x xs ih=>obtain⟨t,r,rfl,_,h⟩:=a1;simp[ih h]
theorem cL.nil:cL P W [] []:=⟨[],rfl,rfl,fun _ h=>by cases h⟩
theorem uS{α:Type}(cs:List α)(o k:Nat):cs.drop o=(cs.drop o).take k++cs.drop (o+k):=by
 rw[<- List.drop_drop];exact(List.take_append_drop k _).symm
theorem mE{rec:TypeId->Option (List TypeId)}{cs:List Value}{rd:TypeId->List Value->Prop}
 (a9:∀t l vs,rec t=some l->(∀u∈l,∀e,P.underlying u=some (.slice e)->e∈T)->P.cellsOf t=l.length->rd t vs->cL P W l vs):
 ∀ (fs:List Field) (off:Nat) (l:List TypeId),pW P rec off fs=some l->(∀u∈l,∀e,P.underlying u=some (.slice e)->e∈T)->(∀f∈fs,rd f.type ((cs.drop f.offset).take (P.cellsOf f.type)))->
   off+l.length=cs.length->cL P W l (cs.drop off)
 |[],off,l,h,_,_,hl=>by
  simp only[pW,Option.some.injEq]at h
  subst h
  have:cs.drop off=[]:=List.drop_eq_nil_of_le (by simp at hl;omega)
  rw[this];exact cL.nil
 |f::fs,off,l,h,hT,hr,hl=>by
  simp only[pW]at h
  split at h
  ·rename_i ho
   split at h
   ·rename_i l1 h1
    split at h
    ·rename_i hc
     simp only[Option.map_eq_some_iff]at h
     obtain⟨r,h2,rfl⟩:=h
     have hd:=hr f (by simp)
     rw[ho,hc]at hd
     rw[uS cs off l1.length]
     simp only[List.length_append]at hl
     exact(a9 f.type l1 _ h1 (fun u hu=>hT u (by simp[hu])) hc hd).append (mE a9 fs _ r h2 (fun u hu=>hT u (by simp[hu])) (fun f hf=>hr f (by simp[hf])) (by omega))
    ·cases h
   ·cases h
  ·cases h
theorem nH{l:List TypeId}{cs:List Value}:∀ (k i:Nat),(∀j,j<k->cL P W l ((cs.drop ((i+j)*l.length)).take l.length))->(i+k)*l.length=cs.length->cL P W (List.replicate k l).flatten (cs.drop (i*l.length))
 |0,i,_,hl=>by
  have:cs.drop (i*l.length)=[]:=List.drop_eq_nil_of_le (by simp at hl;omega)
  rw[this];exact cL.nil
 |k+1,i,h,hl=>by
  rw[List.replicate_succ,List.flatten_cons,uS cs (i*l.length) l.length]
  refine(by simpa using h 0 (by omega):cL P W l _).append ?_
  rw[show i*l.length+l.length=(i+1)*l.length by rw[Nat.add_mul];omega]
  refine nH k (i+1) (fun j hj=> ?_) (by rw[<- hl];congr 1;omega)
  have:=h (j+1) (by omega)
  rwa [show i+(j+1)=i+1+j by omega]at this
theorem uT{e:TypeId}{l:List TypeId}{cs:List Value}(hl:jl P 20 e=some l)(h:cL P W l cs):∃ (ev:Value) (x:D),ev.cells.toList=cs/\D.g9 P x e/\D.den Fz W x ev/\(isAgg P e=true->ev= .agg cs.toArray)/\(isAgg P e=false->cs=[ev]/\ev.oneCell'=true):=by
 obtain⟨xs,h1,h2,h3⟩:=h
 cases ha:isAgg P e with
 |true=>exact⟨.agg cs.toArray, .agg xs,by simp[Value.cells],⟨ha,l,hl,h1⟩,⟨_,rfl,by simpa using h2,by simpa using h3⟩,fun _=>rfl,(fun h=>by cases h)⟩
 |false=>
  have:l=[e]:=by
   unfold jl at hl
   unfold isAgg at ha
   split at hl<;>simp_all
  subst this
  obtain⟨t,r,e1,h4,h5⟩:∃x r,xs=x::r/\D.g9 P x e/\D.fl P r []:=by
   cases xs with
   |nil=>simp[D.fl]at h1
   |cons x r=>obtain⟨t,r',e1,h4,h5⟩:=h1;injection e1 with e1 e2;subst e1;subst e2;exact⟨x,r,rfl,h4,h5⟩
  subst e1
  have:r=[]:=by cases r with
   |nil=>rfl
   |cons y r=>obtain⟨_,_,e,_⟩:=h5;cases e
  subst this
  obtain⟨u,us,rfl,h6,h7⟩:=h2
  simp only[D.au]at h7
  subst h7
  have ho:=h3 u (by simp)
  refine⟨u,t, ?_,h4,h6,(fun h=>by cases h),fun _=>⟨rfl,ho⟩⟩
  cases u<;>simp_all[Value.oneCell',Value.cells]
theorem uU(hp:oj P T=true){t:TypeId}(ht:t∈T):∃l,jl P 20 t=some l/\l.length=P.cellsOf t/\0<l.length/\∀u∈l,∀e,P.underlying u=some (.slice e)->e∈T:=by
 have:=List.all_eq_true.1 hp t ht
 split at this
 ·rename_i l hl
  simp only[Bool.and_eq_true,decide_eq_true_eq,List.all_eq_true]at this
  refine⟨l,hl,this.1.1,this.1.2,fun u hu e he=> ?_⟩
  have:=this.2 u hu
  rw[he]at this
  simpa using this
 ·cases this
theorem v9(hp:oj P T=true):∀ (n m:Nat) (t:TypeId) (l:List TypeId) (cs:List Value) (x:DataW H×List MemPlace),jl P m t=some l->(∀u∈l,∀e,P.underlying u=some (.slice e)->e∈T)->
 P.cellsOf t=l.length->DataW.trod enc P W 0 (fun _=>true) true n t cs=some x->cL P W l cs:=by
 intro n
 induction n with
 |zero=>intro m t l cs x _ _ _ h;simp[DataW.trod]at h
 |succ n ih=>
  intro m t l cs x hl hT hc h
  cases m with
  |zero=>simp[jl]at hl
  |succ m=>
  unfold jl at hl
  split at hl
  ·rename_i hu
   injection hl with hl;subst hl
   obtain⟨b,rfl,_⟩:=DataW.trod_bool hu h
   exact⟨[.bool b],⟨t,[],rfl,hu,rfl⟩,⟨_,_,rfl,rfl,rfl⟩,by simp[Flat,Value.oneCell']⟩
  ·rename_i k hu
   injection hl with hl;subst hl
   obtain⟨b,rfl,_,hw⟩:=DataW.trod_int hu h
   exact⟨[.int k b],⟨t,[],rfl,⟨hu,hw⟩,rfl⟩,⟨_,_,rfl,rfl,rfl⟩,by simp[Flat,Value.oneCell']⟩
  ·rename_i hu
   injection hl with hl;subst hl
   obtain⟨s,rfl,_,hw⟩:=DataW.trod_string hu h
   exact⟨[.str s.data.toList],⟨t,[],rfl,⟨hu,by simpa using hw⟩,rfl⟩,⟨_,_,rfl,⟨s,rfl,rfl⟩,rfl⟩,by simp[Flat,Value.oneCell']⟩
  ·rename_i e hu
   injection hl with hl;subst hl
   rcases DataW.trod_slice hu h with⟨rfl,_⟩|⟨a,len,cap,elems,rest,n',hn,rfl,_,_,h2,h3,h4,h5,h6,_⟩
   ·exact⟨[.sl []],⟨t,[],rfl,⟨e,hu,by simp,trivial⟩,rfl⟩,⟨_,_,rfl,⟨none,0,0,rfl,rfl,by simp,fun _=>rfl,0,(fun a ha=>by cases ha)⟩,rfl⟩,by simp[Flat,Value.oneCell']⟩
   ·injection hn with hn;subst hn
    obtain⟨l',g1,g2,g3,g4⟩:=uU hp (hT t (by simp) e hu)
    have TI:∀i,i<len->∃ev:Value,∃y:D,ev.cells.size=P.cellsOf e/\eJ Fz W (a.add (i*P.cellsOf e)) ev.cells/\D.den Fz W y ev/\D.g9 P y e:=by
     intro i hi
     have:=h5 i hi
     rw[List.getElem?_eq_getElem (by omega)]at this
     obtain⟨ci,k1,k2⟩:=Option.bind_eq_some_iff.1 this
     obtain⟨_,k3,k4⟩:=World.cells?_some k1
     have k5:=ih 20 e l' ci _ g1 g4 g2.symm k2
     obtain⟨ev,y,q1,q2,q3,_,_⟩:=uT g1 k5
     have q4:ev.cells=ci.toArray:=by rw[<- q1]
     refine⟨ev,y,by rw[q4];simp[k5.length,g2],fun j u hj=>⟨?_,fun h=>h⟩,q3,q2⟩
     rw[q4]at hj
     have yI:ci[j]? =some u:=by simpa using hj
     have bz:j<P.cellsOf e:=by rw[<- g2, <- k5.length];exact(List.getElem?_eq_some_iff.1 yI).1
     rw[k4 j bz];exact yI
    have list:∀k i,i+k=len->∃es,es.length=k/\D.yH P es e/\D.elems Fz W (P.cellsOf e) a i es:=by
     intro k
     induction k with
     |zero=>intro i _;exact⟨[],rfl,trivial,trivial⟩
     |succ k MK=>
      intro i hi
      obtain⟨es,e1,e2,e3⟩:=MK (i+1) (by omega)
      obtain⟨ev,y,y1,y2,y3,y4⟩:=TI i (by omega)
      exact⟨y::es,by simp[e1],⟨y4,e2⟩,⟨ev,y1,y2,y3⟩,e3⟩
    obtain⟨es,e1,e2,e3⟩:=list len 0 (by omega)
    have MV:cap≠0->a.spot=none:=by
     intro rp
     have DH:∀z,(W.cells? 0 (a.add (0*P.cellsOf e)) (P.cellsOf e)).bind (DataW.trod enc P W 0 (fun _=>true) true n e)=some z->a.spot=none:=by
      intro z hz
      obtain⟨ci,k1,k2⟩:=Option.bind_eq_some_iff.1 hz
      obtain⟨_,k3,k4⟩:=World.cells?_some k1
      have k5:=k4 0 (by omega)
      rw[List.getElem?_eq_getElem (by omega)]at k5
      simpa[Addr.add]using World.cell?_spot k5
     by_cases hlen:0<len
     ·have:=h5 0 hlen
      rw[List.getElem?_eq_getElem (by omega)]at this
      exact DH _ this
     ·obtain⟨h7,h8⟩:=h6 rfl
      have:=h8 0 (by omega)
      rw[List.getElem?_eq_getElem (by omega),show(len+0)=0 by omega]at this
      exact DH _ this
    exact⟨[.sl es],⟨t,[],rfl,⟨e,hu,by omega,e2⟩,rfl⟩,⟨_,_,rfl,⟨some a,len,cap,rfl,e1.symm,h2,(fun h=>by cases h),P.cellsOf e,(fun a' yO=>by injection yO with yO;subst yO;exact⟨MV,e3⟩)⟩,rfl⟩,by simp[Flat,Value.oneCell']⟩
  ·rename_i fs hu
   obtain⟨xs,n',hn,_,h2,h3,h4⟩:=DataW.trod_struct hu h
   injection hn with hn;subst hn
   have:=mE (P:=P) (W:=W) (T:=T) (cs:=cs) (rd:=fun t vs=>∃y,DataW.trod enc P W 0 (fun _=>true) true n t vs=some y) (rec:=jl P m) (fun t l vs q1 q2 q3 ⟨y,q4⟩=>ih m t l vs y q1 q2 q3 q4) fs.toList 0 l hl hT ?_ (by omega)
   ·simpa using this
   ·intro f hf
    obtain⟨i,hi,TJ⟩:=List.getElem_of_mem hf
    have:=h4 i f (by simp at hi;simp[<- TJ,Array.getElem?_eq_getElem hi])
    rw[List.getElem?_eq_getElem (by simp at hi;omega)]at this
    exact⟨_,this⟩
  ·rename_i k e hu
   split at hl
   ·rename_i l' Bq
    split at hl
    ·rename_i Sj
     injection hl with hl;subst hl
     obtain⟨xs,n',hn,_,h2,h3,h4⟩:=DataW.trod_array hu h
     injection hn with hn;subst hn
     have hlen:cs.length=k*l'.length:=by rw[h2,hc];simp
     have TK:0<k->∀u∈l',∀e,P.underlying u=some (.slice e)->e∈T:=fun hk u hu=>hT u (List.mem_flatten.2 ⟨l',List.mem_replicate.2 ⟨by omega,rfl⟩,hu⟩)
     have:=nH (P:=P) (W:=W) (l:=l') (cs:=cs) k 0 (fun j hj=> ?_) (by rw[hlen];simp)
     ·simpa using this
     ·have:=h4 j hj
      rw[Sj,List.getElem?_eq_getElem (by omega)]at this
      rw[Nat.zero_add]
      exact ih m e l' _ _ Bq (TK (by omega)) Sj this
    ·cases hl
   ·cases hl
  ·cases hl
theorem rf(hp:oj P T=true):∀ (ts:List TypeId) (vs:List Value) (ds:List (DataW H)) (p:List MemPlace),(∀t∈ts,t∈T)->DataW.TrodAll enc P W 0 (fun _=>true) true ts vs ds p->
 (∀ (j:Nat) t v,ts[j]? =some t->vs[j]? =some v->Value.okWide P W .any b0 t v)->∃xs,D.fl P xs ts/\D.au Fz W xs vs
 |[],vs,ds,p,_,h,_=>by
  obtain⟨rfl,rfl,rfl⟩:=trodAll_nil h
  exact⟨[],rfl,rfl⟩
 |t::ts,vs,ds,p,hT,h,hv=>by
  obtain⟨v,MZ,d,Hf,p1,q1,rfl,rfl,rfl,⟨n,h1⟩,h2⟩:=trodAll_cons h
  obtain⟨xs,a1,a2⟩:=rf hp ts MZ Hf q1 (fun t ht=>hT t (by simp[ht])) h2 (fun j t v h1 h2=>hv (j+1) t v (by simpa using h1) (by simpa using h2))
  obtain⟨l,g1,g2,g3,g4⟩:=uU hp (hT t (by simp))
  obtain⟨ev,x,q1,q2,q3,q4,q5⟩:=uT g1 (v9 hp n 20 t l _ _ g1 g4 g2.symm h1)
  have ba:=hv 0 t v rfl rfl
  have:ev=v:=by
   cases ha:isAgg P t with
   |true=>
    have:∃cs,v= .agg cs:=by
     unfold isAgg at ha
     unfold Value.okWide at ba
     split at ha
     ·rename_i hu;rw[hu]at ba;obtain⟨cs,rfl,_⟩:=ba;exact⟨cs,rfl⟩
     ·rename_i hu;rw[hu]at ba;obtain⟨cs,rfl,_⟩:=ba;exact⟨cs,rfl⟩
     ·cases ha
    obtain⟨cs,rfl⟩:=this
    rw[q4 ha]
    simp[Value.cells]
   |false=>
    obtain⟨q6,q7⟩:=q5 ha
    cases v with
    |agg cs=>
     exfalso
     unfold isAgg at ha
     unfold Value.okWide at ba
     split at ba
     ·rename_i hu;rw[hu]at ha;cases ha
     ·rename_i hu;rw[hu]at ha;cases ha
     ·unfold Cell.okWide at ba
      split at ba
      case h_8=>
       unfold Cell.ok at ba
       split at ba<;>first|exact ba|contradiction
      all_goals contradiction
    |_=>simp only[Value.cells,List.cons.injEq,and_true]at q6;exact q6.symm
  subst this
  exact⟨x::xs,⟨t,ts,rfl,q2,a1⟩,⟨_,_,rfl,q3,a2⟩⟩
theorem dJ.below {w w':World}(h:dJ (fun _=>False) w w'):Below w.heap.size w w':=⟨h.os,h.tape,h.output,h.size,fun k hk=>h.block k hk (fun h=>h)⟩
theorem rh(hl:laidOutB P=true){W':World}{sp:Nat->Bool}:∀ {ts:List TypeId} {vs:List Value} {ds:List (DataW H)} {p:List MemPlace},(∀t∈ts,P.readableRec t=true/\t<P.types.size)->DataW.TrodAll enc P W 0 (fun _=>true) true ts vs ds p->
 (∀x∈p,W.sameAt W' x/\sp x.block=true)->DataW.TrodAll enc P W' 0 sp true ts vs ds p
 |[],vs,ds,p,_,h,_=>by
  obtain⟨rfl,rfl,rfl⟩:=trodAll_nil h
  exact trodAll_mk0
 |t::ts,vs,ds,p,hr,h,hs=>by
  obtain⟨v,MZ,d,Hf,p1,q1,rfl,rfl,rfl,h1,h2⟩:=trodAll_cons h
  exact⟨p1,q1,WideElems.Trod_stays hl (hr t (by simp)).1 (hr t (by simp)).2 h1 (fun x hx=>(hs x (by simp[hx])).1) (fun x hx=>(hs x (by simp[hx])).2),rh hl (fun t ht=>hr t (by simp[ht])) h2 (fun x hx=>hs x (by simp[hx])),rfl⟩
theorem AY{sp:Nat->Bool}:∀ {ts:List TypeId} {vs:List Value} {ds:List (DataW H)} {ps:List MemPlace},DataW.TrodAll enc P W 0 sp true ts vs ds ps->ds.length=ts.length
 |[],_,_,_,h=>by obtain⟨_,rfl,_⟩:=trodAll_nil h;rfl
 |_::_,_,_,_,h=>by
  obtain⟨_,_,_,_,_,_,_,rfl,_,_,h2⟩:=trodAll_cons h
  simp[AY h2]
theorem sG{f:FuncId}{fn:Func}{s:ChangeSpec}{tb:TypeId}{fresh handsOn again:Bool}(tD:fn.resultTypes=#[tb])(Sk:P.underlying tb=some .bool)(DI:s.vars=[])
 (AZ:∀ds:List (DataW H),ds.length=fn.params.toList.length->s.fn H ds={results:=[.lit (.bool true)],args:=ds}) (hp:oj P T=true) (hT:∀t∈fn.params.toList,t∈T) (hl:laidOutB P=true)
 (hr:∀t∈fn.params.toList,P.readableRec t=true/\t<P.types.size) (law:∀xs,D.fl P xs fn.params.toList->bJ P f xs (.ret [.bool true]))
 (base:Nat) (args:Array Value) (ds gs:List (DataW H)) (before:List MemPlace)
 (dt:∀ (j:Nat) t v,fn.params[j]? =some t->args[j]? =some v->Value.okWide P W .any base t v) (hW:DataW.Whole enc P fn.params.toList s.vars false W args.toList ds gs before):
 Calls P f args W fun e W'=>∃v,e= .returned v/\s.post enc P fn false fresh handsOn again W args v W':=by
 have Sl:=hW
 obtain⟨p,q,hA,hV,rfl,TL,Q4⟩:=hW
 rw[DI]at hV
 obtain⟨rfl,rfl⟩:=trodVars_none hV
 obtain⟨xs,a1,a2⟩:=rf (b0:=base) hp fn.params.toList args.toList ds p hT hA (fun j t v h1 h2=>dt j t v (by simpa using h1) (by simpa using h2))
 refine((law xs a1).2 Fz W args (fun _ h=>h.elim) a2).mono fun e W' ⟨hk,ho⟩=> ?_
 have hb:=hk.below
 cases e with
 |panicked ch=>exact ho.elim
 |outgrown=>exact ho.elim
 |returned v=>
  simp only[R.is,D.den]at ho
  subst ho
  refine⟨_,rfl, ?_⟩
  have hlen:ds.length=fn.params.toList.length:=(AY hA)
  have hold:∀x∈p,x.block<W.heap.size:=fun x hx=>by simpa using Sl.lt x (by simpa using hx)
  have dh:∀sp:Nat->Bool,(∀x∈p,sp x.block=true)->DataW.TrodAll enc P W' 0 sp true fn.params.toList args.toList ds p:=fun sp FB=>rh hl hr hA fun x hx=>⟨hb.same (hold x hx),FB x hx⟩
  have DJ:∀ (b:Nat) (sp:Nat->Bool) (hd:Bool),DataW.TrodAll enc P W' b sp hd fn.resultTypes.toList ((Value.bool true).resultList fn.resultTypes.size) [.lit (.bool true)] []:=fun b sp hd=>by
   rw[tD]
   exact trodAll_cons_mk (p:=[]) (p':=[]) ⟨1,by simp[DataW.trod,Value.cells,Sk]⟩ trodAll_mk0
  have A0:∀sp:Nat->Bool,DataW.TrodVars enc P W' sp s.vars [] []:=fun sp=>by rw[DI];rfl
  refine⟨ds,[],p++[],[],p,[],Sl, ?_, ?_, ?_,World.keptBut_mono (fun _ h=>h.elim) (hb.frame (fun _=>False)),fun _=>⟨?_,[.lit (.bool true)]++ds,[],([]++p)++[],⟨[]++p,[],trodAll_append (dh _ fun _ _=>rfl) (DJ 0 (fun _=>true) true),A0 _,rfl, ?_,(fun h=>by cases h)⟩,fun x hx _=>by simpa using hx⟩⟩
  ·rw[List.append_nil,AZ ds hlen];exact DJ _ _ _
  ·rw[List.append_nil,AZ ds hlen];exact dh _ fun x hx=>by simpa using hold x hx
  ·rw[List.append_nil,AZ ds hlen];exact A0 _
  ·intro j t r h1 h2
   rw[tD]at h1 h2
   match j,h1,h2 with
   |0,h1,h2=>
    simp[Value.resultList]at h1 h2
    subst h1;subst h2
    simp[Value.okWide,Sk,Cell.okWide,Cell.ok]
  ·intro b off hx
   rw[hb.frozen (by simpa[MemPlace.block]using hold _ (by simpa using hx))]
   exact TL b off (by simpa using hx)
end
section
variable {P:Program}{t e:TypeId}{x:D}
theorem uV{k:IntKind}(ht:P.underlying t=some (.int k))(h:D.g9 P x t):∃n,x= .int k n/\(Lit.int k n).wf=true:=by
 cases x<;>simp only[D.g9]at h
 case int k' n=>
  rw[ht]at h
  obtain⟨h1,h2⟩:=h
  injection h1 with h1;injection h1 with h1;subst h1
  exact⟨n,rfl,h2⟩
 case bool=>rw[ht]at h;cases h
 case str=>rw[ht]at h;cases h.1
 case sl=>obtain⟨e,h,_⟩:=h;rw[ht]at h;cases h
 case agg=>have:=h.1;unfold isAgg at this;rw[ht]at this;cases this
theorem A1(ht:P.underlying t=some .string)(h:D.g9 P x t):∃l,x= .str l/\l.length<=maxLen:=by
 cases x<;>simp only[D.g9]at h
 case int k' n=>rw[ht]at h;cases h.1
 case bool b=>rw[ht]at h;cases h
 case str l=>exact⟨l,rfl,h.2⟩
 case sl=>obtain⟨e,h,_⟩:=h;rw[ht]at h;cases h
 case agg=>have:=h.1;unfold isAgg at this;rw[ht]at this;cases this
theorem sH(ht:P.underlying t=some (.slice e))(h:D.g9 P x t):∃es,x= .sl es/\es.length<=maxLen/\D.yH P es e:=by
 cases x<;>simp only[D.g9]at h
 case int k' n=>rw[ht]at h;cases h.1
 case bool b=>rw[ht]at h;cases h
 case str l=>rw[ht]at h;cases h.1
 case sl es=>
  obtain⟨e',h,h2,h3⟩:=h
  rw[ht]at h;injection h with h;injection h with h;subst h
  exact⟨es,rfl,h2,h3⟩
 case agg=>have:=h.1;unfold isAgg at this;rw[ht]at this;cases this
theorem pX{ls:List TypeId}(ha:isAgg P t=true)(hl:jl P 20 t=some ls)(h:D.g9 P x t):∃cs,x= .agg cs/\D.fl P cs ls:=by
 have no:∀u,P.underlying t=some u->(∀fs,u≠ .struct fs)->(∀k e,u≠ .array k e)->False:=by
  intro u hu h1 h2
  unfold isAgg at ha
  rw[hu]at ha
  split at ha
  ·rename_i e;injection e with e;exact h1 _ e
  ·rename_i e;injection e with e;exact h2 _ _ e
  ·cases ha
 cases x<;>simp only[D.g9]at h
 case int k' n=>exact(no _ h.1 (fun _ h=>by cases h) (fun _ _ h=>by cases h)).elim
 case bool b=>exact(no _ h (fun _ h=>by cases h) (fun _ _ h=>by cases h)).elim
 case str l=>exact(no _ h.1 (fun _ h=>by cases h) (fun _ _ h=>by cases h)).elim
 case sl es=>obtain⟨e',h,_⟩:=h;exact(no _ h (fun _ h=>by cases h) (fun _ _ h=>by cases h)).elim
 case agg cs=>
  obtain⟨_,T2,h1,h2⟩:=h
  rw[hl]at h1;injection h1 with h1;subst h1
  exact⟨cs,rfl,h2⟩
theorem cM{t:TypeId}{ts:List TypeId}{cs:List D}(h:D.fl P cs (t::ts)):∃x xs,cs=x::xs/\D.g9 P x t/\D.fl P xs ts:=by
 cases cs with
 |nil=>simp[D.fl]at h
 |cons x xs=>obtain⟨_,_,e,h1,h2⟩:=h;injection e with e1 e2;subst e1;subst e2;exact⟨x,xs,rfl,h1,h2⟩
theorem ky{cs:List D}(h:D.fl P cs []):cs=[]:=by
 cases cs with
 |nil=>rfl
 |cons x xs=>obtain⟨_,_,e,_⟩:=h;cases e
theorem pY{α:Type}{f:α->D}{q:α->Prop}(hf:∀x,D.g9 P x e->∃a,x=f a/\q a):∀ (es:List D),D.yH P es e->∃l:List α,es=l.map f/\∀a∈l,q a
 |[],_=>⟨[],rfl,fun _ h=>by cases h⟩
 |x::es,h=>by
  obtain⟨a,rfl,h1⟩:=hf x h.1
  obtain⟨l,rfl,h2⟩:=pY hf es h.2
  exact⟨a::l,rfl,fun b hb=>(List.mem_cons.1 hb).elim (fun e=>e ▸ h1) (h2 b)⟩
end
end Go.Proofs.YtpkobkdgcanmjaaGreat
end
section
namespace Go.Proofs.YtpkobkdgcanmjaaGreat
open Go.ChangeShapes Go.WideShapes Go.RowKit
theorem nb:maxLen<=9223372036854775807:=by decide
theorem DK{x:D}(h:D.g9 Tryz.prog x 3):∃n:Int,x= .i n:=by
 obtain⟨n,h,_⟩:=uV undT_3 h
 exact⟨n,h⟩
theorem QP{x:D}(h:D.g9 Tryz.prog x 25):∃n:Int,x= .i n:=by
 obtain⟨n,h,_⟩:=uV undT_25 h
 exact⟨n,h⟩
theorem MW{x:D}(h:D.g9 Tryz.prog x 69):∃r:lD,x=r.d/\r.name.length<=9223372036854775807:=by
 obtain⟨cs,rfl,hh⟩:=pX (by kernel_rfl) (ls:=[9,3]) (by kernel_rfl) h
 clear h;have h:=hh;clear hh
 obtain⟨a,cs,rfl,ha,h⟩:=cM h
 obtain⟨b,cs,rfl,hb,h⟩:=cM h
 have:=ky h;subst this
 obtain⟨l,rfl,hl⟩:=A1 (by kernel_rfl) ha
 obtain⟨n,rfl⟩:=DK hb
 exact⟨⟨l,n⟩,rfl,by have:=nb;simp only;omega⟩
theorem MX{x:D}(h:D.g9 Tryz.prog x 24):∃s:bX,x=s.d/\s.Fits:=by
 obtain⟨cs,rfl,hh⟩:=pX (by kernel_rfl) (ls:=[22,22]) (by kernel_rfl) h
 clear h;have h:=hh;clear hh
 obtain⟨a,cs,rfl,ha,h⟩:=cM h
 obtain⟨b,cs,rfl,hb,h⟩:=cM h
 have:=ky h;subst this
 obtain⟨es,rfl,h1,h2⟩:=sH undT_22 ha
 obtain⟨l,rfl,hl⟩:=pY (fun x h=>MW h) es h2
 obtain⟨es',rfl,h3,h4⟩:=sH undT_22 hb
 obtain⟨l',rfl,Bq⟩:=pY (fun x h=>MW h) es' h4
 have:=nb
 exact⟨⟨l,l'⟩,rfl,⟨by simp at h1;simp only;omega,by simp at h3;simp only;omega,hl,Bq⟩⟩
theorem A2:∀ (n:Nat) (x:D),SizeOf.sizeOf x<=n->D.g9 Tryz.prog x 28->∃t:Tm,x=t.d/\t.fits:=by
 intro n
 induction n with
 |zero=>intro x hx _;cases x<;>simp at hx
 |succ n ih=>
  intro x hx h
  obtain⟨cs,rfl,hh⟩:=pX (by kernel_rfl) (ls:=[25,3,26]) (by kernel_rfl) h
  clear h;have h:=hh;clear hh
  obtain⟨a,cs,rfl,ha,h⟩:=cM h
  obtain⟨b,cs,rfl,hb,h⟩:=cM h
  obtain⟨c,cs,rfl,hc,h⟩:=cM h
  have:=ky h;subst this
  obtain⟨o,rfl⟩:=QP ha
  obtain⟨m,rfl⟩:=DK hb
  obtain⟨es,rfl,h1,h2⟩:=sH undT_26 hc
  have wm:SizeOf.sizeOf es<=n:=by simp at hx;omega
  have:∀es:List D,SizeOf.sizeOf es<=n->D.yH Tryz.prog es 28->∃l:List Tm,es=l.map Tm.d/\∀k∈l,k.fits:=by
   intro es
   induction es with
   |nil=>intro _ _;exact⟨[],rfl,fun _ h=>by cases h⟩
   |cons y es TM=>
    intro hs h
    simp at hs
    obtain⟨t,rfl,ht⟩:=ih y (by omega) h.1
    obtain⟨l,rfl,hl⟩:=TM (by omega) h.2
    exact⟨t::l,rfl,fun b hb=>(List.mem_cons.1 hb).elim (fun e=>e ▸ ht) (hl b)⟩
  obtain⟨l,rfl,hl⟩:=this es wm h2
  refine⟨.mk o m l,by rw[Tm.zX], ?_⟩
  rw[Tm.bF]
  exact⟨by have:=nb;simp at h1;simp only[Tm.kids];omega,hl⟩
theorem MY{x:D}(h:D.g9 Tryz.prog x 28):∃t:Tm,x=t.d/\t.fits:=A2 _ x (Nat.le_refl _) h
end Go.Proofs.YtpkobkdgcanmjaaGreat
end
section
namespace Go.Proofs.YtpkobkdgcanmjaaGreat
open Go.ChangeShapes Go.WideShapes Go.RowKit
set_option maxRecDepth 100000 in
theorem ly(os:Os)(started:os.Started)(H:Type)(enc:TypeId×Value->H):
 ReturnsInHanded {} Tryz.checked os 3 .any (Rows.logicValuesSpec.pre6 enc Tryz.prog Tryz.f3 Rows.logicValuesRow.domain false) (Rows.logicValuesSpec.post enc Tryz.prog Tryz.f3 Rows.logicValuesRow.apart Rows.logicValuesRow.fresh Rows.logicValuesRow.handsOn Rows.logicValuesRow.again):=by
 refine returnsInHanded_of_change (C:=Tryz.checked) (by kernel_rfl) started (by kernel_rfl) Tryz.func3
  (ChangeSpec.witness6 (enc:=enc) (C:=Tryz.checked) false ⟨#[],#[.agg #[.slice none 0 0, .slice none 0 0], .agg #[.int .i64 0, .int .i64 0, .slice none 0 0], .agg #[.int .i64 0, .int .i64 0, .slice none 0 0]],[]⟩ 8 (by kernel_rfl) (by kernel_rfl) (by kernel_rfl) (by kernel_rfl)) ?_
 intro W base args ds gs before dt hW _ _
 refine sG (T:=[24,22,69,9,3,28,26,25]) (tb:=4) (by kernel_rfl) (by kernel_rfl) rfl (fun ds h=>by match ds,h with|[_,_,_],_=>rfl) (by kernel_rfl) (by intro t ht;rw[Tryz.params3]at ht;simp at ht;rcases ht with rfl|rfl<;>simp) (by kernel_rfl) (by intro t ht;rw[Tryz.params3]at ht;simp at ht;rcases ht with rfl|rfl<;>exact⟨by kernel_rfl,of_decide_eq_true (by kernel_rfl)⟩)
  (fun xs hx=> ?_) base args ds gs before dt hW
 rw[Tryz.params3]at hx
 obtain⟨x0,xs,rfl,TN,hx⟩:=cM hx
 obtain⟨x1,xs,rfl,TO,hx⟩:=cM hx
 obtain⟨x2,xs,rfl,N4,hx⟩:=cM hx
 have:=ky hx;subst this
 obtain⟨s0,rfl,rJ⟩:=MX TN
 obtain⟨t1,rfl,sI⟩:=MY TO
 obtain⟨t2,rfl,TP⟩:=MY N4
 exact qj Fy s0 rJ t1 t2 sI TP
theorem logicValues_holds:Rows.LogicValuesSaid:=
 OpenClaim.holds_of_wide 3 Tryz.f3 rfl rfl rfl rfl rfl rfl rfl ⟨rfl,rfl,rfl,rfl,rfl⟩ rfl rfl rfl rfl rfl (by kernel_rfl) Tryz.func3 (by kernel_rfl)
  (of_decide_eq_true (by kernel_rfl)) (by unfold Func.isWrapper;first|(rw[if_pos (by decide+kernel)];kernel_rfl)|(rw[if_neg (by decide+kernel)];exact⟨rfl,rfl⟩))
  (fun os started H enc _=>ly os started H enc)
end Go.Proofs.YtpkobkdgcanmjaaGreat
end
