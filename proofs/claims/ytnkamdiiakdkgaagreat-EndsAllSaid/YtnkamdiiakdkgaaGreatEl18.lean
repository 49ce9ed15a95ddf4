/-
  A PART OF THE PROOF. Conditions: none.
-/
import Derived.Shelf.Sort.Plain
import Derived.Shelf.Slices.In.SortNone
import Derived.Shelf.Slices.CompactI
import Derived.Test.YtnkamdiiakdkgaaGreatEl17
set_option linter.unusedSimpArgs false
set_option linter.unusedVariables false
namespace Go.Proofs.YtnkamdiiakdkgaaGreat
theorem sK{K:V->List (Nat×ab)->Prop}{id:Nat}{l:List (Int×Int)}(h0:l=[]->K (.bW [.d (.bool false)]) [])
 (h1:∀ (i:Nat) n k,l[i]? =some (n,k)->K (.bW [.d (.bool true), .d (.int .i64 n), .d (D.i k)]) [(id, .pb (enc (D.int .i64) (ints (l.eraseIdx i))) (some (.int .i64 n,D.i k)))]):G9 K id (enc (D.int .i64) (ints l)):=by
 refine JJ _ (fun h=>h0 ?_) fun i k x h=> ?_
 ·cases l with
  |nil=>rfl
  |cons x l=>simp[ints]at h
 ·unfold ints at h|-
  rw[List.getElem?_map]at h
  cases hl:l[i]? with
  |none=>rw[hl]at h;cases h
  |some n=>
   rw[hl]at h
   simp at h
   obtain⟨rfl,rfl⟩:=h
   have:=h1 i n.1 n.2 hl
   rw[mw]
   exact this
theorem sL{α:Type}{l:List α}{i:Nat}{n:α}(p:α->Bool)(h:l[i]? =some n):l.all p=(p n&&(l.eraseIdx i).all p):=by
 have hp:l.Perm (n::l.eraseIdx i):=by
  obtain⟨hi,e⟩:=List.getElem?_eq_some_iff.1 h
  have EB:l=l.take i++n::l.drop (i+1):=by rw[<- e,List.getElem_cons_drop,List.take_append_drop]
  rw[List.eraseIdx_eq_take_drop_succ]
  conv=>lhs;rw[EB]
  exact List.perm_middle
 rw[Bool.eq_iff_iff,List.all_eq_true,Bool.and_eq_true,List.all_eq_true]
 constructor
 ·intro h1
  exact⟨h1 _ (hp.mem_iff.2 aI),fun x hx=>h1 x (hp.mem_iff.2 o8)⟩
 ·rintro⟨h1,h2⟩ x hx
  rcases List.mem_cons.1 (hp.mem_iff.1 hx)with e|e
  ·rw[e];exact h1
  ·exact h2 x e
theorem sM{α:Type}{l:List α}{i:Nat}{n:α}(h:l[i]? =some n):(l.eraseIdx i).length+1=l.length:=by
 obtain⟨hi,e⟩:=List.getElem?_eq_some_iff.1 h
 rw[List.length_eraseIdx];simp[hi];omega
def mP(s:bH)(r:Rl):Bool:=decide (0<=r.fn)&&(match s.bK[r.fn.toNat]? with|some f=>(r.aC.length:Int)==f.args|none=>false)&&decide (0<=r.vars)&&decide (r.vars<=20)&&r.aC.all (kU s)&&fE s [r.rhs]
def eV(s:bH)(r:Rl):Bool:=mP s r&&(dK 1 r.aC).all (fun p=>decide (p.2<=1)&&decide (p.1<r.vars))&&(dK 1 [r.rhs]).all (fun p=>decide (p.1<r.vars))&&
 (dK 8 [r.rhs]).all (fun p=>decide (p.2<=1)&&decide (p.1<r.vars)&&decide (gD (dK 1 r.aC) p.1<=0))&&A6 (dK 8 [r.rhs]) r.rhs []
theorem A7{R:List Nat}{o:Nat->ab}{id:Nat}(h:id∈R):xE R o id=o id:=by simp[xE,h]
theorem JW{R:List Nat}{o:Nat->ab}{nx:Nat}(cG:∀id∈R,id<nx)(mX:∀id∈R,∀j∈(o id).refs,j∈R):Good (xE R o) nx:=by
 refine⟨fun id aq=> ?_,fun id r hr=> ?_⟩
 ·have:id∉R:=fun hm=>by have:=cG id hm;omega
  simp[xE,this]
 ·by_cases aq:id∈R
  ·rw[A7 aq]at hr;exact cG r (mX id aq r hr)
  ·have:xE R o id= .no:=by simp[xE,aq]
   rw[this]at hr;cases hr
theorem QB(s:bH)(hs:s.Fits)(l:List Tm)(hl:l.length<=1000000)(hf:∀t∈l,t.Fin){o:Nat->ab}(ho:o 0= .row s.row):
 xF Tryz.prog 133 [.d (.sl (l.map Tm.d)), .func (.func 131) [] [.ptr 0 0]] [0] o (.ret [.bool (l.all (kU s))]) []:=by
 have cG:∀j∈[0],j<1:=aI
 have mX:∀k∈[0],∀j∈(o k).refs,j∈[0]:=by
  intro k hk j hj
  simp at hk
  subst hk
  rw[ho]at hj;simp[ab.refs,V.aE,V.refs]at hj
 refine xF.jd cG oE mX aI aI ?_
 refine DH l ag 131 [.ptr 0 0] 1 (xE [0] o) (kU s) oE (fun x hx=>QA s hs x (hf x hx) 1 0 _ ((A7 aI).trans ho) ag) _ _ ⟨JW cG mX,Nat.le_refl _,fun _ _=>rfl⟩ _ _ fun o2 n2 m1 m2 m3=> ?_
 refine⟨fun k hk=> ?_,[.d (.bool (l.all (kU s)))],[.bool (l.all (kU s))],rfl,rfl,rfl,fun k hk=>by simp[V.bg,V.ids]at hk⟩
 simp at hk
 subst hk
 rw[m2.eq 0 (by omega),A7 (by simp)];rfl
set_option maxHeartbeats 1000000 in
theorem QC(s:bH)(hs:s.Fits)(r:Rl)(hr:r.Fin):aV Tryz.prog 100 [s.d,r.d] (.ret [.bool (eV s r)]):=by
 have hr1:=hr.aC
 refine aV.aJ mix Tb aI ?_
 rw[WN]
 have hlf:=hs.lf
 have fin:∀ {b:Bool},mP s r=b->b=false->eV s r=false:=fun h1 h2=>by unfold eV;rw[h1,h2];rfl
 by_cases f1:r.fn<0
 ·have JX:decide (r.fn<0)=true:=by simpa using f1
  have e:eV s r=false:=fin (b:=false) (by unfold mP;rw[decide_eq_false (by omega: ¬0<=r.fn)];rfl) rfl
  simp+contextual (disch:=first|omega|simp only[go_sem,false_implies]) only[go_sem,wrap64,if_pos,Nat.add_assoc,Nat.left_eq_add,Nat.add_eq_left,Nat.add_left_cancel_iff,List.length_map,JX]
  exact RM
 have JX:decide (r.fn<0)=false:=by simpa using f1
 by_cases f2:(s.bK.length:Int)<=r.fn
 ·have HT:decide ((s.bK.length:Int)<=r.fn)=true:=by simpa using f2
  have e:eV s r=false:=fin (b:=false) (by unfold mP;rw[List.getElem?_eq_none (by omega:s.bK.length<=r.fn.toNat)];simp) rfl
  refine Z1 JX HT ?_
  exact RM
 have HT:decide ((s.bK.length:Int)<=r.fn)=false:=by simpa using f2
 obtain⟨f,hf⟩:∃f,s.bK[r.fn.toNat]? =some f:=⟨_,List.getElem?_eq_getElem ag⟩
 by_cases f3: ¬ (r.aC.length:Int)=f.args
 ·have XZ:((r.aC.length:Int)!=f.args)=true:=by simpa using f3
  have e:eV s r=false:=fin (b:=false) (by unfold mP;rw[hf];simp[f3]) rfl
  simp+contextual (disch:=first|omega|simp only[go_sem,false_implies]) only[go_sem,wrap64,if_pos,Nat.add_assoc,Nat.left_eq_add,Nat.add_eq_left,Nat.add_left_cancel_iff,List.length_map,JX,HT,hf,XZ]
  exact RM
 have XZ:((r.aC.length:Int)!=f.args)=false:=by simpa using f3
 by_cases f4:r.vars<0
 ·have f4':decide (r.vars<0)=true:=by simpa using f4
  have e:eV s r=false:=fin (b:=false) (by unfold mP;rw[decide_eq_false (by omega: ¬0<=r.vars)];simp) rfl
  simp+contextual (disch:=first|omega|simp only[go_sem,false_implies]) only[go_sem,wrap64,if_pos,Nat.add_assoc,Nat.left_eq_add,Nat.add_eq_left,Nat.add_left_cancel_iff,List.length_map,JX,HT,hf,XZ,f4']
  exact RM
 have f4':decide (r.vars<0)=false:=by simpa using f4
 by_cases f5:20<r.vars
 ·have f5':decide (20<r.vars)=true:=by simpa using f5
  have e:eV s r=false:=fin (b:=false) (by unfold mP;rw[decide_eq_false (by omega: ¬r.vars<=20)];simp) rfl
  refine Z2 JX HT hf XZ f4' f5' ?_
  exact RM
 have f5':decide (20<r.vars)=false:=by simpa using f5
 have hh:mP s r=(r.aC.all (kU s)&&fE s [r.rhs]):=by
  unfold mP
  rw[hf]
  have g3:(r.aC.length:Int)=f.args:=by simpa using f3
  simp[g3,show 0<=r.fn by omega,show 0<=r.vars by omega,show r.vars<=20 by omega]
 refine Z2 JX HT hf XZ f4' f5' ?_
 refine nH (rd:=[0]) rfl (QB s hs r.aC hr1 hr.all ?_) ?_
 ·exact fq
 cases h6:r.aC.all (kU s)with
 |false=>
  have e:eV s r=false:=fin hh (by rw[h6];rfl)
  refine a8 ?_
  exact RM
 |true=>
  refine a8 ?_
  refine ba (Qv s hs r.rhs hr.rhs) rfl ?_
  cases h7:fE s [r.rhs]with
  |false=>
   have e:eV s r=false:=fin hh (by rw[h6,h7];rfl)
   refine EF ?_
   exact RM
  |true=>
   refine EF ?_
   refine aH (aR rfl) ?_
   refine a8 ?_
   have hR:eV s r=((dK 1 r.aC).all (fun p=>decide (p.2<=1)&&decide (p.1<r.vars))&&(dK 1 [r.rhs]).all (fun p=>decide (p.1<r.vars))&&
    (dK 8 [r.rhs]).all (fun p=>decide (p.2<=1)&&decide (p.1<r.vars)&&decide (gD (dK 1 r.aC) p.1<=0))&&A6 (dK 8 [r.rhs]) r.rhs []):=by
    unfold eV;rw[hh,h6,h7];rfl
   refine dZ (tL r.aC hr1 (fun t ht=>(hr.all t ht).fits)) ?_
   refine a8 ?_
   refine dZ (XW r.rhs hr.rhs.fits) ?_
   refine a8 ?_
   refine aH (aR rfl) ?_
   simp+contextual (disch:=first|omega|simp only[go_sem,false_implies]) only[go_sem,wrap64,if_pos,uv]
   refine az (fun i:List (Int×Int)×Option (D×D)=>⟨aU [.aa, .aa, .aa, .ptr 1 0, .aa, .aa, .d (Nn (dK 1 r.aC)), .d (Nn (dK 8 [r.rhs])), .aa, .aa, .aa, .aa, .aa, .aa, .aa, .aa, .aa, .aa, .aa, .aa, .aa, .aa, .aa, .aa, .aa, .aa, .aa, .aa, .aa, .aa, .aa, .aa, .aa, .aa, .aa, .aa, .aa, .aa, .aa, .aa, .aa, .aa, .aa, .aa, .aa, .aa, .aa, .aa, .aa, .aa, .aa, .aa, .aa, .aa, .aa, .aa, .aa, .aa, .aa, .aa, .aa, .aa, .aa, .aa, .aa, .aa, .aa, .aa, .aa, .ptr 62 0],ax (ax (ax (fun _=> .no) 0 (.row [.d (.sl (s.cons.map jo.d)), .d (.sl (s.bK.map jo.d))])) 1 (.row [.d (.i r.fn), .d (.sl (r.aC.map Tm.d)), .d (.i r.rhs.op), .d (.i r.rhs.n), .d (.sl (r.rhs.kids.map Tm.d)), .d (.i r.vars)])) 62 (.pb (enc (D.int .i64) (ints i.1)) i.2),63⟩)
    (fun i=>(dK 1 r.aC).all (fun p=>decide (p.2<=1)&&decide (p.1<r.vars))=i.1.all (fun p=>decide (p.2<=1)&&decide (p.1<r.vars))) (fun i=>i.1.length) (dK 1 r.aC,none) rfl (bt.aT _ (show 0<=63 from ag) ag fm (fun j hj=>by(repeat(first|rfl|rw[af]|rw[ae _ _ _ _ (by omega)]))) ?_) ?_
   ·exact cz
   rintro⟨rest,last⟩ hA
   simp only at hA
   refine a8 ?_
   refine sK (fun ED=> ?_) fun i n k hm=> ?_
   ·subst ED
    simp only[List.all_nil]at hA
    refine iD ?_
    refine a7 (tL [r.rhs] aI (fun t ht=>by simp at ht;subst ht;exact hr.rhs.fits)) ?_
    refine Z5 ?_
    refine az (fun i:List (Int×Int)×Option (D×D)=>⟨aU [.aa, .aa, .aa, .ptr 1 0, .aa, .aa, .d (Nn (dK 1 r.aC)), .d (Nn (dK 8 [r.rhs])), .aa, .aa, .aa, .aa, .aa, .aa, .aa, .aa, .aa, .aa, .aa, .aa, .aa, .aa, .aa, .aa, .aa, .aa, .aa, .aa, .aa, .aa, .aa, .aa, .aa, .aa, .aa, .aa, .aa, .aa, .aa, .aa, .aa, .aa, .aa, .aa, .aa, .aa, .aa, .aa, .aa, .aa, .aa, .aa, .aa, .aa, .aa, .aa, .aa, .aa, .aa, .aa, .aa, .aa, .aa, .aa, .aa, .aa, .aa, .aa, .aa, .aa, .aa, .aa, .aa, .aa, .aa, .aa, .aa, .aa, .aa, .aa, .aa, .aa, .aa, .aa, .aa, .aa, .aa, .ptr 69 0],ax (ax (ax (ax (ax (fun _=> .no) 0 (.row [.d (.sl (s.cons.map jo.d)), .d (.sl (s.bK.map jo.d))])) 1 (.row [.d (.i r.fn), .d (.sl (r.aC.map Tm.d)), .d (.i r.rhs.op), .d (.i r.rhs.n), .d (.sl (r.rhs.kids.map Tm.d)), .d (.i r.vars)])) 62 (.pb (enc (D.int .i64) (ints [])) last)) 67 (.rV 0 [r.rhs.d])) 69 (.pb (enc (D.int .i64) (ints i.1)) i.2),70⟩)
     (fun i=>(dK 1 [r.rhs]).all (fun p=>decide (p.1<r.vars))=i.1.all (fun p=>decide (p.1<r.vars))) (fun i=>i.1.length) (dK 1 [r.rhs],none) rfl (bt.aT _ (show 0<=70 from ag) ag fm (fun j hj=>by first|(rw[df];done)|(repeat(first|rfl|rw[af]|rw[ae _ _ _ _ (by omega)]))|exact YL) ?_) ?_
    ·exact cz
    rintro⟨rest,aet⟩ hB
    simp only at hB
    refine a8 ?_
    refine sK (fun ED=> ?_) fun i n k hm=> ?_
    ·subst ED
     simp only[List.all_nil]at hB
     refine Z5 ?_
     refine az (fun i:List (Int×Int)×Option (D×D)=>⟨aU [.aa, .aa, .aa, .ptr 1 0, .aa, .aa, .d (Nn (dK 1 r.aC)), .d (Nn (dK 8 [r.rhs])), .aa, .aa, .aa, .aa, .aa, .aa, .aa, .aa, .aa, .aa, .aa, .aa, .aa, .aa, .aa, .aa, .aa, .aa, .aa, .aa, .aa, .aa, .aa, .aa, .aa, .aa, .aa, .aa, .aa, .aa, .aa, .aa, .aa, .aa, .aa, .aa, .aa, .aa, .aa, .aa, .aa, .aa, .aa, .aa, .aa, .aa, .aa, .aa, .aa, .aa, .aa, .aa, .aa, .aa, .aa, .aa, .aa, .aa, .aa, .aa, .aa, .aa, .aa, .aa, .aa, .aa, .aa, .aa, .aa, .aa, .aa, .aa, .aa, .aa, .aa, .aa, .aa, .aa, .aa, .aa, .aa, .aa, .aa, .aa, .aa, .aa, .aa, .aa, .aa, .ptr 73 0],ax (ax (ax (ax (ax (ax (fun _=> .no) 0 (.row [.d (.sl (s.cons.map jo.d)), .d (.sl (s.bK.map jo.d))])) 1 (.row [.d (.i r.fn), .d (.sl (r.aC.map Tm.d)), .d (.i r.rhs.op), .d (.i r.rhs.n), .d (.sl (r.rhs.kids.map Tm.d)), .d (.i r.vars)])) 62 (.pb (enc (D.int .i64) (ints [])) last)) 67 (.rV 0 [r.rhs.d])) 69 (.pb (enc (D.int .i64) (ints [])) aet)) 73 (.pb (enc (D.int .i64) (ints i.1)) i.2),74⟩)
      (fun i=>(dK 8 [r.rhs]).all (fun p=>decide (p.2<=1)&&decide (p.1<r.vars)&&decide (gD (dK 1 r.aC) p.1<=0))=i.1.all (fun p=>decide (p.2<=1)&&decide (p.1<r.vars)&&decide (gD (dK 1 r.aC) p.1<=0))) (fun i=>i.1.length) (dK 8 [r.rhs],none) rfl (bt.aT _ (show 0<=74 from ag) ag fm (fun j hj=>by(repeat(first|rfl|rw[af]|rw[ae _ _ _ _ (by omega)]))) ?_) ?_
     ·exact cz
     rintro⟨rest,agK⟩ hC
     simp only at hC
     refine a8 ?_
     refine sK (fun ED=> ?_) fun i n k hm=> ?_
     ·subst ED
      simp only[List.all_nil]at hC
      refine iD ?_
      refine aD (Nr (dK 8 [r.rhs]) r.rhs hr.rhs.fits [] (by have:=hr.rhs.nI;simp;omega)) rfl ?_
      refine a8 ?_
      rw[hR,hA,hB,hC];rfl
     ·have hle:=sM hm
      rw[sL (fun p=>decide (p.2<=1)&&decide (p.1<r.vars)&&decide (gD (dK 1 r.aC) p.1<=0)) hm]at hC
      simp only at hC
      have bad:(decide (k<=1)&&decide (n<r.vars)&&decide (gD (dK 1 r.aC) n<=0))=false->eV s r=false:=fun e2=>by rw[hR,hC,e2];simp
      by_cases g1:1<k
      ·have g1':decide (1<k)=true:=by simpa using g1
       have e:=bad (by rw[decide_eq_false (by omega: ¬k<=1)];rfl)
       refine Us g1' ?_
       rw[e]
      have g1':decide (1<k)=false:=by simpa using g1
      by_cases g2:r.vars<=n
      ·have YX:decide (r.vars<=n)=true:=by simpa using g2
       have e:=bad (by rw[decide_eq_false (by omega: ¬n<r.vars)];simp)
       refine OI g1' YX ?_
       rw[e]
      have YX:decide (r.vars<=n)=false:=by simpa using g2
      by_cases g3:0<gD (dK 1 r.aC) n
      ·have YZ:decide (0<gD (dK 1 r.aC) n)=true:=by simpa using g3
       have e:=bad (by rw[decide_eq_false (by omega: ¬gD (dK 1 r.aC) n<=0)];simp)
       refine Z4 g1' YX YZ ?_
       rw[e]
      have YZ:decide (0<gD (dK 1 r.aC) n)=false:=by simpa using g3
      have e2:(decide (k<=1)&&decide (n<r.vars)&&decide (gD (dK 1 r.aC) n<=0))=true:=by
       simp;omega
      rw[e2,Bool.true_and]at hC
      refine Z4 g1' YX YZ ?_
      refine ak (rest.eraseIdx i,some (.int .i64 n,D.i k)) hC kp (bt.aT _ (show 0<=74 from ag) ag fm (fun j hj=>by first|(rw[df];done)|(repeat(first|rfl|rw[af]|rw[ae _ _ _ _ (by omega)]))) ?_)
      exact cz
    ·have hle:=sM hm
     rw[sL (fun p=>decide (p.1<r.vars)) hm]at hB
     simp only at hB
     refine iD ?_
     refine aj (fun h3=> ?_) (fun h3=> ?_)
     ·have e:eV s r=false:=by
       have e2:decide (n<r.vars)=false:=by
        simp at h3|-;omega
       rw[hR,hB,e2];simp
      exact aaW
     ·have e2:decide (n<r.vars)=true:=by
       simp at h3|-;omega
      rw[e2,Bool.true_and]at hB
      refine a8 ?_
      refine ak (rest.eraseIdx i,some (.int .i64 n,D.i k)) hB kp (bt.aT _ (show 0<=70 from ag) ag fm (fun j hj=>by first|(rw[df];done)|(repeat(first|rfl|rw[af]|rw[ae _ _ _ _ (by omega)]))) ?_)
      exact cz
   ·have hle:=sM hm
    rw[sL (fun p=>decide (p.2<=1)&&decide (p.1<r.vars)) hm]at hA
    simp only at hA
    refine iD ?_
    refine aj (fun h3=> ?_) (fun h3=> ?_)
    ·have e:eV s r=false:=by
      have e2:(decide (k<=1)&&decide (n<r.vars))=false:=by
       simp at h3|-;omega
      rw[hR,hA,e2];simp
     exact aaW
    ·have e2:(decide (k<=1)&&decide (n<r.vars))=true:=by
      simp at h3|-;omega
     rw[e2,Bool.true_and]at hA
     refine a8 ?_
     refine ak (rest.eraseIdx i,some (.int .i64 n,D.i k)) hA kp (bt.aT _ (show 0<=63 from ag) ag fm (fun j hj=>by first|rw[df]|(repeat(first|rfl|rw[af]|rw[ae _ _ _ _ (by omega)]))) ?_)
     exact cz
def pL{σ α:Type}(step:σ->α->σ×Bool):σ->List α->Int->Int
 |_,[],_=> -1
 |s,x::l,k=>if(step s x).2=true then pL step (step s x).1 l (k+1)else k
theorem A8{σ α:Type}(step:σ->α->σ×Bool):∀ (l:List α) (s:σ) (k:Int),0<=k->(0<=pL step s l k↔(aw step s l).2=false)
 |[],_,_,_=>by simp[pL,aw]
 |x::l,s,k,hk=>by
  have ih:=A8 step l (step s x).1 (k+1) ag
  by_cases h:(step s x).2=true
  ·simp only[pL,aw,h,if_true];exact ih
  ·simp[pL,aw,h,hk]
theorem X0{σ:Type}(l:List Rl)(hl:l.length<=9223372036854775807)(g:Nat)(aM:List V)(base:Nat)(H:σ->Nat->ab)(step:σ->Rl->σ×Bool)(hc:∀r∈V.aE aM,r<base)(ok:σ->Prop)(aW:∀x∈l,∀s,ok s->(step s x).2=true->ok (step s x).1)
 (h:∀x∈l,∀s,ok s->jg Tryz.prog g (.d x.d::aM) base (H s) (H (step s x).1) (.d (.bool (!(step s x).2)))) (s:σ) (iL:ok s):
 jg Tryz.prog 158 [.d (.sl (l.map Rl.d)), .func (.func g) [] aM] base (H s) (H (aw step s l).1) (.d (.i (pL step s l 0))):=by
 intro o nx hI K X hK
 have fu:∀r∈V.aE aM,r<nx:=fun r hr=>Nat.lt_of_lt_of_le (hc r hr) hI.le
 refine cH.aJ mix TD aI ?_
 rw[Xc]
 refine cT ?_
 refine az (fun i:Nat×σ×(Nat->ab)×Nat=>⟨aU [.d (.sl (l.map Rl.d)), .func (.func g) [] aM, .aa, .aa, .aa, .aa, .aa, .d (.i l.length), .d (.i i.1)],i.2.2.1,i.2.2.2⟩)
  (fun i=>i.1<=l.length/\cR base (H i.2.1) i.2.2.1 i.2.2.2/\nx<=i.2.2.2/\(∀id,base<=id->id<nx->i.2.2.1 id=o id)/\aw step s l=aw step i.2.1 (l.drop i.1)/\ok i.2.1/\pL step s l 0=pL step i.2.1 (l.drop i.1) i.1) (fun i=>l.length - i.1) (0,s,o,nx)
  ⟨Nat.zero_le _,hI,Nat.le_refl _,fun _ _ _=>rfl,rfl,iL,rfl⟩ ?_ ?_
 ·exact Ls
 rintro⟨k,s',o',nx'⟩ ⟨hk,uw,hn,cP,hf,iG,u0⟩
 simp only at hk uw hn cP hf iG u0
 refine cT ?_
 refine aj (fun h1=> ?_) (fun h1=> ?_)
 ·simp at h1
  obtain⟨x,hx⟩:=aF h1
  have gf:=List.mem_of_getElem? hx
  have hd:l.drop k=x::l.drop (k+1):=by
   exact YO
  rw[hd]at hf u0
  simp only[aw,pL]at hf u0
  refine KO hx ?_
  refine dQ (h x gf s' iG _ _ (uw.mono ag) _ _ fun o2 n2 m1 m2 m3=> ?_)
  cases hb:(step s' x).2 with
  |true=>
   rw[hb]at hf u0
   simp only[if_true]at hf u0
   refine a8 ?_
   have wh:∀r∈V.aE aM,r<n2+1+1:=fun r hr=>by have:=fu r hr;omega
   exact zw0
  |false=>
   exact UX
 ·exact UZ
theorem DI{σ:Type}(l:List Rl)(hl:l.length<=9223372036854775807)(g:Nat)(aM:List V)(base:Nat)(H:σ->Nat->ab)(step:σ->Rl->σ×Bool)(hc:∀r∈V.aE aM,r<base)(ok:σ->Prop)(aW:∀x∈l,∀s,ok s->(step s x).2=true->ok (step s x).1)
 (h:∀x∈l,∀s,ok s->jg Tryz.prog g (.d x.d::aM) base (H s) (H (step s x).1) (.d (.bool (!(step s x).2)))) (s:σ) (iL:ok s):
 jg Tryz.prog 129 [.d (.sl (l.map Rl.d)), .func (.func g) [] aM] base (H s) (H (aw step s l).1) (.d (.bool (!(aw step s l).2))):=by
 intro o nx hI K X hK
 have fu:∀r∈V.aE aM,r<nx:=fun r hr=>Nat.lt_of_lt_of_le (hc r hr) hI.le
 refine cH.aJ mix To aI ?_
 rw[WZ]
 refine iD ?_
 refine aS (X0 l hl g aM base H step hc ok aW h s iL _ _ ?_ _ _ fun o2 n2 m1 m2 m3=> ?_)
 ·exact Gz
 refine iD ?_
 have e:decide (0<=pL step s l 0)= !(aw step s l).2:=by
  have:=A8 step l s 0 ag
  exact Vd
 rw[e]
 exact OO
theorem aeu{x:Rl}{g:Nat}{aM:List V}{base c bx:Nat}{h h2 O:Nat->ab}{r:Bool}(hS:jg Tryz.prog g (.d x.d::aM) base h h2 (.d (.bool r)))(hb:base<=bx)(Ot:bx<c)(hO:O bx= .row [.func (.func g) [] aM])(hc:∀r∈V.aE aM,r<base):
 jg Tryz.prog 130 [.d x.d, .ptr bx 0] c (ext base h O) (ext base h2 O) (.d (.bool (!r))):=by
 intro o nx hI K X hK
 have hle:=hI.le
 have fu:∀r∈V.aE aM,r<nx:=fun r hr=>by have:=hc r hr;omega
 have ho:o bx= .row [.func (.func g) [] aM]:=by
  exact UO
 have y1:∀k,bx≠nx+k:=fun k=>ag
 have y2:bx≠nx:=ag
 refine cH.aJ mix Tp aI ?_
 rw[W0]
 refine OH ho y1 y2 ?_
 refine dQ ((hS.ext (by omega:base<=c) O) _ _ ?_ _ _ fun o2 n2 m1 m2 m3=> ?_)
 ·exact hI.ax ag ag ag rfl
 refine iD ?_
 exact aat
theorem JY{σ:Type}(l:List Rl)(hl:l.length<=9223372036854775807)(g:Nat)(aM:List V)(base:Nat)(H:σ->Nat->ab)(step:σ->Rl->σ×Bool)(hc:∀r∈V.aE aM,r<base)(ok:σ->Prop)(aW:∀x∈l,∀s,ok s->(step s x).2=true->ok (step s x).1)
 (h:∀x∈l,∀s,ok s->jg Tryz.prog g (.d x.d::aM) base (H s) (H (step s x).1) (.d (.bool (step s x).2))) (s:σ) (iL:ok s):
 jg Tryz.prog 98 [.d (.sl (l.map Rl.d)), .func (.func g) [] aM] base (H s) (H (aw step s l).1) (.d (.bool (aw step s l).2)):=by
 intro o nx hI K X hK
 have hle:=hI.le
 have fu:∀r∈V.aE aM,r<nx:=fun r hr=>Nat.lt_of_lt_of_le (hc r hr) hI.le
 refine cH.aJ mix acZ aI ?_
 rw[c98]
 refine iD ?_
 refine aS (DI l hl 130 [.ptr nx 0] (nx+1) (fun s=>ext base (H s) (ax o nx (.row [.func (.func g) [] aM]))) step oE ok aW (fun x hx s hs=>aeu (h x hx s hs) hle ag (af _ _ _) hc) s iL _ _ ?_ _ _ fun o2 n2 m1 m2 m3=> ?_)
 ·have hr:(ab.row [V.func (.func g) [] aM]).refs.all (fun r=>decide (r<nx+4))=true:=by
   rw[List.all_eq_true]
   intro r hr
   have h1:r∈V.aE aM:=by simpa[ab.refs,V.aE,V.refs]using hr
   have:=fu r h1
   simp;omega
  exact UE
 refine iD ?_
 refine hK _ _ ag ⟨(m2.mono ag).bn,by have:=m2.le;omega,fun id aq=> ?_⟩ fun id i1 i2=> ?_
 ·exact ID
 ·exact UA
theorem A9(l:List Rl)(hl:l.length<=9223372036854775807)(g:Nat)(aM:List V)(base:Nat)(h:Nat->ab)(p:Rl->Bool)(hc:∀r∈V.aE aM,r<base)
 (hp:∀x∈l,jg Tryz.prog g (.d x.d::aM) base h h (.d (.bool (p x)))):jg Tryz.prog 98 [.d (.sl (l.map Rl.d)), .func (.func g) [] aM] base h h (.d (.bool (l.all p))):=by
 have:=JY l hl g aM base (fun _:Unit=>h) (fun _ x=>((),p x)) hc (fun _=>True) (fun _ _ _ _ _=>trivial) (fun x hx _ _=>hp x hx) () trivial
 exact Ln
structure Pg where
 sig:bH
 rules:List Rl
@[reducible] def Pg.row (p:Pg):List V:=[.d (.sl (p.sig.cons.map jo.d)), .d (.sl (p.sig.bK.map jo.d)), .d (.sl (p.rules.map Rl.d))]
@[reducible] def Pg.d (p:Pg):D:= .agg [.sl (p.sig.cons.map jo.d), .sl (p.sig.bK.map jo.d), .sl (p.rules.map Rl.d)]
structure Pg.Fin (p:Pg):Prop where
 sig:p.sig.Fits
 len:p.rules.length<=9223372036854775807
 all:∀r∈p.rules,r.Fin
def lQ(p:Pg):Bool:=decide (p.rules.length<=16)&&(jw p.sig&&p.rules.all (eV p.sig))
theorem JZ(p:Pg)(hp:p.Fin)(r:Rl)(hr:r∈p.rules)(base sp:Nat)(h:Nat->ab)(EB:h sp= .row p.row)(hb:sp<base):jg Tryz.prog 99 [.d r.d, .ptr sp 0] base h h (.d (.bool (eV p.sig r))):=by
 intro o nx hI K X hK
 have hle:=hI.le
 have hg:=hI.bn
 have q0:o sp= .row p.row:=by rw[hI.eq sp hb,EB]
 refine cH.aJ mix ac0 aI ?_
 rw[c99]
 refine jz q0 ?_
 refine aD (QC p.sig hp.sig r (hp.all r hr)) rfl ?_
 exact aa1
theorem Ns(p:Pg)(hp:p.Fin):aV Tryz.prog 71 [p.d] (.ret [.bool (lQ p)]):=by
 have hl:=hp.len
 refine aV.aJ mix acT aI ?_
 rw[c71]
 unfold lQ
 by_cases h0: ¬p.rules.length<=16
 ·have Pf:decide ((p.rules.length:Int)<=16)=false:=by simp;omega
  have X1:decide (p.rules.length<=16)=false:=by simp;omega
  refine oC Pf ?_
  rw[X1];rfl
 have Pf:decide ((p.rules.length:Int)<=16)=true:=by simp;omega
 have X1:decide (p.rules.length<=16)=true:=by simp;omega
 rw[X1,Bool.true_and]
 refine oC Pf ?_
 refine aD (wu p.sig hp.sig) rfl ?_
 cases h1:jw p.sig with
 |false=>
  refine EF ?_
  try simp
 |true=>
  refine EF ?_
  refine aS (A9 p.rules hl 99 [.ptr 0 0] 1 (ax (fun _=> .no) 0 (.row p.row)) (eV p.sig) oE (fun x hx=>JZ p hp x hx 1 0 _ (af _ _ _) ag) _ _ ⟨fm,ag,fun id aq=>rfl⟩ _ _ fun o2 n2 m1 m2 m3=> ?_)
  refine a8 ?_
  try simp
theorem DJ(p:Pg)(hp:p.Fin):aV Tryz.prog 40 [p.d] (.ret [.i (ly (lQ p))]):=by
 refine aV.aJ mix acH aI ?_
 rw[c40]
 refine a8 ?_
 refine aD (Ns p hp) rfl ?_
 cases h1:lQ p with
 |false=>exact KT
 |true=>exact KT
def kn(op v:Int)(xs:List Tm):Nat:=xs.countP fun x=>x.op==op&&x.n==v
theorem HU:∀ (m:List (Int×Int)) (v w u:Int),lk (lr m v w) u=if v=u then some w else lk m u
 |[],v,w,u=>by simp only[lr,lk]
 |p::m,v,w,u=>by
  have ih:=HU m v w u
  unfold lr
  by_cases h:p.1=v
  ·rw[if_pos h]
   simp only[lk]
   by_cases h2:v=u
   ·simp[h2]
   ·have: ¬p.1=u:=by rw[h];exact h2
    simp[h2,this]
  ·rw[if_neg h]
   simp only[lk]
   by_cases h2:p.1=u
   ·have: ¬v=u:=by intro e;exact h (h2.trans e.symm)
    simp[h2,this]
   ·simp only[h2,if_false];exact ih
theorem DK:∀ (m:List (Int×Int)) (v w u:Int),u∈(lr m v w).map (·.1)↔u=v\/u∈m.map (·.1)
 |[],v,w,u=>by simp[lr]
 |p::m,v,w,u=>by
  have ih:=DK m v w u
  unfold lr
  by_cases h:p.1=v
  ·rw[if_pos h];simp[h]
  ·rw[if_neg h,List.map_cons,List.mem_cons,ih,List.map_cons,List.mem_cons]
   constructor
   ·rintro(h1|h1|h1)<;>simp[h1]
   ·rintro(h1|h1|h1)<;>simp[h1]
theorem zo:∀ (m:List (Int×Int)) (v w:Int),uk m->uk (lr m v w)
 |[],v,w,_=>by simp[lr,uk]
 |p::m,v,w,hk=>by
  have OX:p.1∉m.map (·.1)/\uk m:=by
   unfold uk at hk|-
   rwa [List.map_cons,List.nodup_cons]at hk
  have ih:=zo m v w OX.2
  unfold lr
  by_cases h:p.1=v
  ·rw[if_pos h]
   unfold uk
   rw[List.map_cons,List.nodup_cons]
   exact⟨by rw[<- h];exact OX.1,OX.2⟩
  ·rw[if_neg h]
   unfold uk
   rw[List.map_cons,List.nodup_cons]
   exact⟨fun hm=>by
    rcases(DK m v w p.1).1 hm with e|e
    ·exact h e
    ·exact OX.1 e,ih⟩
theorem FZ(op:Int):∀ (xs:List Tm) (m:List (Int×Int)) (c:Int->Nat),uk m->(∀v,lk m v=if c v=0 then none else some (c v:Int))->(∀v,c v+xs.length<=1000000)->
 uk (xs.foldl (dJ op) m)/\∀v,lk (xs.foldl (dJ op) m) v=if c v+kn op v xs=0 then none else some ((c v+kn op v xs:Nat):Int)
 |[],m,c,hk,hl,_=>⟨hk,fun v=>by rw[List.foldl_nil,hl v];rfl⟩
 |x::xs,m,c,hk,hl,hb=>by
  simp only[List.foldl_cons]
  by_cases h:x.op=op
  ·have hg:gD m x.n=(c x.n:Int):=by
    unfold gD;rw[hl];split
    ·next h0=>rw[h0];rfl
    ·rfl
   have Vv:=hb x.n
   simp only[List.length_cons]at Vv hb
   have e1:dJ op m x=lr m x.n ((c x.n+1:Nat):Int):=by
    unfold dJ um
    rw[if_pos h,hg,wrap64 (by omega) (by omega)]
    push_cast;rfl
   rw[e1]
   have ih:=FZ op xs (lr m x.n ((c x.n+1:Nat):Int)) (fun v=>c v+if x.n=v then 1 else 0) (zo _ _ _ hk) (fun v=>by
    rw[HU]
    by_cases e:x.n=v
    ·subst e;simp
    ·simp[e,hl v]) (fun v=>by have:=hb v;split<;>omega)
   refine⟨ih.1,fun v=> ?_⟩
   rw[ih.2 v]
   have e2:(c v+if x.n=v then 1 else 0)+kn op v xs=c v+kn op v (x::xs):=by
    unfold kn
    rw[List.countP_cons]
    by_cases e:x.n=v<;>simp[h,e]<;>omega
   rw[e2]
  ·have e1:dJ op m x=m:=by unfold dJ;rw[if_neg h]
   rw[e1]
   have ih:=FZ op xs m c hk hl (fun v=>by have:=hb v;simp at this;omega)
   refine⟨ih.1,fun v=> ?_⟩
   rw[ih.2 v]
   have e2:kn op v (x::xs)=kn op v xs:=by
    unfold kn
    rw[List.countP_cons];simp[h]
   rw[e2]
def ow(l:List Tm):List Tm:=l.flatMap gX
theorem HV(op:Int)(l:List Tm)(hb:(ow l).length<=1000000):uk (dK op l)/\∀v,lk (dK op l) v=if kn op v (ow l)=0 then none else some (kn op v (ow l):Int):=by
 have:=FZ op (ow l) [] (fun _=>0) List.nodup_nil (fun v=>by simp[lk]) (fun v=>by simpa using hb)
 refine⟨this.1,fun v=> ?_⟩
 have h:=this.2 v
 rw[Nat.zero_add]at h
 exact h
theorem DL(op:Int)(l:List Tm)(hb:(ow l).length<=1000000)(v:Int):gD (dK op l) v=(kn op v (ow l):Int):=by
 unfold gD
 rw[(HV op l hb).2 v]
 split
 ·next h=>rw[h];rfl
 ·rfl
theorem wC(op:Int)(l:List Tm)(hb:(ow l).length<=1000000)(p:Int×Int->Bool):(dK op l).all p=true↔∀v,0<kn op v (ow l)->p (v,(kn op v (ow l):Int))=true:=by
 obtain⟨hk,hl⟩:=HV op l hb
 rw[List.all_eq_true]
 constructor
 ·intro h v hv
  refine h _ ((HQ hk).1 ?_)
  rw[hl v,if_neg (by omega)]
 ·rintro h ⟨v,c⟩ hm
  have h1:=(HQ hk).2 hm
  rw[hl v]at h1
  split at h1
  ·cases h1
  ·next h0=>
   injection h1 with h1
   have:=h v ag
   rw[h1]at this
   exact this
theorem QD(m:List (Int×Int)):∀ (t:Tm) (ou:List Int),A6 m t ou=true↔∀v,FY v t=true->gD m v=0\/v∈ou:=by
 refine Tm.fy fun t ih ou=> ?_
 have key:∀ (l:List Tm) (i:Nat),(∀k∈l,k∈t.kids)->(rk m t.op t.n l i ou=true↔∀v,rl v t.op t.n l i=true->gD m v=0\/v∈ou):=by
  intro l
  induction l with
  |nil=>intro i _;simp[rk,rl]
  |cons k l wg=>
   intro i hk
   have h1:=ih k (hk k aI) (if t.op=8/\i=1 then ou++[t.n]else ou)
   have h2:=wg (i+1) (fun x hx=>hk x o8)
   simp only[rk,rl,Bool.and_eq_true,h1,h2,Bool.or_eq_true]
   by_cases hc:t.op=8/\i=1
   ·simp only[hc,and_self,if_true,List.mem_append,List.mem_singleton]
    constructor
    ·rintro⟨a,b⟩ v (⟨c,d⟩|c)
     ·rcases a v c with e|e|e
      ·exact .inl e
      ·exact .inr e
      ·subst e;simp at d
     ·exact b v c
    ·intro a
     refine⟨fun v c=> ?_,fun v c=>a v (.inr c)⟩
     by_cases e:v=t.n
     ·exact .inr (.inr e)
     ·rcases a v (.inl ⟨c,by simp;exact fun e2=>e e2.symm⟩)with g|g
      ·exact .inl g
      ·exact .inr (.inl g)
   ·have hb:(t.op==8&&i==1)=false:=by
     cases h:(t.op==8&&i==1)with
     |false=>rfl
     |true=>simp at h;exact absurd h hc
    simp only[hc,if_false,hb,Bool.false_and,Bool.not_false,and_true]
    constructor
    ·rintro⟨a,b⟩ v (c|c)
     ·exact a v c
     ·exact b v c
    ·intro a
     exact⟨fun v c=>a v (.inl c),fun v c=>a v (.inr c)⟩
 rw[HS]
 by_cases h:t.op=1
 ·rw[if_pos h]
  simp only[wB,h,if_true]
  simp
 ·rw[if_neg h,key t.kids 0 (fun _ h=>h)]
  simp only[wB,h,if_false]
theorem J0(s:bH)(r:Rl)(h1:(ow r.aC).length<=1000000)(h2:(ow [r.rhs]).length<=1000000):eV s r=true↔mP s r=true/\
 (∀v,0<kn 1 v (ow r.aC)->kn 1 v (ow r.aC)<=1/\v<r.vars)/\(∀v,0<kn 1 v (ow [r.rhs])->v<r.vars)/\
 (∀v,0<kn 8 v (ow [r.rhs])->kn 8 v (ow [r.rhs])<=1/\v<r.vars/\kn 1 v (ow r.aC)=0)/\(∀v,FY v r.rhs=true->kn 8 v (ow [r.rhs])=0):=by
 unfold eV
 simp only[Bool.and_eq_true,wC 1 r.aC h1,wC 1 [r.rhs] h2,wC 8 [r.rhs] h2,QD,DL 1 r.aC h1,DL 8 [r.rhs] h2,decide_eq_true_eq]
 constructor
 ·rintro⟨⟨⟨⟨a,b⟩,c⟩,d⟩,e⟩
  refine⟨a,fun v hv=> ?_,c,fun v hv=> ?_,fun v hv=> ?_⟩
  ·have:=b v hv;omega
  ·have:=d v hv;omega
  ·rcases e v hv with g|g
   ·omega
   ·cases g
 ·rintro⟨a,b,c,d,e⟩
  refine⟨⟨⟨⟨a,fun v hv=> ?_⟩,c⟩,fun v hv=> ?_⟩,fun v hv=> .inl ?_⟩
  ·have:=b v hv;omega
  ·have:=d v hv;omega
  ·have:=e v hv;omega
def j9:List Int->Int->List Int
 |[],n=>[n]
 |x::l,n=>if x<n then x::j9 l n else if x=n then x::l else n::x::l
def mA(op n:Int)(i:Nat)(l out:List Int):List Int:=l.foldl (fun out v=>if(op !=8||(i:Int)!=1||v !=n)=true then j9 out v else out) out
mutual
def bR:Tm->List Int
 | .mk op n kids=>if op=1 then [n]else ji op n kids 0 []
def ji(op n:Int):List Tm->Nat->List Int->List Int
 |[],_,out=>out
 |k::l,i,out=>ji op n l (i+1) (mA op n i (bR k) out)
end
theorem nS(t:Tm):bR t=if t.op=1 then [t.n]else ji t.op t.n t.kids 0 []:=by cases t;rfl
theorem rm:∀ (l:List Int) (n v:Int),v∈j9 l n↔v∈l\/v=n
 |[],n,v=>by simp[j9]
 |x::l,n,v=>by
  simp only[j9]
  split
  ·simp only[List.mem_cons,rm l n v];constructor
   ·rintro(h|h|h)
    ·exact .inl (.inl h)
    ·exact .inl (.inr h)
    ·exact .inr h
   ·rintro((h|h)|h)
    ·exact .inl h
    ·exact .inr (.inl h)
    ·exact .inr (.inr h)
  ·split
   ·rename_i h;subst h;simp only[List.mem_cons];constructor
    ·exact .inl
    ·rintro(h|h)
     ·exact h
     ·exact .inl h
   ·simp only[List.mem_cons];constructor
    ·rintro(h|h)
     ·exact .inr h
     ·exact .inl h
    ·rintro(h|h)
     ·exact .inr h
     ·exact .inl h
abbrev X2(l:List Int):Prop:=l.Pairwise (· <·)
theorem DM:∀ {l:List Int} (n:Int),X2 l->X2 (j9 l n)
 |[],n,_=>by simp[j9]
 |x::l,n,h=>by
  have h1:=List.pairwise_cons.1 h
  simp only[j9]
  split
  ·rename_i hx
   refine List.pairwise_cons.2 ⟨fun y hy=> ?_,DM n h1.2⟩
   rcases(rm l n y).1 hy with hy|hy
   ·exact h1.1 y hy
   ·omega
  ·split
   ·exact h
   ·refine List.pairwise_cons.2 ⟨fun y hy=> ?_,h⟩
    rcases List.mem_cons.1 hy with hy|hy
    ·omega
    ·have:=h1.1 y hy;omega
theorem sN(op n:Int)(i:Nat):∀ (l out:List Int),X2 out->X2 (mA op n i l out)/\∀v,v∈mA op n i l out↔v∈out\/(v∈l/\ ¬ (op=8/\i=1/\n=v))
 |[],out,h=>⟨h,fun v=>by simp[mA]⟩
 |x::l,out,h=>by
  have hk:mA op n i (x::l) out=mA op n i l (if(op !=8||(i:Int)!=1||x !=n)=true then j9 out x else out):=rfl
  rw[hk]
  by_cases hc:(op !=8||(i:Int)!=1||x !=n)=true
  ·rw[if_pos hc]
   have ih:=sN op n i l (j9 out x) (DM x h)
   refine⟨ih.1,fun v=> ?_⟩
   rw[ih.2 v,rm,List.mem_cons]
   have th: ¬ (op=8/\i=1/\n=x):=by
    rintro⟨h1,h2,h3⟩;subst h1;subst h2;subst h3;simp at hc
   constructor
   ·rintro((h|h)|h)
    ·exact .inl h
    ·subst h;exact .inr ⟨.inl rfl,th⟩
    ·exact .inr ⟨.inr h.1,h.2⟩
   ·rintro(h|⟨h|h,h2⟩)
    ·exact .inl (.inl h)
    ·exact .inl (.inr h)
    ·exact .inr ⟨h,h2⟩
  ·rw[if_neg hc]
   have ih:=sN op n i l out h
   refine⟨ih.1,fun v=> ?_⟩
   rw[ih.2 v,List.mem_cons]
   have th:op=8/\i=1/\n=x:=by simp at hc;exact⟨hc.1.1,ag,hc.2.symm⟩
   constructor
   ·rintro(h|h)
    ·exact .inl h
    ·exact .inr ⟨.inr h.1,h.2⟩
   ·rintro(h|⟨h|h,h2⟩)
    ·exact .inl h
    ·subst h;exact absurd th h2
    ·exact .inr ⟨h,h2⟩
theorem kb:∀t:Tm,X2 (bR t)/\∀v,v∈bR t↔FY v t=true:=by
 refine Tm.fy fun t ih=> ?_
 have hs:∀ (l:List Tm) (i:Nat) (out:List Int),(∀k∈l,k∈t.kids)->X2 out->X2 (ji t.op t.n l i out)/\∀v,v∈ji t.op t.n l i out↔v∈out\/rl v t.op t.n l i=true:=by
  intro l
  induction l with
  |nil=>intro i out _ h;exact⟨h,fun v=>by simp[ji,rl]⟩
  |cons k l wg=>
   intro i out hk h
   have h1:=ih k (hk k aI)
   have h2:=sN t.op t.n i (bR k) out h
   have h3:=wg (i+1) _ (fun x hx=>hk x o8) h2.1
   refine⟨h3.1,fun v=> ?_⟩
   show v∈ji t.op t.n l (i+1) (mA t.op t.n i (bR k) out)↔_
   rw[h3.2 v,h2.2 v,h1.2 v,rl]
   simp only[Bool.or_eq_true,Bool.and_eq_true,Bool.not_eq_true',Bool.and_eq_false_iff,beq_eq_false_iff_ne,ne_eq,not_and]
   have:(∀ (_:t.op=8) (_:i=1), ¬t.n=v)↔((¬t.op=8\/ ¬i=1)\/ ¬t.n=v):=by
    constructor
    ·intro h
     by_cases c1:t.op=8
     ·by_cases c2:i=1
      ·exact .inr (h c1 c2)
      ·exact .inl (.inr c2)
     ·exact .inl (.inl c1)
    ·rintro((h|h)|h) c1 c2
     ·exact absurd c1 h
     ·exact absurd c2 h
     ·exact h
   rw[this]
   constructor
   ·rintro((h|h)|h)
    ·exact .inl h
    ·exact .inr (.inl h)
    ·exact .inr (.inr h)
   ·rintro(h|h|h)
    ·exact .inl (.inl h)
    ·exact .inl (.inr h)
    ·exact .inr h
 by_cases h1:t.op=1
 ·rw[nS,if_pos h1]
  refine⟨aI,fun v=> ?_⟩
  rw[wB,if_pos h1]
  simp only[List.mem_singleton,beq_iff_eq]
  exact eq_comm
 ·rw[nS,if_neg h1]
  have:=hs t.kids 0 [] (fun _ h=>h) aI
  refine⟨this.1,fun v=> ?_⟩
  rw[this.2 v,wB,if_neg h1]
  simp
theorem wD:∀ (l:List Int) (n:Int),(j9 l n).length<=l.length+1
 |[],n=>by simp[j9]
 |x::l,n=>by
  have:=wD l n
  simp only[j9]
  split
  ·simp;omega
  ·split<;>simp
theorem nT(op n:Int)(i:Nat):∀ (l out:List Int),(mA op n i l out).length<=out.length+l.length
 |[],out=>by simp[mA]
 |x::l,out=>by
  have hk:mA op n i (x::l) out=mA op n i l (if(op !=8||(i:Int)!=1||x !=n)=true then j9 out x else out):=rfl
  rw[hk]
  have h1:=wD out x
  split
  ·have:=nT op n i l (j9 out x);simp;omega
  ·have:=nT op n i l out;simp;omega
theorem lR:∀t:Tm,(bR t).length<=t.sz:=by
 refine Tm.fy fun t ih=> ?_
 have hs:∀ (l:List Tm) (i:Nat) (out:List Int),(∀k∈l,k∈t.kids)->(ji t.op t.n l i out).length<=out.length+iV l:=by
  intro l
  induction l with
  |nil=>intro i out _;simp[ji]
  |cons k l wg=>
   intro i out hk
   have h1:=ih k (hk k aI)
   have h2:=nT t.op t.n i (bR k) out
   have h3:=wg (i+1) (mA t.op t.n i (bR k) out) (fun x hx=>hk x o8)
   rw[j8]
   show(ji t.op t.n l (i+1) (mA t.op t.n i (bR k) out)).length<=_
   omega
 rw[nS,Tm.re]
 split
 ·simp
 ·have:=hs t.kids 0 [] (fun _ h=>h);simp at this;omega
theorem QE(t:Tm):ow [t]=gX t:=by simp[ow]
theorem DN(op v:Int)(x:Tm)(l:List Tm):kn op v (x::l)=kn op v l+if x.op=op/\x.n=v then 1 else 0:=by
 unfold kn
 rw[List.countP_cons]
 by_cases h:x.op=op/\x.n=v
 ·simp[h]
 ·rw[if_neg h,if_neg (by simpa using h)]
theorem F0(op v:Int)(a b:List Tm):kn op v (a++b)=kn op v a+kn op v b:=by unfold kn;rw[List.countP_append]
theorem kV(op v:Int)(l:List Tm):0<kn op v l↔∃x∈l,x.op=op/\x.n=v:=by
 unfold kn
 rw[List.countP_pos_iff]
 simp
mutual
def dL:Tm->List Int
 | .mk op n kids=>(if op=8 then [n]else [])++cS kids
def cS:List Tm->List Int
 |[]=>[]
 |k::l=>dL k++cS l
end
theorem sO(t:Tm):dL t=(if t.op=8 then [t.n]else [])++cS t.kids:=by cases t;rw[dL];rfl
theorem nU:∀ (t:Tm) (v:Int),(dL t).count v=kn 8 v (gX t):=by
 refine Tm.fy fun t ih v=> ?_
 have key:∀l:List Tm,(∀k∈l,k∈t.kids)->(cS l).count v=kn 8 v (l.flatMap gX):=by
  intro l
  induction l with
  |nil=>intro _;rfl
  |cons k l wg=>
   intro hk
   rw[cS,List.count_append,ih k (hk k (by simp)) v,wg (fun x hx=>hk x (by simp[hx])),List.flatMap_cons,F0]
 rw[sO,List.count_append,key t.kids (fun _ h=>h),nQ,DN]
 by_cases h:t.op=8
 ·by_cases h2:t.n=v
  ·simp[h,h2];omega
  ·simp[h,h2]
 ·simp[h]
theorem zp(t:Tm)(v:Int):v∈dL t↔0<kn 8 v (gX t):=by
 rw[<- nU,List.count_pos_iff]
mutual
def eG(n:Int):Tm->Bool
 | .mk op k kids=>iQ n kids&&((op !=1&&op !=8)||decide (k<n))
def iQ(n:Int):List Tm->Bool
 |[]=>true
 |k::l=>eG n k&&iQ n l
end
theorem wE(n:Int)(t:Tm):eG n t=(iQ n t.kids&&((t.op !=1&&t.op !=8)||decide (t.n<n))):=by cases t;rw[eG];rfl
theorem F1(n:Int):∀t:Tm,eG n t=true↔∀x∈gX t,x.op=1\/x.op=8->x.n<n:=by
 refine Tm.fy fun t ih=> ?_
 have key:∀l:List Tm,(∀k∈l,k∈t.kids)->(iQ n l=true↔∀x∈l.flatMap gX,x.op=1\/x.op=8->x.n<n):=by
  intro l
  induction l with
  |nil=>intro _;simp[iQ]
  |cons k l wg=>
   intro hk
   rw[iQ,Bool.and_eq_true,ih k (hk k (by simp)),wg (fun x hx=>hk x (by simp[hx])),List.flatMap_cons]
   simp only[List.mem_append]
   constructor
   ·rintro⟨a,b⟩ x (h|h)
    ·exact a x h
    ·exact b x h
   ·intro a
    exact⟨fun x h=>a x (.inl h),fun x h=>a x (.inr h)⟩
 rw[wE,Bool.and_eq_true,key t.kids (fun _ h=>h),nQ]
 simp only[List.mem_cons,Bool.or_eq_true,Bool.and_eq_true,bne_iff_ne,decide_eq_true_eq]
 constructor
 ·rintro⟨a,b⟩ x (h|h) h2
  ·subst h
   rcases b with⟨b1,b2⟩|b
   ·rcases h2 with e|e
    ·exact absurd e b1
    ·exact absurd e b2
   ·exact b
  ·exact a x h h2
 ·intro a
  refine⟨fun x h=>a x (.inr h), ?_⟩
  by_cases h:t.op=1\/t.op=8
  ·exact .inr (a t (.inl rfl) h)
  ·exact .inl ⟨fun e=>h (.inl e),fun e=>h (.inr e)⟩
theorem F2(n:Int)(t:Tm):eG n t=true↔(∀v,0<kn 1 v (gX t)->v<n)/\∀v,0<kn 8 v (gX t)->v<n:=by
 rw[F1]
 constructor
 ·intro a
  refine⟨fun v h=> ?_,fun v h=> ?_⟩<;>(obtain⟨x,h1,h2,h3⟩:=(kV _ _ _).1 h;rw[<- h3];exact a x h1 (by simp[h2]))
 ·rintro⟨a,b⟩ x h (h2|h2)
  ·exact a _ ((kV _ _ _).2 ⟨x,h,h2,rfl⟩)
  ·exact b _ ((kV _ _ _).2 ⟨x,h,h2,rfl⟩)
def sP(t:Tm)(aC:List Int):Bool:=(dL t).all fun v=> !(decide (1<((dL t).count v:Int))||aC.contains v||(bR t).contains v)
theorem J1(t:Tm)(aC:List Int):sP t aC=true↔∀v,0<kn 8 v (gX t)->kn 8 v (gX t)<=1/\v∉aC/\FY v t=false:=by
 unfold sP
 rw[List.all_eq_true]
 have hv:∀v,(bR t).contains v=FY v t:=fun v=>by
  rw[Bool.eq_iff_iff,List.contains_iff_mem,(kb t).2 v]
 constructor
 ·intro a v h
  have:=a v ((zp t v).2 h)
  rw[nU,hv]at this
  simp at this
  exact⟨ag,this.1.2,this.2⟩
 ·intro a v h
  obtain⟨a1,a2,a3⟩:=a v ((zp t v).1 h)
  rw[nU,hv,a3]
  simp
  exact⟨ag,a2⟩
theorem ox:∀ (W A:List Int),A.Nodup->(∀v,v∈A↔v∈W)->A.length<=W.length/\(A.length=W.length↔W.Nodup)
 |[],A,hA,h=>by
  have:A=[]:=List.eq_nil_iff_forall_not_mem.2 fun v hv=>by simpa using(h v).1 hv
  subst this;simp
 |x::W,A,hA,h=>by
  by_cases hx:x∈W
  ·have ih:=(ox W A hA fun v=>by
    rw[h v,List.mem_cons]
    exact⟨fun e=>e.elim (fun e=>e ▸ hx) id, .inr⟩).1
   refine⟨by simp;omega, ?_⟩
   rw[List.length_cons,List.nodup_cons]
   exact⟨fun e=>ag,fun e=>absurd hx e.1⟩
  ·have hxA:x∈A:=(h x).2 aI
   have ih:=ox W (A.erase x) (hA.erase x) fun v=>by
    rw[hA.mem_erase_iff,h v,List.mem_cons]
    constructor
    ·rintro⟨a,b|b⟩
     ·exact absurd b a
     ·exact b
    ·intro a
     exact⟨fun e=>hx (e ▸ a), .inr a⟩
   have hl:(A.erase x).length=A.length - 1:=List.length_erase_of_mem hxA
   have hp:0<A.length:=List.length_pos_of_mem hxA
   rw[hl]at ih
   rw[List.length_cons,List.nodup_cons]
   refine⟨ag, ?_⟩
   constructor
   ·intro e;exact⟨hx,ih.2.1 ag⟩
   ·intro e
    have:=ih.2.2 e.2
    omega
def Nt(t:Tm):List Int:=((gX t).filter fun x=>x.op==1).map Tm.n
theorem wF(l:List Tm)(v:Int):((l.filter fun x=>x.op==1).map Tm.n).count v=kn 1 v l:=by
 induction l with
 |nil=>rfl
 |cons x l ih=>
  rw[DN, <- ih]
  by_cases h:x.op=1
  ·have h':(x.op==1)=true:=by simpa using h
   have e:(x::l).filter (fun x=>x.op==1)=x::l.filter (fun x=>x.op==1):=by rw[List.filter_cons,if_pos h']
   rw[e,List.map_cons,List.count_cons]
   by_cases h2:x.n=v
   ·simp[h,h2]
   ·simp[h2]
  ·have h': ¬ (x.op==1)=true:=by simpa using h
   have e:(x::l).filter (fun x=>x.op==1)=l.filter (fun x=>x.op==1):=by rw[List.filter_cons,if_neg h']
   rw[e]
   simp[h]
structure zq (t:Tm):Prop where
 once:(Nt t).Nodup
 free:∀v,FY v t=true↔v∈Nt t
theorem tN(t:Tm):(bR t).Nodup:=(kb t).1.imp fun {a b} h=>ag
theorem X4{t:Tm}(h:zq t):(bR t).length=(Nt t).length:=
 ((ox (Nt t) (bR t) (tN t) fun v=>by rw[(kb t).2 v,h.free v]).2).2 h.once
def F3(l:List Tm):Bool:=(l.map fun t=>(bR t).length).sum==(bR (.mk 0 0 l)).length
theorem DO(l:List Tm)(v:Int):FY v (.mk 0 0 l)=true↔∃t∈l,FY v t=true:=by
 have key:∀ (l:List Tm) (i:Nat),rl v 0 0 l i=l.any (FY v):=by
  intro l
  induction l with
  |nil=>intro i;rfl
  |cons k l ih=>intro i;simp[rl,ih]
 have e:FY v (.mk 0 0 l)=rl v 0 0 l 0:=rfl
 rw[e,key,List.any_eq_true]
theorem HW(l:List Tm)(h:∀t∈l,zq t):F3 l=true↔∀v,kn 1 v (ow l)<=1:=by
 have hW:((ow l).filter fun x=>x.op==1).map Tm.n=l.flatMap Nt:=by
  unfold ow
  induction l with
  |nil=>rfl
  |cons t l ih=>
   rw[List.flatMap_cons,List.filter_append,List.map_append,List.flatMap_cons,ih (fun x hx=>h x (by simp[hx]))];rfl
 have hlen:(l.map fun t=>(bR t).length).sum=(l.flatMap Nt).length:=by
  clear hW
  induction l with
  |nil=>rfl
  |cons t l ih=>
   rw[List.map_cons,List.sum_cons,List.flatMap_cons,List.length_append,ih (fun x hx=>h x (by simp[hx])),X4 (h t (by simp))]
 have hm:∀v,v∈bR (.mk 0 0 l)↔v∈l.flatMap Nt:=fun v=>by
  rw[(kb _).2 v,DO,List.mem_flatMap]
  constructor
  ·rintro⟨t,h1,h2⟩;exact⟨t,h1,((h t h1).free v).1 h2⟩
  ·rintro⟨t,h1,h2⟩;exact⟨t,h1,((h t h1).free v).2 h2⟩
 have hn:=(ox (l.flatMap Nt) (bR (.mk 0 0 l)) (tN _) hm).2
 unfold F3
 rw[hlen,beq_iff_eq,eq_comm,hn,List.nodup_iff_count]
 constructor
 ·intro a v;rw[<- wF,hW];exact a v
 ·intro a v;rw[<- hW,wF];exact a v
def mB(t:Tm):Bool:=t.op==1||t.op==3
mutual
def gU:Tm->Bool
 | .mk op n kids=>uP kids&&mB (.mk op n kids)
def uP:List Tm->Bool
 |[]=>true
 |k::l=>gU k&&uP l
end
theorem zr(t:Tm):gU t=(t.kids.all gU&&mB t):=by
 have:∀l:List Tm,uP l=l.all gU:=fun l=>by
  induction l with
  |nil=>rfl
  |cons k l ih=>simp[uP,ih]
 cases t;simp only[gU,this,Tm.kids]
mutual
def gB:Tm->List Int->List Int×Bool
 | .mk op n kids,b=>if op=1 then(j9 b n, !b.contains n)else fY kids b
def fY:List Tm->List Int->List Int×Bool
 |[],b=>(b,true)
 |k::l,b=>if(gB k b).2=true then fY l (gB k b).1 else((gB k b).1,false)
end
theorem rn(t:Tm)(b:List Int):gB t b=if t.op=1 then(j9 b t.n, !b.contains t.n)else fY t.kids b:=by cases t;rfl
theorem J2:∀ (t:Tm) (b:List Int),(gB t b).1.length<=b.length+t.sz:=by
 refine Tm.fy fun t ih b=> ?_
 have hs:∀ (l:List Tm) (b:List Int),(∀k∈l,k∈t.kids)->(fY l b).1.length<=b.length+iV l:=by
  intro l
  induction l with
  |nil=>intro b _;simp[fY,iV]
  |cons k l wg=>
   intro b hk
   have h1:=ih k (hk k aI) b
   have h2:=wg (gB k b).1 (fun x hx=>hk x o8)
   rw[j8]
   simp only[fY]
   split
   ·omega
   ·simp only;omega
 rw[rn,Tm.re]
 have h3:=wD b t.n
 have h4:=hs t.kids b (fun _ h=>h)
 split
 ·simp only;omega
 ·omega
def uq(l:List (Tm×Int)):List Int:=(l.filter fun x=>x.1.op==1).map fun x=>x.1.n
theorem wG(a b:List (Tm×Int)):uq (a++b)=uq a++uq b:=by simp[uq]
theorem wH(x:Tm×Int)(l:List (Tm×Int)):uq (x::l)=(if x.1.op=1 then x.1.n::uq l else uq l):=by
 unfold uq
 by_cases h:x.1.op=1
 ·simp[h]
 ·simp[h]
theorem Ba{l:List Tm}{d v:Int}:v∈uq (l.flatMap fun k=>pre k d)↔∃k∈l,v∈uq (pre k d):=by
 induction l with
 |nil=>simp[uq]
 |cons k l ih=>simp[wG,ih]
theorem HX{v op n:Int}(h:op≠8):∀ (l:List Tm) (i:Nat),rl v op n l i=l.any (FY v)
 |[],i=>rfl
 |k::l,i=>by
  have:(op==8)=false:=by simpa using h
  simp[rl,HX h l,this]
theorem X5:∀ (t:Tm) (d:Int),(∀x∈pre t d,x.1.op≠8)->(∀x∈pre t d,x.1.op=1->x.1.kids=[])->∀v,FY v t=true↔v∈uq (pre t d):=by
 refine Tm.fy fun t ih d h8 h1 v=> ?_
 have hp:=jV t d
 have ht8:t.op≠8:=h8 (t,d) (by rw[hp];simp)
 have kq:∀k∈t.kids,∀x∈pre k (d+1),x∈pre t d:=fun k hk x hx=>by rw[hp];exact List.mem_cons_of_mem _ (List.mem_flatMap.2 ⟨k,hk,hx⟩)
 rw[hp,wH,wB]
 by_cases h:t.op=1
 ·have hk:t.kids=[]:=h1 (t,d) (by rw[hp];simp) h
  simp only[if_pos h,hk,List.flatMap_nil]
  show(t.n==v)=true↔v∈[t.n]
  rw[beq_iff_eq,List.mem_singleton];exact eq_comm
 ·simp only[if_neg h]
  rw[HX ht8,Ba,List.any_eq_true]
  constructor
  ·rintro⟨k,hk,hv⟩
   exact⟨k,hk,(ih k hk (d+1) (fun x hx=>h8 x (kq k hk x hx)) (fun x hx=>h1 x (kq k hk x hx)) v).1 hv⟩
  ·rintro⟨k,hk,hv⟩
   exact⟨k,hk,(ih k hk (d+1) (fun x hx=>h8 x (kq k hk x hx)) (fun x hx=>h1 x (kq k hk x hx)) v).2 hv⟩
theorem rp{s:bH}{t:Tm}(h:fL s t=true):∀x∈pre t 1,bu s x.1=true:=by
 simp only[fL,Bool.and_eq_true,wy s t 1,List.all_eq_true]at h
 exact h.2
theorem DP{s:bH}{t:Tm}(h:bu s t=true)(h1:t.op=1):t.kids=[]:=by
 simp[bu,h1]at h
 exact h.1
theorem wI:∀ (L:List (Tm×Int)) (l:List Int) (b:Bool),(aw (zd pJ lP) (l,b) L).2=true↔(∀x∈L,mB x.1=true)/\(uq L).Nodup/\∀v∈uq L,v∉l
 |[],l,b=>by simp[aw,uq]
 |x::L,l,b=>by
  have e1:∀c,uo l x=c->zd pJ lP (l,b) x=((if c=true then l else if x.1.op=1 then A5 l x.1.n else l, !c), !c):=fun c hc=>by
   show((if uo l x=true then l else if x.1.op=1 then A5 l x.1.n else l, !uo l x),(pJ (if uo l x=true then l else if x.1.op=1 then A5 l x.1.n else l, !uo l x)).isNone)=_
   rw[hc];cases c<;>rfl
  rw[aw,wH]
  cases hb:uo l x with
  |true=>
   rw[e1 _ hb]
   simp only[Bool.not_true,Bool.false_eq_true,if_false,false_iff,not_and]
   intro hs hn hv
   have hsx:=hs x aI
   simp only[uo,mB,Bool.or_eq_true,Bool.and_eq_true,bne_iff_ne,beq_iff_eq,ne_eq]at hb hsx
   rcases hb with⟨h1,h2⟩|⟨h1,h2⟩
   ·rcases hsx with h|h
    ·exact h1 h
    ·exact h2 h
   ·rw[if_pos h1]at hv
    exact hv x.1.n aI uZ
  |false=>
   rw[e1 _ hb]
   simp only[Bool.not_false,if_true,Bool.false_eq_true,if_false]
   rw[wI L]
   simp only[uo,Bool.or_eq_false_iff,Bool.and_eq_false_iff,bne_eq_false_iff_eq,beq_eq_false_iff_ne,ne_eq]at hb
   have hsx:mB x.1=true:=by simp only[mB,Bool.or_eq_true,beq_iff_eq];exact hb.1
   by_cases h1:x.1.op=1
   ·have tp:x.1.n∉l:=by
     rcases hb.2 with h|h
     ·exact absurd h1 h
     ·intro hm;rw[<- List.contains_iff_mem]at hm;rw[h]at hm;cases hm
    rw[if_pos h1,if_pos h1]
    simp only[List.mem_cons,forall_eq_or_imp,hsx,true_and,List.nodup_cons,Nh,not_or]
    constructor
    ·rintro⟨a1,a2,a3⟩
     exact⟨a1,⟨fun hm=>(a3 _ hm).2 rfl,a2⟩,tp,fun v hv=>(a3 v hv).1⟩
    ·rintro⟨a1,⟨a2,a3⟩,a4,a5⟩
     exact⟨a1,a3,fun v hv=>⟨a5 v hv,fun e=>a2 (e ▸ hv)⟩⟩
   ·rw[if_neg h1,if_neg h1]
    simp only[List.mem_cons,forall_eq_or_imp,hsx,true_and]
theorem J3:∀ (t:Tm) (d:Int),(∀x∈pre t d,x.1.op=1->x.1.kids=[])->∀b:List Int,((gB t b).2=true↔(uq (pre t d)).Nodup/\∀v∈uq (pre t d),v∉b)/\((gB t b).2=true->∀v,v∈(gB t b).1↔v∈b\/v∈uq (pre t d)):=by
 refine Tm.fy fun t ih d h1 b=> ?_
 have hp:=jV t d
 have kq:∀k∈t.kids,∀x∈pre k (d+1),x∈pre t d:=fun k hk x hx=>by rw[hp];exact List.mem_cons_of_mem _ (List.mem_flatMap.2 ⟨k,hk,hx⟩)
 have hs:∀ (l:List Tm) (b:List Int),(∀k∈l,k∈t.kids)->((fY l b).2=true↔(uq (l.flatMap fun k=>pre k (d+1))).Nodup/\∀v∈uq (l.flatMap fun k=>pre k (d+1)),v∉b)/\((fY l b).2=true->∀v,v∈(fY l b).1↔v∈b\/v∈uq (l.flatMap fun k=>pre k (d+1))):=by
  intro l
  induction l with
  |nil=>intro b _;simp[fY,uq]
  |cons k l wg=>
   intro b hk
   obtain⟨k1,k2⟩:=ih k (hk k aI) (d+1) (fun x hx=>h1 x (kq k (hk k aI) x hx)) b
   obtain⟨l1,l2⟩:=wg (gB k b).1 (fun x hx=>hk x o8)
   simp only[fY,List.flatMap_cons,wG,List.nodup_append,List.mem_append]
   by_cases hc:(gB k b).2=true
   ·rw[if_pos hc]
    have hm:=k2 hc
    obtain⟨c1,c2⟩:=k1.1 hc
    constructor
    ·rw[l1]
     constructor
     ·rintro⟨a1,a2⟩
      refine⟨⟨c1,a1,fun x hx y hy e=>a2 y hy ((hm y).2 (.inr (e ▸ hx)))⟩, ?_⟩
      rintro v (hv|hv)
      ·exact c2 v hv
      ·exact fun hb=>a2 v hv ((hm v).2 (.inl hb))
     ·rintro⟨⟨a1,a2,a3⟩,a4⟩
      refine⟨a2,fun v hv Pj=> ?_⟩
      rcases(hm v).1 Pj with h|h
      ·exact a4 v (.inr hv) h
      ·exact a3 v h v hv rfl
    ·intro h v
     rw[l2 h v,hm v]
     constructor
     ·rintro((h|h)|h)
      ·exact .inl h
      ·exact .inr (.inl h)
      ·exact .inr (.inr h)
     ·rintro(h|h|h)
      ·exact .inl (.inl h)
      ·exact .inl (.inr h)
      ·exact .inr h
   ·rw[if_neg hc]
    simp only[Bool.false_eq_true,false_iff,false_implies,and_true,not_and]
    rintro⟨a1,a2,a3⟩ a4
    exact hc (k1.2 ⟨a1,fun v hv=>a4 v (.inl hv)⟩)
 rw[rn,hp,wH]
 by_cases h:t.op=1
 ·have hk:t.kids=[]:=h1 (t,d) (by rw[hp];simp) h
  simp only[if_pos h,hk,List.flatMap_nil]
  simp only[uq,List.filter_nil,List.map_nil,List.nodup_cons,List.not_mem_nil,not_false_eq_true,List.nodup_nil,and_self,true_and,List.mem_singleton,forall_eq,Bool.not_eq_true',rm]
  refine⟨?_,fun _ v=>trivial⟩
  rw[Bool.eq_false_iff,ne_eq,List.contains_iff_mem]
 ·simp only[if_neg h]
  exact hs t.kids b (fun _ h=>h)
theorem J4:∀ (t:Tm) (d:Int),gU t=(pre t d).all fun x=>mB x.1:=by
 refine Tm.fy fun t ih d=> ?_
 rw[HM mB,zr,Bool.and_comm]
 congr 1
 exact Sb
theorem Nu{s:bH}{t:Tm}(h:fL s t=true):xO t=((gB t []).2&&gU t):=by
 have h1:=(J3 t 1 (fun x hx ho=>DP (rp h x hx) ho) []).1
 rw[Bool.eq_iff_iff,Bool.and_eq_true,h1,xO,wI,J4 t 1,List.all_eq_true]
 constructor
 ·rintro⟨a,b,c⟩;exact⟨⟨b,fun v _=>aI⟩,a⟩
 ·rintro⟨⟨a,b⟩,c⟩;exact⟨c,a,fun v _=>aI⟩
theorem Bb:∀ (t:Tm) (d:Int),(pre t d).map (·.1)=gX t:=by
 refine Tm.fy fun t ih d=> ?_
 have key:∀l:List Tm,(∀k∈l,k∈t.kids)->((l.flatMap fun k=>pre k (d+1)).map (·.1))=l.flatMap gX:=by
  intro l
  induction l with
  |nil=>intro _;rfl
  |cons k l wg=>
   intro hk
   rw[List.flatMap_cons,List.map_append,ih k (hk k (by simp)),wg (fun x hx=>hk x (by simp[hx])),List.flatMap_cons]
 rw[jV,nQ,List.map_cons,key t.kids (fun _ h=>h)]
theorem HY(t:Tm)(d:Int):uq (pre t d)=Nt t:=by
 unfold uq Nt
 rw[<- Bb t d,List.filter_map,List.map_map]
 rfl
theorem QF{t x:Tm}(h:x∈gX t):∃y∈pre t 1,y.1=x:=by
 rw[<- Bb t 1]at h
 obtain⟨y,h1,h2⟩:=List.mem_map.1 h
 exact⟨y,h1,h2⟩
theorem F4{s:bH}{t:Tm}(h:fL s t=true)(hp:xO t=true):zq t/\∀x∈gX t,x.op≠8:=by
 rw[xO,wI]at hp
 obtain⟨a,b,_⟩:=hp
 have h8:∀y∈pre t 1,y.1.op≠8:=fun y hy e=>by
  have:=a y hy
  simp[mB,e]at this
 refine⟨⟨by rw[<- HY t 1];exact b,fun v=> ?_⟩,fun x hx=> ?_⟩
 ·rw[<- HY t 1]
  exact X5 t 1 h8 (fun x hx ho=>DP (rp h x hx) ho) v
 ·obtain⟨y,h1,h2⟩:=QF hx
  rw[<- h2];exact h8 y h1
def ke(s:bH)(r:Rl):Bool:=decide (0<=r.fn)&&(match s.bK[r.fn.toNat]? with|some f=>(r.aC.length:Int)==f.args|none=>false)&&decide (0<=r.vars)&&decide (r.vars<=20)
def fZ(s:bH)(r:Rl):Bool:=(ke s r&&fL s r.rhs)&&(r.aC.all fun p=>(fL s p&&((gB p []).2&&gU p))&&eG r.vars p)&&(F3 r.aC&&eG r.vars r.rhs&&sP r.rhs (bR (.mk 0 0 r.aC)))
theorem QG(s:bH)(r:Rl)(hs:jw s=true)(h1:(ow r.aC).length<=1000000)(h2:(ow [r.rhs]).length<=1000000):eV s r=fZ s r:=by
 have Nv:∀t,fE s [t]=fL s t:=fun t=>by unfold fE;simp[hs,FW]
 have DS:mP s r=true↔(ke s r=true/\(∀t∈r.aC,fL s t=true/\xO t=true))/\fL s r.rhs=true:=by
  have e:mP s r=((ke s r&&r.aC.all (kU s))&&fE s [r.rhs]):=rfl
  rw[e,Nv,Bool.and_eq_true,Bool.and_eq_true,List.all_eq_true]
  simp only[kU,Nv,Bool.and_eq_true]
 have mono:∀t∈r.aC,∀v,0<kn 1 v (gX t)->0<kn 1 v (ow r.aC):=fun t ht v h=>by
  obtain⟨x,a,b⟩:=(kV _ _ _).1 h
  exact(kV _ _ _).2 ⟨x,List.mem_flatMap.2 ⟨t,ht,a⟩,b⟩
 have split:∀v,0<kn 1 v (ow r.aC)->∃t∈r.aC,0<kn 1 v (gX t):=fun v h=>by
  obtain⟨x,a,b⟩:=(kV _ _ _).1 h
  obtain⟨t,c,d⟩:=List.mem_flatMap.1 a
  exact⟨t,c,(kV _ _ _).2 ⟨x,d,b⟩⟩
 have ZV:∀ (t:Tm) (v:Int),v∈Nt t↔0<kn 1 v (gX t):=fun t v=>by rw[<- wF,List.count_pos_iff];rfl
 have Nw:(∀t∈r.aC,zq t)->∀v,v∈bR (.mk 0 0 r.aC)↔0<kn 1 v (ow r.aC):=fun h v=>by
  rw[(kb _).2 v,DO]
  constructor
  ·rintro⟨t,a,b⟩;exact mono t a v ((ZV t v).1 (((h t a).free v).1 b))
  ·intro a
   obtain⟨t,b,c⟩:=split v a
   exact⟨t,b,((h t b).free v).2 ((ZV t v).2 c)⟩
 rw[Bool.eq_iff_iff,J0 s r h1 h2,DS]
 unfold fZ
 simp only[Bool.and_eq_true,List.all_eq_true,F2,J1,QE]
 constructor
 ·rintro⟨⟨⟨a,p⟩,rt⟩,A,B,C,D⟩
  have aW:∀t∈r.aC,zq t:=fun t ht=>(F4 (p t ht).1 (p t ht).2).1
  refine⟨⟨⟨a,rt⟩,fun t ht=>⟨⟨(p t ht).1, ?_⟩,fun v hv=>(A v (mono t ht v hv)).2,fun v hv=> ?_⟩⟩,⟨(HW _ aW).2 fun v=> ?_,B,fun v hv=>(C v hv).2.1⟩,fun v hv=>⟨(C v hv).1, ?_, ?_⟩⟩
  ·have:=(p t ht).2
   rw[Nu (p t ht).1,Bool.and_eq_true]at this
   exact this
  ·obtain⟨x,b,c,_⟩:=(kV _ _ _).1 hv
   exact absurd c ((F4 (p t ht).1 (p t ht).2).2 x b)
  ·by_cases h:0<kn 1 v (ow r.aC)
   ·exact(A v h).1
   ·omega
  ·rw[Nw aW v];have:=(C v hv).2.2;omega
  ·cases hf:FY v r.rhs with
   |false=>rfl
   |true=>have:=D v hf;omega
 ·rintro⟨⟨⟨a,rt⟩,p⟩,⟨l,B,B2⟩,C⟩
  have hp:∀t∈r.aC,fL s t=true/\xO t=true:=fun t ht=>⟨(p t ht).1.1,by
   rw[Nu (p t ht).1.1,Bool.and_eq_true];exact(p t ht).1.2⟩
  have aW:∀t∈r.aC,zq t:=fun t ht=>(F4 (hp t ht).1 (hp t ht).2).1
  refine⟨⟨⟨a,hp⟩,rt⟩,fun v hv=>⟨(HW _ aW).1 l v, ?_⟩,B,fun v hv=>⟨(C v hv).1,B2 v hv, ?_⟩,fun v hv=> ?_⟩
  ·obtain⟨t,b,c⟩:=split v hv
   exact(p t b).2.1 v c
  ·have:=(C v hv).2.1
   rw[Nw aW v]at this
   omega
  ·by_cases h:0<kn 8 v (gX r.rhs)
   ·have:=(C v h).2.2
    rw[hv]at this;cases this
   ·omega
theorem uQ(t:Tm):(gX t).length=t.sz:=by rw[<- Bb t 1,List.length_map];rfl
theorem Bc:∀ (l:List Tm) (n:Nat),(∀t∈l,t.sz<=n)->(ow l).length<=l.length*n
 |[],n,_=>by simp[ow]
 |t::l,n,h=>by
  have ih:=Bc l n (fun x hx=>h x o8)
  have e:(ow (t::l)).length=(gX t).length+(ow l).length:=by simp[ow]
  have:=h t aI
  rw[e,uQ,List.length_cons,Nat.add_mul];omega
def cq(p:Pg):Bool:=(jw p.sig&&decide (p.rules.length<=16))&&p.rules.all (fZ p.sig)
def uR(p:Pg):Prop:=∀r∈p.rules,r.aC.length<=6/\(∀t∈r.aC,t.sz<=50)/\r.rhs.sz<=50
theorem HZ(p:Pg)(h:uR p):lQ p=cq p:=by
 unfold lQ cq
 cases hs:jw p.sig with
 |false=>simp
 |true=>
  have e:p.rules.all (eV p.sig)=p.rules.all (fZ p.sig):=by
   rw[Bool.eq_iff_iff,List.all_eq_true,List.all_eq_true]
   have k:∀r∈p.rules,eV p.sig r=fZ p.sig r:=fun r hr=>by
    obtain⟨a,b,c⟩:=h r hr
    refine QG p.sig r hs ?_ ?_
    ·have:=Bc r.aC 50 b
     omega
    ·have:=Bc [r.rhs] 50 (fun t ht=>by simp at ht;subst ht;exact c)
     simp at this;omega
   exact⟨fun a r hr=>(k r hr) ▸ a r hr,fun a r hr=>(k r hr).symm ▸ a r hr⟩
  rw[e];simp
mutual
def pM(t:Tm):Tm->Bool
 | .mk op n kids=>kO t (.mk op n kids)||H3 t kids
def H3(t:Tm):List Tm->Bool
 |[]=>false
 |k::l=>pM t k||H3 t l
end
theorem zu(t:Tm):∀l:List Tm,H3 t l=l.any (pM t)
 |[]=>rfl
 |k::l=>by rw[H3,zu t l];rfl
theorem QH(t p:Tm):pM t p=(kO t p||p.kids.any (pM t)):=by cases p;rw[pM,zu];rfl
def ur(t p:Tm):Int:=if kO t p=true then 1 else if p.kids.any (pM t)=true then 2 else 0
theorem QI(t p:Tm):(ur t p !=0)=pM t p:=by
 rw[QH];unfold ur
 cases kO t p<;>cases p.kids.any (pM t)<;>rfl
theorem Nx(t p:Tm):0<=ur t p/\ur t p<=2:=by
 unfold ur;split
 ·decide
 ·split<;>decide
def oK(aC kids:List Tm)(i j:Nat):Int:=match aC[i]?,kids[j]? with
 |some a,some b=>ur b a
 |_,_=>0
def wJ(aC kids:List Tm):List Int:=(List.range 16).map fun p=>oK aC kids (p/4) (p%4)
theorem Ny(aC kids:List Tm)(i j:Nat):0<=oK aC kids i j/\oK aC kids i j<=2:=by
 unfold oK;split
 ·exact Nx _ _
 ·decide
theorem DT(aC kids:List Tm):kP (wJ aC kids):=by
 refine⟨by simp[wJ],fun x hx=> ?_⟩
 obtain⟨p,_,rfl⟩:=List.mem_map.1 hx
 exact Ny _ _ _ _
theorem QJ(aC kids:List Tm){i j:Nat}(hi:i<4)(hj:j<4):mg (wJ aC kids) i j=oK aC kids i j:=by
 unfold mg wJ
 exact aa6
def F5(aC kids:List Tm)(i j:Nat):Option lx:=match aC[i]?,kids[j]? with
 |some a,some b=>if kO b a=true then some ⟨i,j,false⟩else if a.kids.any (pM b)=true then some ⟨i,j,true⟩else none
 |_,_=>none
def Nz(aC kids:List Tm)(i j:Nat):List lx:=(List.range j).filterMap (F5 aC kids i)
def NA(aC kids:List Tm):List lx:=(List.range aC.length).flatMap fun i=>Nz aC kids i kids.length
theorem X6(aC kids:List Tm)(i j:Nat):(if oK aC kids i j≠0 then some (⟨i,j,oK aC kids i j==2⟩:lx)else none)=F5 aC kids i j:=by
 unfold oK F5
 cases aC[i]? with
 |none=>rfl
 |some a=>
  cases kids[j]? with
  |none=>rfl
  |some b=>
   dsimp only
   unfold ur
   by_cases h1:kO b a=true
   ·simp only[h1,if_true];rfl
   ·by_cases h2:a.kids.any (pM b)=true
    ·simp only[h1,h2,if_true,Bool.false_eq_true,if_false];rfl
    ·simp only[h1,h2,Bool.false_eq_true,if_false];rfl
theorem H4{β:Type}(f:Nat->Option β):∀n,(List.range (n*4)).filterMap f=(List.range n).flatMap fun i=>(List.range 4).filterMap fun j=>f (i*4+j)
 |0=>rfl
 |n+1=>by
  rw[Nat.add_mul,Nat.one_mul,List.range_add,List.filterMap_append,H4 f n,List.range_succ (n:=n),List.flatMap_append,List.filterMap_map]
  simp only[List.flatMap_cons,List.flatMap_nil,List.append_nil,Function.comp_def]
theorem NB{β:Type}(f:Nat->Option β)(k:Nat)(h:∀j,k<=j->f j=none):∀n,k<=n->(List.range n).filterMap f=(List.range k).filterMap f
 |0,hk=>by rw[show k=0 by omega]
 |n+1,hk=>by
  rcases Nat.eq_or_lt_of_le hk with e|e
  ·rw[e]
  ·rw[List.range_succ,List.filterMap_append,NB f k h n (by omega)]
   simp[h n (by omega)]
theorem DU{β:Type}(f:Nat->List β)(k:Nat)(h:∀j,k<=j->f j=[]):∀n,k<=n->(List.range n).flatMap f=(List.range k).flatMap f
 |0,hk=>by rw[show k=0 by omega]
 |n+1,hk=>by
  rcases Nat.eq_or_lt_of_le hk with e|e
  ·rw[e]
  ·rw[List.range_succ,List.flatMap_append,DU f k h n (by omega)]
   simp[h n (by omega)]
theorem DV(aC kids:List Tm)(hp:aC.length<=4)(hk:kids.length<=4):mn (wJ aC kids) 16=NA aC kids:=by
 unfold mn
 rw[show(16:Nat)=4*4 from rfl,H4]
 have e:∀i∈List.range 4,((List.range 4).filterMap fun j=>if(wJ aC kids).getD (i*4+j) 0≠0 then some (⟨((i*4+j)/4:Nat),((i*4+j)%4:Nat),(wJ aC kids).getD (i*4+j) 0==2⟩:lx)else none)=Nz aC kids i kids.length:=by
  intro i hi
  have hi:i<4:=by simpa using hi
  unfold Nz
  rw[<- NB (F5 aC kids i) kids.length (fun j hj=>by unfold F5;rw[List.getElem?_eq_none hj];cases aC[i]? <;>rfl) 4 hk]
  refine C8 fun j hj=> ?_
  have hj:j<4:=by simpa using hj
  rw[show(i*4+j)/4=i by omega,show(i*4+j)%4=j by omega, <- X6]
  have:=QJ aC kids hi hj
  unfold mg at this
  rw[this]
 unfold NA
 rw[<- DU (fun i=>Nz aC kids i kids.length) aC.length (fun i hi=>by
  unfold Nz
  have:∀j,F5 aC kids i j=none:=fun j=>by unfold F5;rw[List.getElem?_eq_none hi]
  rw[List.filterMap_eq_nil_iff];exact fun j _=>this j) 4 hp]
 unfold List.flatMap
 rw[List.map_congr_left e]
structure Cl where
 agh:Int
 fr:Int
 to:Int
 path:List Int
 bare:Bool
 QK:List lx
@[reducible] def Cl.d (c:Cl):D:= .agg [.i c.agh, .i c.fr, .i c.to, .sl (c.path.map .i), .bool c.bare, .sl (c.QK.map lx.d)]
theorem Cl.C5 (a b c:Int)(d:List Int)(e:Bool)(f:List lx):(Cl.mk a b c d e f).d= .agg [.i a, .i b, .i c, .sl (d.map .i), .bool e, .sl (f.map lx.d)]:=rfl
def sQ(op:Int)(b:Bool):Bool:=b&&op !=3&&op !=5
structure Sp where
 t:Tm
 path:List Int
 bare:Bool
mutual
def lX:Tm->List Int->Bool->List Sp
 | .mk op n kids,q,b=>⟨.mk op n kids,q,b⟩::jy kids 0 q (sQ op b)
def jy:List Tm->Int->List Int->Bool->List Sp
 |[],_,_,_=>[]
 |k::l,i,q,b=>lX k (q++[i]) b++jy l (i+1) q b
end
theorem F6(t:Tm)(q:List Int)(b:Bool):lX t q b=⟨t,q,b⟩::jy t.kids 0 q (sQ t.op b):=by cases t;rw[lX];rfl
theorem tO:∀ (l l':List Tm) (i:Int) (q:List Int) (b:Bool),jy (l++l') i q b=jy l i q b++jy l' (i+l.length) q b
 |[],l',i,q,b=>by simp[jy]
 |k::l,l',i,q,b=>by
  rw[List.cons_append,jy,jy,tO l l',List.append_assoc,List.length_cons]
  congr 3
  push_cast;omega
def Ez(ps:List Int)(n:Int)(r:Rl)(x:Sp):List Cl:=
 if x.t.op=4 then [⟨n,r.fn,x.t.n,x.path,x.bare,NA r.aC x.t.kids⟩]else if x.t.op=6 then ps.map fun to=>⟨n,r.fn,to,x.path,x.bare,[]⟩else []
def T8(ps:List Int)(n:Int)(r:Rl):List Cl:=(lX r.rhs [] true).flatMap (Ez ps n r)
def mC(t:Tm):List Int:=((gX t).filter (fun x=>x.op==5)).map Tm.n
def pN(p:Pg):List Int:=((List.range p.sig.bK.length).map fun n:Nat=>(n:Int)).filter fun n=>(p.rules.flatMap fun r=>mC r.rhs).contains n
def ky(p:Pg)(ps:List Int)(k:Nat):List Cl:=(List.range k).flatMap fun n:Nat=>match p.rules[n]? with
 |some r=>T8 ps n r
 |none=>[]
def dh(p:Pg):List Cl:=ky p (pN p) p.rules.length
theorem sR(p:Pg)(ps:List Int){k:Nat}{r:Rl}(h:p.rules[k]? =some r):ky p ps (k+1)=ky p ps k++T8 ps k r:=by
 unfold ky
 rw[List.range_succ,List.flatMap_append]
 simp[h]
theorem DW:∀ {a b:List Int},a.Pairwise (· <·)->b.Pairwise (· <·)->(∀x,x∈a↔x∈b)->a=b
 |[],[],_,_,_=>rfl
 |[],y::b,_,_,h=>absurd ((h y).2 aI) aI
 |x::a,[],_,_,h=>absurd ((h x).1 aI) aI
 |x::a,y::b,ha,hb,h=>by
  rw[List.pairwise_cons]at ha hb
  have e:x=y:=by
   have h1:=(h x).1 aI
   have h2:=(h y).2 aI
   rcases List.mem_cons.1 h1 with g|g
   ·exact g
   ·rcases List.mem_cons.1 h2 with g'|g'
    ·exact g'.symm
    ·have:=hb.1 x g;have:=ha.1 y g';omega
  subst e
  congr 1
  refine DW ha.2 hb.2 fun z=> ?_
  have:=h z
  simp only[List.mem_cons]at this
  constructor
  ·intro hz
   rcases this.1 (.inr hz)with g|g
   ·subst g;exact absurd (ha.1 z hz) ag
   ·exact g
  ·intro hz
   rcases this.2 (.inr hz)with g|g
   ·subst g;exact absurd (hb.1 z hz) ag
   ·exact g
end Go.Proofs.YtnkamdiiakdkgaaGreat
section
namespace Go.Proofs.YtnkamdiiakdkgaaGreat
open Go.Sort Go.RowKit
def DX(P:Program)(g:FuncId):Prop:=∀ (dx off cap:Nat) (zs:List Int) (w:World),Holds (Value.int .i64) w dx off zs.toArray->dx<w.heap.size->zs.length<4611686018427387904->
    Calls P g #[.slice (some ⟨dx,off,none⟩) zs.length cap] w fun e w'=>
     e= .returned (.tuple #[])/\∃n os,w'=grow (putRow (Value.int .i64) (Sort.ahead w n) dx off (zs.mergeSort fun x y=>decide (x<=y)).toArray) os
def eh(l:List Int):List Int:=l.mergeSort fun x y=>decide (x<=y)
theorem rq{B:Nat->Prop}{w:World}:∀ (zs:List Int) (xs:List Value),fQ B w 1 (zs.map (D.int .i64)) xs↔xs=zs.map (Value.int .i64):=by
 have hd:∀ (zs:List Int) (evs:List Value),D.aB B w (zs.map (D.int .i64)) evs↔evs=zs.map (Value.int .i64):=by
  intro zs
  induction zs with
  |nil=>intro evs;simp[D.aB]
  |cons z zs ih=>
   intro evs
   simp only[List.map_cons,D.aB]
   constructor
   ·rintro⟨v,vs,rfl,h1,h2⟩
    rw[(ih vs).1 h2]
    simp only[D.den]at h1
    rw[h1]
   ·intro h
    exact⟨_,_,h,rfl,(ih _).2 rfl⟩
 have hf:∀zs:List Int,(zs.map (Value.int .i64)).flatMap (·.cells.toList)=zs.map (Value.int .i64):=by
  intro zs
  induction zs with
  |nil=>rfl
  |cons z zs ih=>simp only[List.map_cons,List.flatMap_cons,ih];rfl
 intro zs xs
 constructor
 ·rintro⟨evs,h1,h2,h3⟩
  rw[h1,(hd zs evs).1 h3,hf]
 ·intro h
  subst h
  exact⟨_,(hf zs).symm,fun ev du=>by
   obtain⟨z,_,rfl⟩:=List.mem_map.1 du
   rfl,(hd zs _).2 rfl⟩
theorem NC{P:Program}{g:FuncId}(hE:Enters P g)(hS:DX P g){o:Nat->ab}{nx id ep:Nat}{ty:TypeId}{zs:List Int}(ho:o id= .arr ep ty 1 (zs.map (D.int .i64)))
 (hn:∀p cap w,Calls P g #[.slice p 0 cap] w fun e w'=>e= .returned (.tuple #[])/\w'=w)
 (hlen:zs.length<4611686018427387904) {K X:V->(Nat->ab)->Nat->Prop} (hK:K (.bW []) (ax o id (.arr ep ty 1 ((eh zs).map (D.int .i64)))) nx):cH P g [.osl id ep] o nx K X:=by
 refine⟨hE,fun M φ w vals hH hd=> ?_⟩
 obtain⟨val,us,jK,⟨v0,v1,v2⟩,ed⟩:=hd
 have ed:us=[]:=ed
 subst ed
 have eY:val=φ id:=(v2 ep (by show(o id).b9=some ep;rw[ho];rfl)).2 rfl
 have ZV:vals=#[φ id]:=by rw[<- eY];exact Array.ext' (by simpa using jK)
 subst ZV
 have FF:=hH.ok id
 unfold aP at FF
 rw[show(hp o nx).o id= .arr ep ty 1 (zs.map (D.int .i64))from ho]at FF
 obtain⟨_,xs,dz,bG⟩:=FF
 have IV:=(rq zs xs).1 bG
 subst IV
 simp only[List.length_map]at dz
 obtain⟨hl,LL|⟨b,cap,cur,eu,_,hg,fu,zW,hcs,ND⟩⟩:=dz
 ·obtain⟨h1,h2⟩:=LL
  have hz:zs=[]:=List.length_eq_zero_iff.1 h2
  subst hz
  rw[h1]
  refine(hn none 0 w).mono ?_
  rintro e w' ⟨rfl,rfl⟩
  have Cq:ax o id (.arr ep ty 1 ((eh []).map (D.int .i64)))=o:=by
   funext j
   by_cases e:j=id
   ·subst e;rw[af,ho,show eh []=[] by simp[eh]]
   ·rw[ae _ _ _ _ e]
  rw[Cq]at hK
  exact⟨φ,o,nx, .bW [],hH,Trans.refl _ _ _,⟨#[],rfl,rfl⟩,hK⟩
 ·rw[eu]
  have hb:b<w.heap.size:=(Array.getElem?_eq_some_iff.1 hg).1
  have RN:∀j,j<zs.length->cur[j]? =some (.int .i64 zs[j]!):=by
   intro j hj
   have h1:(cur.toList.take (zs.length*1))[j]? =(zs.map (Value.int .i64))[j]? :=by rw[ND]
   rw[List.getElem?_take_of_lt (by omega),List.getElem?_map,List.getElem?_eq_getElem hj]at h1
   simp only[Option.map_some]at h1
   rw[getElem!_pos zs j hj]
   simpa using h1
  refine(hS b 0 cap zs w (fun j hj=> ?_) hb hlen).mono ?_
  ·simp only[List.size_toArray]at hj
   refine⟨?_, ?_⟩
   ·exact abi
   ·unfold World.frozen?
    simp[hg]
  rintro e w' ⟨rfl,n,os,rfl⟩
  have PO:(eh zs).length=zs.length:=List.length_mergeSort zs
  have wc:∀k,k<w.heap.size->(grow (putRow (Value.int .i64) (Sort.ahead w n) b 0 (eh zs).toArray) os).heap[k]? =(w.heap.modify b (onCells (putCells (Value.int .i64) 0 (eh zs).toArray)))[k]? :=by
   intro k hk
   unfold grow putRow mapBlock Sort.ahead
   simp only
   rw[Array.getElem?_append_left (by simpa using hk)]
  have tq:dM (· =b) w (grow (putRow (Value.int .i64) (Sort.ahead w n) b 0 (eh zs).toArray) os):=by
   refine⟨rfl,rfl,rfl, ?_,fun k hk ik=> ?_⟩
   ·unfold grow putRow mapBlock Sort.ahead;simp
   ·rw[wc k hk,Array.getElem?_modify,if_neg (fun e=>ik e.symm)]
  have cN:((hp o nx).o id).live=true:=by show(o id).live=true;rw[ho];rfl
  have Ay:dx (φ id)=some b:=by rw[eu];rfl
  have LI:(grow (putRow (Value.int .i64) (Sort.ahead w n) b 0 (eh zs).toArray) os).heap[b]? =some (.cells (putCells (Value.int .i64) 0 (eh zs).toArray cur) ty (0,0)):=by
   rw[wc b hb,Array.getElem?_modify,if_pos rfl,hg];rfl
  have fU:(hp o nx).put [(id, .arr ep ty 1 ((eh zs).map (D.int .i64)))]=hp (ax o id (.arr ep ty 1 ((eh zs).map (D.int .i64)))) nx:=by
   have ed:id<nx:=v1
   simp only[Hp.put,hp]
   congr 1
   funext j
   simp only[List.map_cons,List.map_nil,List.mem_singleton,eq_iff_iff]
   exact⟨fun h=>h.elim (fun h=>h) (fun e=>e ▸ ed), .inl⟩
  have vi:aP M φ ((hp o nx).put [(id, .arr ep ty 1 ((eh zs).map (D.int .i64)))]) (grow (putRow (Value.int .i64) (Sort.ahead w n) b 0 (eh zs).toArray) os) id:=by
   unfold aP
   rw[show((hp o nx).put [(id, .arr ep ty 1 ((eh zs).map (D.int .i64)))]).o id= .arr ep ty 1 ((eh zs).map (D.int .i64)) by simp]
   refine⟨bI,(eh zs).map (Value.int .i64), ?_,(rq _ _).2 rfl⟩
   simp only[List.length_map,PO]
   refine⟨by simp[PO], .inr ⟨b,cap,_,eu,Nat.zero_le _,LI,fu,zW, ?_, ?_⟩⟩
   ·unfold putCells;simpa using hcs
   ·apply List.ext_getElem?
    intro j
    by_cases hj:j<zs.length
    ·rw[List.getElem?_take_of_lt (by omega),List.getElem?_map,List.getElem?_eq_getElem (l:=eh zs) (by omega)]
     have Vp:j<cur.size:=ag
     unfold putCells
     simp only[Array.getElem?_toList,Array.getElem?_mapIdx,Option.map_some]
     rw[Array.getElem?_eq_getElem Vp]
     simp only[Option.map_some,Nat.zero_le,true_and,Nat.zero_add,List.size_toArray,Nat.sub_zero]
     rw[if_pos (by omega)]
     rw[getElem!_pos _ j (by simp;omega)]
     simp
    ·rw[List.getElem?_eq_none (by rw[List.length_take,Nat.mul_one];exact Nat.le_trans (Nat.min_le_left _ _) (Nat.not_lt.1 hj)),List.getElem?_eq_none (by rw[List.length_map,PO];exact Nat.not_lt.1 hj)]
  have T9:=ig hH (id:=id) v1 cN Ay tq (.arr ep ty 1 ((eh zs).map (D.int .i64))) OU OU vi
  have S2:=eM (φ:=φ) (H:=hp o nx) (id:=id) v1 cN Ay tq (.arr ep ty 1 ((eh zs).map (D.int .i64))) OU OU
  rw[fU]at T9 S2
  exact⟨φ,_,nx, .bW [],T9,S2,⟨#[],rfl,rfl⟩,hK⟩
end Go.Proofs.YtnkamdiiakdkgaaGreat
end
section
namespace Go.Proofs.YtnkamdiiakdkgaaGreat
open Go.Sort Go.RowKit
def nV(P:Program)(g:FuncId):Prop:=∀ (dx off cap:Nat) (zs:List Int) (w:World),Holds (Value.int .i64) w dx off zs.toArray->zs.length<=9223372036854775807->zs.length<=cap->
    Calls P g #[.slice (some ⟨dx,off,none⟩) zs.length cap] w fun e w'=>
     e= .returned (.slice (some ⟨dx,off,none⟩) (Lib.compact zs).length cap)/\∃q,w'=putRow (Value.int .i64) (Sort.ahead w q) dx off (Lib.compact zs++List.replicate (zs.length - (Lib.compact zs).length) 0).toArray
theorem NF(zs:List Int):(Lib.compact zs).length<=zs.length:=by
 unfold Lib.compact Lib.compactUpTo
 rw[List.length_map]
 have:=List.length_filter_le (Lib.keeps zs.toArray) (List.range zs.length)
 simpa using this
theorem Bd{P:Program}{g:FuncId}(hS:nV P g)(hn:∀p cap w,Calls P g #[.slice p 0 cap] w fun e w'=>e= .returned (.slice p 0 cap)/\w'=w){M:Nat->Prop}{φ:Place}{H:Hp}{w:World}(hH:ay M φ H w)
 {id ep:Nat} {ty:TypeId} {zs:List Int} (v1:H.us id) (ho:H.o id= .arr ep ty 1 (zs.map (D.int .i64))) (hlen:zs.length<=9223372036854775807):
 Calls P g #[φ id] w fun e w'=>∃val aG,e= .returned val/\ay M aG (H.put [(id, .arr (ep+1) ty 1 ((Lib.compact zs).map (D.int .i64)))]) w'/\Trans φ H w aG (H.put [(id, .arr (ep+1) ty 1 ((Lib.compact zs).map (D.int .i64)))]) w'/\
  V.den (ao M aG (H.put [(id, .arr (ep+1) ty 1 ((Lib.compact zs).map (D.int .i64)))])) aG (H.put [(id, .arr (ep+1) ty 1 ((Lib.compact zs).map (D.int .i64)))]) w' (.osl id (ep+1)) val:=by
 have FF:=hH.ok id
 unfold aP at FF
 rw[ho]at FF
 obtain⟨_,xs,dz,bG⟩:=FF
 have IV:=(rq zs xs).1 bG
 subst IV
 simp only[List.length_map]at dz
 obtain⟨hl,LL|⟨b,cap,cur,eu,_,hg,fu,zW,hcs,ND⟩⟩:=dz
 ·obtain⟨h1,h2⟩:=LL
  have hz:zs=[]:=List.length_eq_zero_iff.1 h2
  subst hz
  rw[h1]
  refine(hn none 0 w).mono ?_
  rintro e w' ⟨rfl,rfl⟩
  have NG:w'.ownsRow 0 ty 1 (.slice none 0 0) (([]:List Int).map (D.int .i64)).length (([]:List Int).map (Value.int .i64)):=⟨rfl, .inl ⟨rfl,rfl⟩⟩
  have X7:=nm (M:=M) hH (id:=id) (ep:=ep) v1 ho (val:= .slice none 0 0) (es':=([]:List Int).map (D.int .i64)) (dM.refl (fun _=>False) w') (fun _ h=>h.elim) (fun b h=>by simp[dx]at h) NG ((rq _ _).2 rfl)
  exact⟨_,_,rfl,X7.1,X7.2.1,X7.2.2⟩
 ·rw[eu]
  have hb:b<w.heap.size:=(Array.getElem?_eq_some_iff.1 hg).1
  have RN:∀j,j<zs.length->cur[j]? =some (.int .i64 zs[j]!):=by
   intro j hj
   have h1:(cur.toList.take (zs.length*1))[j]? =(zs.map (Value.int .i64))[j]? :=by rw[ND]
   rw[List.getElem?_take_of_lt (by omega),List.getElem?_map,List.getElem?_eq_getElem hj]at h1
   simp only[Option.map_some]at h1
   rw[getElem!_pos zs j hj]
   simpa using h1
  refine(hS b 0 cap zs w (fun j hj=> ?_) hlen ag).mono ?_
  ·simp only[List.size_toArray]at hj
   refine⟨?_, ?_⟩
   ·exact abi
   ·unfold World.frozen?
    simp[hg]
  rintro e w' ⟨rfl,n,rfl⟩
  have mX:=NF zs
  generalize Af:Lib.compact zs=rs at mX|-
  have wc:∀k:Nat,(putRow (Value.int .i64) (Sort.ahead w n) b 0 (rs++List.replicate (zs.length - rs.length) 0).toArray).heap[k]? =(w.heap.modify b (onCells (putCells (Value.int .i64) 0 (rs++List.replicate (zs.length - rs.length) 0).toArray)))[k]? :=by
   intro k
   unfold putRow mapBlock Sort.ahead
   rfl
  have tq:dM (· =b) w (putRow (Value.int .i64) (Sort.ahead w n) b 0 (rs++List.replicate (zs.length - rs.length) 0).toArray):=by
   refine⟨rfl,rfl,rfl, ?_,fun k hk ik=> ?_⟩
   ·unfold putRow mapBlock Sort.ahead;simp
   ·rw[wc k,Array.getElem?_modify,if_neg (fun e=>ik e.symm)]
  have Ay:dx (φ id)=some b:=by rw[eu];rfl
  have LI:(putRow (Value.int .i64) (Sort.ahead w n) b 0 (rs++List.replicate (zs.length - rs.length) 0).toArray).heap[b]? =some (.cells (putCells (Value.int .i64) 0 (rs++List.replicate (zs.length - rs.length) 0).toArray cur) ty (0,0)):=by
   rw[wc b,Array.getElem?_modify,if_pos rfl,hg];rfl
  have NG:(putRow (Value.int .i64) (Sort.ahead w n) b 0 (rs++List.replicate (zs.length - rs.length) 0).toArray).ownsRow 0 ty 1 (.slice (some ⟨b,0,none⟩) rs.length cap) (rs.map (D.int .i64)).length (rs.map (Value.int .i64)):=by
   rw[List.length_map]
   refine⟨aI, .inr ⟨b,cap,_,rfl,Nat.zero_le _,LI,ag,zW, ?_, ?_⟩⟩
   ·unfold putCells;simpa using hcs
   ·apply List.ext_getElem?
    intro j
    by_cases hj:j<rs.length
    ·rw[List.getElem?_take_of_lt (by omega),List.getElem?_map,List.getElem?_eq_getElem (l:=rs) (by omega)]
     have Vp:j<cur.size:=ag
     unfold putCells
     simp only[Array.getElem?_toList,Array.getElem?_mapIdx,Option.map_some]
     rw[Array.getElem?_eq_getElem Vp]
     simp only[Option.map_some,Nat.zero_le,true_and,Nat.zero_add,List.size_toArray,Nat.sub_zero]
     rw[if_pos (by rw[List.length_append];omega)]
     rw[getElem!_pos _ j (by simp;omega)]
     simp[List.getElem_append_left hj]
    ·rw[List.getElem?_eq_none (by rw[List.length_take,Nat.mul_one];exact Nat.le_trans (Nat.min_le_left _ _) (Nat.not_lt.1 hj)),List.getElem?_eq_none (by rw[List.length_map];exact Nat.not_lt.1 hj)]
  have X7:=nm (M:=M) hH (id:=id) (ep:=ep) v1 ho (val:= .slice (some ⟨b,0,none⟩) rs.length cap) (es':=rs.map (D.int .i64)) tq (fun c hc=>hc ▸ Ay) (fun c hc=> .inl (by simp[dx]at hc;rw[<- hc];exact Ay)) NG ((rq _ _).2 rfl)
  exact⟨_,_,rfl,X7.1,X7.2.1,X7.2.2⟩
theorem J5{P:Program}{g:FuncId}(hE:Enters P g)(hS:nV P g){o:Nat->ab}{fr id ep:Nat}{ty:TypeId}{zs:List Int}(ho:o id= .arr ep ty 1 (zs.map (D.int .i64)))
 (hn:∀p cap w,Calls P g #[.slice p 0 cap] w fun e w'=>e= .returned (.slice p 0 cap)/\w'=w)
 (hlen:zs.length<=9223372036854775807):Ar P g [.osl id ep] [id] o fr (.osl id (ep+1)) [(id, .arr (ep+1) ty 1 ((Lib.compact zs).map (D.int .i64)))]:=by
 refine⟨hE,fun o' us M φ w vals hag cP hH hd=> ?_⟩
 obtain⟨ha,hu⟩:=hag id aI
 have xZ:o' id= .arr ep ty 1 (zs.map (D.int .i64)):=ha.trans ho
 obtain⟨val,us',jK,⟨v0,v1,v2⟩,ed⟩:=hd
 have ed:us'=[]:=ed
 subst ed
 have eY:val=φ id:=(v2 ep (by show(o' id).b9=some ep;rw[xZ];rfl)).2 rfl
 have ZV:vals=#[φ id]:=by rw[<- eY];exact Array.ext' (by simpa using jK)
 subst ZV
 refine(Bd hS hn hH hu xZ hlen).mono ?_
 rintro e w' ⟨val,aG,rfl,h1,h2,h3⟩
 obtain⟨k1,k2⟩:=jt h1 (us':=fun j=>us j\/j=fr) (fun j hj=>by
  simp only[Hp.put]at hj
  rcases hj with hj|hj
  ·exact .inl hj
  ·simp at hj;subst hj;exact .inl hu)
 have fU:(⟨((⟨o',us⟩:Hp).put [(id, .arr (ep+1) ty 1 ((Lib.compact zs).map (D.int .i64)))]).o,fun j=>us j\/j=fr⟩:Hp)=⟨put o' [(id, .arr (ep+1) ty 1 ((Lib.compact zs).map (D.int .i64)))],fun j=>us j\/j=fr⟩:=rfl
 rw[fU]at k1 k2
 exact⟨aG,k1,h2.trans k2,_,rfl,V.aO k2 _ _ h3⟩
end Go.Proofs.YtnkamdiiakdkgaaGreat
end
