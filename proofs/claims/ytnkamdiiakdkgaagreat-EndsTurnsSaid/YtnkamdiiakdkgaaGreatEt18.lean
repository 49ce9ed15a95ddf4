/-
  A PART OF THE PROOF. Conditions: none.
-/
import Derived.Shelf.Sort.Plain
import Derived.Shelf.Slices.In.SortNone
import Derived.Shelf.Slices.CompactI
import Derived.Test.YtnkamdiiakdkgaaGreatEt17
set_option linter.unusedSimpArgs false
set_option linter.unusedVariables false
namespace Go.Proofs.YtnkamdiiakdkgaaGreat
theorem q9{K:V->List (Nat×ab)->Prop}{id:Nat}{l:List (Int×Int)}(h0:l=[]->K (.bT [.d (.bool false)]) [])
 (h1:∀ (i:Nat) n k,l[i]? =some (n,k)->K (.bT [.d (.bool true), .d (.int .i64 n), .d (D.i k)]) [(id, .oh (enc (D.int .i64) (ints (l.eraseIdx i))) (some (.int .i64 n,D.i k)))]):Ey K id (enc (D.int .i64) (ints l)):=by
 refine GV _ (fun h=>h0 ?_) fun i k x h=> ?_
 ·cases l with
  |nil=>rfl
  |cons x l=>simp[ints]at h
 ·unfold ints at h|-
  rw[List.getElem?_map]at h
  cases hl:l[i]? with
  |none=>rw[hl]at h;cases h
  |some n=>
   rw[hl]at h
   simp at h
   obtain⟨rfl,rfl⟩:=h
   have:=h1 i n.1 n.2 hl
   rw[lN]
   exact this
theorem re{α:Type}{l:List α}{i:Nat}{n:α}(p:α->Bool)(h:l[i]? =some n):l.all p=(p n&&(l.eraseIdx i).all p):=by
 have hp:l.Perm (n::l.eraseIdx i):=by
  obtain⟨hi,e⟩:=List.getElem?_eq_some_iff.1 h
  have Cq:l=l.take i++n::l.drop (i+1):=by rw[<- e,List.getElem_cons_drop,List.take_append_drop]
  rw[List.eraseIdx_eq_take_drop_succ]
  conv=>lhs;rw[Cq]
  exact List.perm_middle
 rw[Bool.eq_iff_iff,List.all_eq_true,Bool.and_eq_true,List.all_eq_true]
 constructor
 ·intro h1
  exact⟨h1 _ (hp.mem_iff.2 aJ),fun x hx=>h1 x (hp.mem_iff.2 og)⟩
 ·rintro⟨h1,h2⟩ x hx
  rcases List.mem_cons.1 (hp.mem_iff.1 hx)with e|e
  ·rw[e];exact h1
  ·exact h2 x e
theorem rh{α:Type}{l:List α}{i:Nat}{n:α}(h:l[i]? =some n):(l.eraseIdx i).length+1=l.length:=by
 obtain⟨hi,e⟩:=List.getElem?_eq_some_iff.1 h
 rw[List.length_eraseIdx];simp[hi];omega
def lW(s:bC)(r:Rl):Bool:=decide (0<=r.fn)&&(match s.bG[r.fn.toNat]? with|some f=>(r.aA.length:Int)==f.args|none=>false)&&decide (0<=r.vars)&&decide (r.vars<=20)&&r.aA.all (kj s)&&fe s [r.rhs]
def eH(s:bC)(r:Rl):Bool:=lW s r&&(dv 1 r.aA).all (fun p=>decide (p.2<=1)&&decide (p.1<r.vars))&&(dv 1 [r.rhs]).all (fun p=>decide (p.1<r.vars))&&
 (dv 8 [r.rhs]).all (fun p=>decide (p.2<=1)&&decide (p.1<r.vars)&&decide (fT (dv 1 r.aA) p.1<=0))&&y9 (dv 8 [r.rhs]) r.rhs []
theorem zc{R:List Nat}{o:Nat->ab}{id:Nat}(h:id∈R):C3 R o id=o id:=by simp[C3,h]
theorem G8{R:List Nat}{o:Nat->ab}{nx:Nat}(cm:∀id∈R,id<nx)(l6:∀id∈R,∀j∈(o id).refs,j∈R):Good (C3 R o) nx:=by
 refine⟨fun id au=> ?_,fun id r hr=> ?_⟩
 ·have:id∉R:=fun hm=>by have:=cm id hm;omega
  simp[C3,this]
 ·by_cases au:id∈R
  ·rw[zc au]at hr;exact cm r (l6 id au r hr)
  ·have:C3 R o id= .no:=by simp[C3,au]
   rw[this]at hr;cases hr
theorem Nu(s:bC)(hs:s.Fits)(l:List Tm)(hl:l.length<=1000000)(hf:∀t∈l,t.Fin){o:Nat->ab}(ho:o 0= .row s.row):
 Er Tryz.prog 133 [.d (.sl (l.map Tm.d)), .func (.func 131) [] [.ptr 0 0]] [0] o (.ret [.bool (l.all (kj s))]) []:=by
 have cm:∀j∈[0],j<1:=aJ
 have l6:∀k∈[0],∀j∈(o k).refs,j∈[0]:=by
  intro k hk j hj
  simp at hk
  subst hk
  rw[ho]at hj;simp[ab.refs,V.aE,V.refs]at hj
 refine Er.mC cm nF l6 aJ aJ ?_
 refine BP l ae 131 [.ptr 0 0] 1 (C3 [0] o) (kj s) nF (fun x hx=>Nt s hs x (hf x hx) 1 0 _ ((zc aJ).trans ho) ae) _ _ ⟨G8 cm l6,Nat.le_refl _,fun _ _=>rfl⟩ _ _ fun o2 n2 m1 m2 m3=> ?_
 refine⟨fun k hk=> ?_,[.d (.bool (l.all (kj s)))],[.bool (l.all (kj s))],rfl,rfl,rfl,fun k hk=>by simp[V.bc,V.ids]at hk⟩
 simp at hk
 subst hk
 rw[m2.eq 0 (by omega),zc (by simp)];rfl
set_option maxHeartbeats 1000000 in
theorem Nv(s:bC)(hs:s.Fits)(r:Rl)(hr:r.Fin):aV Tryz.prog 100 [s.d,r.d] (.ret [.bool (eH s r)]):=by
 have hr1:=hr.aA
 refine aV.aF mix PS aJ ?_
 rw[Tx]
 have hlf:=hs.lf
 have fin:∀ {b:Bool},lW s r=b->b=false->eH s r=false:=fun h1 h2=>by unfold eH;rw[h1,h2];rfl
 by_cases f1:r.fn<0
 ·have LI:decide (r.fn<0)=true:=by simpa using f1
  have e:eH s r=false:=fin (b:=false) (by unfold lW;rw[decide_eq_false (by omega: ¬0<=r.fn)];rfl) rfl
  simp+contextual (disch:=first|omega|simp only[go_sem,false_implies]) only[go_sem,wrap64,if_pos,Nat.add_assoc,Nat.left_eq_add,Nat.add_eq_left,Nat.add_left_cancel_iff,List.length_map,LI]
  exact Oo
 have LI:decide (r.fn<0)=false:=by simpa using f1
 by_cases f2:(s.bG.length:Int)<=r.fn
 ·have Kx:decide ((s.bG.length:Int)<=r.fn)=true:=by simpa using f2
  have e:eH s r=false:=fin (b:=false) (by unfold lW;rw[List.getElem?_eq_none (by omega:s.bG.length<=r.fn.toNat)];simp) rfl
  refine Ws LI Kx ?_
  exact Oo
 have Kx:decide ((s.bG.length:Int)<=r.fn)=false:=by simpa using f2
 obtain⟨f,hf⟩:∃f,s.bG[r.fn.toNat]? =some f:=⟨_,List.getElem?_eq_getElem ae⟩
 by_cases f3: ¬ (r.aA.length:Int)=f.args
 ·have UD:((r.aA.length:Int)!=f.args)=true:=by simpa using f3
  have e:eH s r=false:=fin (b:=false) (by unfold lW;rw[hf];simp[f3]) rfl
  simp+contextual (disch:=first|omega|simp only[go_sem,false_implies]) only[go_sem,wrap64,if_pos,Nat.add_assoc,Nat.left_eq_add,Nat.add_eq_left,Nat.add_left_cancel_iff,List.length_map,LI,Kx,hf,UD]
  exact Oo
 have UD:((r.aA.length:Int)!=f.args)=false:=by simpa using f3
 by_cases f4:r.vars<0
 ·have f4':decide (r.vars<0)=true:=by simpa using f4
  have e:eH s r=false:=fin (b:=false) (by unfold lW;rw[decide_eq_false (by omega: ¬0<=r.vars)];simp) rfl
  simp+contextual (disch:=first|omega|simp only[go_sem,false_implies]) only[go_sem,wrap64,if_pos,Nat.add_assoc,Nat.left_eq_add,Nat.add_eq_left,Nat.add_left_cancel_iff,List.length_map,LI,Kx,hf,UD,f4']
  exact Oo
 have f4':decide (r.vars<0)=false:=by simpa using f4
 by_cases f5:20<r.vars
 ·have f5':decide (20<r.vars)=true:=by simpa using f5
  have e:eH s r=false:=fin (b:=false) (by unfold lW;rw[decide_eq_false (by omega: ¬r.vars<=20)];simp) rfl
  refine Wt LI Kx hf UD f4' f5' ?_
  exact Oo
 have f5':decide (20<r.vars)=false:=by simpa using f5
 have hh:lW s r=(r.aA.all (kj s)&&fe s [r.rhs]):=by
  unfold lW
  rw[hf]
  have g3:(r.aA.length:Int)=f.args:=by simpa using f3
  simp[g3,show 0<=r.fn by omega,show 0<=r.vars by omega,show r.vars<=20 by omega]
 refine Wt LI Kx hf UD f4' f5' ?_
 refine Bg (rd:=[0]) rfl (Nu s hs r.aA hr1 hr.all ?_) ?_
 ·exact gY
 cases h6:r.aA.all (kj s)with
 |false=>
  have e:eH s r=false:=fin hh (by rw[h6];rfl)
  refine aY ?_
  exact Oo
 |true=>
  refine aY ?_
  refine bg (Nn s hs r.rhs hr.rhs) rfl ?_
  cases h7:fe s [r.rhs]with
  |false=>
   have e:eH s r=false:=fin hh (by rw[h6,h7];rfl)
   refine FH ?_
   exact Oo
  |true=>
   refine FH ?_
   refine aO (aQ rfl) ?_
   refine aY ?_
   have hR:eH s r=((dv 1 r.aA).all (fun p=>decide (p.2<=1)&&decide (p.1<r.vars))&&(dv 1 [r.rhs]).all (fun p=>decide (p.1<r.vars))&&
    (dv 8 [r.rhs]).all (fun p=>decide (p.2<=1)&&decide (p.1<r.vars)&&decide (fT (dv 1 r.aA) p.1<=0))&&y9 (dv 8 [r.rhs]) r.rhs []):=by
    unfold eH;rw[hh,h6,h7];rfl
   refine dL (rY r.aA hr1 (fun t ht=>(hr.all t ht).fits)) ?_
   refine aY ?_
   refine dL (UB r.rhs hr.rhs.fits) ?_
   refine aY ?_
   refine aO (aQ rfl) ?_
   simp+contextual (disch:=first|omega|simp only[go_sem,false_implies]) only[go_sem,wrap64,if_pos,sG]
   refine aB (fun i:List (Int×Int)×Option (D×D)=>⟨a7 [.aa, .aa, .aa, .ptr 1 0, .aa, .aa, .d (Ks (dv 1 r.aA)), .d (Ks (dv 8 [r.rhs])), .aa, .aa, .aa, .aa, .aa, .aa, .aa, .aa, .aa, .aa, .aa, .aa, .aa, .aa, .aa, .aa, .aa, .aa, .aa, .aa, .aa, .aa, .aa, .aa, .aa, .aa, .aa, .aa, .aa, .aa, .aa, .aa, .aa, .aa, .aa, .aa, .aa, .aa, .aa, .aa, .aa, .aa, .aa, .aa, .aa, .aa, .aa, .aa, .aa, .aa, .aa, .aa, .aa, .aa, .aa, .aa, .aa, .aa, .aa, .aa, .aa, .ptr 62 0],aD (aD (aD (fun _=> .no) 0 (.row [.d (.sl (s.cons.map iT.d)), .d (.sl (s.bG.map iT.d))])) 1 (.row [.d (.i r.fn), .d (.sl (r.aA.map Tm.d)), .d (.i r.rhs.op), .d (.i r.rhs.n), .d (.sl (r.rhs.kids.map Tm.d)), .d (.i r.vars)])) 62 (.oh (enc (D.int .i64) (ints i.1)) i.2),63⟩)
    (fun i=>(dv 1 r.aA).all (fun p=>decide (p.2<=1)&&decide (p.1<r.vars))=i.1.all (fun p=>decide (p.2<=1)&&decide (p.1<r.vars))) (fun i=>i.1.length) (dv 1 r.aA,none) rfl (br.aR _ (show 0<=63 from ae) ae ff (fun j hj=>by(repeat(first|rfl|rw[af]|rw[ah _ _ _ _ (by omega)]))) ?_) ?_
   ·exact ct
   rintro⟨rest,last⟩ hA
   simp only at hA
   refine aY ?_
   refine q9 (fun GM=> ?_) fun i n k hm=> ?_
   ·subst GM
    simp only[List.all_nil]at hA
    refine od ?_
    refine aW (rY [r.rhs] aJ (fun t ht=>by simp at ht;subst ht;exact hr.rhs.fits)) ?_
    refine Wv ?_
    refine aB (fun i:List (Int×Int)×Option (D×D)=>⟨a7 [.aa, .aa, .aa, .ptr 1 0, .aa, .aa, .d (Ks (dv 1 r.aA)), .d (Ks (dv 8 [r.rhs])), .aa, .aa, .aa, .aa, .aa, .aa, .aa, .aa, .aa, .aa, .aa, .aa, .aa, .aa, .aa, .aa, .aa, .aa, .aa, .aa, .aa, .aa, .aa, .aa, .aa, .aa, .aa, .aa, .aa, .aa, .aa, .aa, .aa, .aa, .aa, .aa, .aa, .aa, .aa, .aa, .aa, .aa, .aa, .aa, .aa, .aa, .aa, .aa, .aa, .aa, .aa, .aa, .aa, .aa, .aa, .aa, .aa, .aa, .aa, .aa, .aa, .aa, .aa, .aa, .aa, .aa, .aa, .aa, .aa, .aa, .aa, .aa, .aa, .aa, .aa, .aa, .aa, .aa, .aa, .ptr 69 0],aD (aD (aD (aD (aD (fun _=> .no) 0 (.row [.d (.sl (s.cons.map iT.d)), .d (.sl (s.bG.map iT.d))])) 1 (.row [.d (.i r.fn), .d (.sl (r.aA.map Tm.d)), .d (.i r.rhs.op), .d (.i r.rhs.n), .d (.sl (r.rhs.kids.map Tm.d)), .d (.i r.vars)])) 62 (.oh (enc (D.int .i64) (ints [])) last)) 67 (.rz 0 [r.rhs.d])) 69 (.oh (enc (D.int .i64) (ints i.1)) i.2),70⟩)
     (fun i=>(dv 1 [r.rhs]).all (fun p=>decide (p.1<r.vars))=i.1.all (fun p=>decide (p.1<r.vars))) (fun i=>i.1.length) (dv 1 [r.rhs],none) rfl (br.aR _ (show 0<=70 from ae) ae ff (fun j hj=>by first|(rw[et];done)|(repeat(first|rfl|rw[af]|rw[ah _ _ _ _ (by omega)]))|exact Vf) ?_) ?_
    ·exact ct
    rintro⟨rest,abp⟩ hB
    simp only at hB
    refine aY ?_
    refine q9 (fun GM=> ?_) fun i n k hm=> ?_
    ·subst GM
     simp only[List.all_nil]at hB
     refine Wv ?_
     refine aB (fun i:List (Int×Int)×Option (D×D)=>⟨a7 [.aa, .aa, .aa, .ptr 1 0, .aa, .aa, .d (Ks (dv 1 r.aA)), .d (Ks (dv 8 [r.rhs])), .aa, .aa, .aa, .aa, .aa, .aa, .aa, .aa, .aa, .aa, .aa, .aa, .aa, .aa, .aa, .aa, .aa, .aa, .aa, .aa, .aa, .aa, .aa, .aa, .aa, .aa, .aa, .aa, .aa, .aa, .aa, .aa, .aa, .aa, .aa, .aa, .aa, .aa, .aa, .aa, .aa, .aa, .aa, .aa, .aa, .aa, .aa, .aa, .aa, .aa, .aa, .aa, .aa, .aa, .aa, .aa, .aa, .aa, .aa, .aa, .aa, .aa, .aa, .aa, .aa, .aa, .aa, .aa, .aa, .aa, .aa, .aa, .aa, .aa, .aa, .aa, .aa, .aa, .aa, .aa, .aa, .aa, .aa, .aa, .aa, .aa, .aa, .aa, .aa, .ptr 73 0],aD (aD (aD (aD (aD (aD (fun _=> .no) 0 (.row [.d (.sl (s.cons.map iT.d)), .d (.sl (s.bG.map iT.d))])) 1 (.row [.d (.i r.fn), .d (.sl (r.aA.map Tm.d)), .d (.i r.rhs.op), .d (.i r.rhs.n), .d (.sl (r.rhs.kids.map Tm.d)), .d (.i r.vars)])) 62 (.oh (enc (D.int .i64) (ints [])) last)) 67 (.rz 0 [r.rhs.d])) 69 (.oh (enc (D.int .i64) (ints [])) abp)) 73 (.oh (enc (D.int .i64) (ints i.1)) i.2),74⟩)
      (fun i=>(dv 8 [r.rhs]).all (fun p=>decide (p.2<=1)&&decide (p.1<r.vars)&&decide (fT (dv 1 r.aA) p.1<=0))=i.1.all (fun p=>decide (p.2<=1)&&decide (p.1<r.vars)&&decide (fT (dv 1 r.aA) p.1<=0))) (fun i=>i.1.length) (dv 8 [r.rhs],none) rfl (br.aR _ (show 0<=74 from ae) ae ff (fun j hj=>by(repeat(first|rfl|rw[af]|rw[ah _ _ _ _ (by omega)]))) ?_) ?_
     ·exact ct
     rintro⟨rest,adP⟩ hC
     simp only at hC
     refine aY ?_
     refine q9 (fun GM=> ?_) fun i n k hm=> ?_
     ·subst GM
      simp only[List.all_nil]at hC
      refine od ?_
      refine ay (Kw (dv 8 [r.rhs]) r.rhs hr.rhs.fits [] (by have:=hr.rhs.mN;simp;omega)) rfl ?_
      refine aY ?_
      rw[hR,hA,hB,hC];rfl
     ·have hle:=rh hm
      rw[re (fun p=>decide (p.2<=1)&&decide (p.1<r.vars)&&decide (fT (dv 1 r.aA) p.1<=0)) hm]at hC
      simp only at hC
      have bad:(decide (k<=1)&&decide (n<r.vars)&&decide (fT (dv 1 r.aA) n<=0))=false->eH s r=false:=fun e2=>by rw[hR,hC,e2];simp
      by_cases g1:1<k
      ·have g1':decide (1<k)=true:=by simpa using g1
       have e:=bad (by rw[decide_eq_false (by omega: ¬k<=1)];rfl)
       refine LL g1' ?_
       rw[e]
      have g1':decide (1<k)=false:=by simpa using g1
      by_cases g2:r.vars<=n
      ·have Vr:decide (r.vars<=n)=true:=by simpa using g2
       have e:=bad (by rw[decide_eq_false (by omega: ¬n<r.vars)];simp)
       refine Ww g1' Vr ?_
       rw[e]
      have Vr:decide (r.vars<=n)=false:=by simpa using g2
      by_cases g3:0<fT (dv 1 r.aA) n
      ·have Vt:decide (0<fT (dv 1 r.aA) n)=true:=by simpa using g3
       have e:=bad (by rw[decide_eq_false (by omega: ¬fT (dv 1 r.aA) n<=0)];simp)
       refine Wu g1' Vr Vt ?_
       rw[e]
      have Vt:decide (0<fT (dv 1 r.aA) n)=false:=by simpa using g3
      have e2:(decide (k<=1)&&decide (n<r.vars)&&decide (fT (dv 1 r.aA) n<=0))=true:=by
       simp;omega
      rw[e2,Bool.true_and]at hC
      refine Wu g1' Vr Vt ?_
      refine aj (rest.eraseIdx i,some (.int .i64 n,D.i k)) hC jO (br.aR _ (show 0<=74 from ae) ae ff (fun j hj=>by first|(rw[et];done)|(repeat(first|rfl|rw[af]|rw[ah _ _ _ _ (by omega)]))) ?_)
      exact ct
    ·have hle:=rh hm
     rw[re (fun p=>decide (p.1<r.vars)) hm]at hB
     simp only at hB
     refine od ?_
     refine ai (fun h3=> ?_) (fun h3=> ?_)
     ·have e:eH s r=false:=by
       have e2:decide (n<r.vars)=false:=by
        simp at h3|-;omega
       rw[hR,hB,e2];simp
      exact Xq
     ·have e2:decide (n<r.vars)=true:=by
       simp at h3|-;omega
      rw[e2,Bool.true_and]at hB
      refine aY ?_
      refine aj (rest.eraseIdx i,some (.int .i64 n,D.i k)) hB jO (br.aR _ (show 0<=70 from ae) ae ff (fun j hj=>by first|(rw[et];done)|(repeat(first|rfl|rw[af]|rw[ah _ _ _ _ (by omega)]))) ?_)
      exact ct
   ·have hle:=rh hm
    rw[re (fun p=>decide (p.2<=1)&&decide (p.1<r.vars)) hm]at hA
    simp only at hA
    refine od ?_
    refine ai (fun h3=> ?_) (fun h3=> ?_)
    ·have e:eH s r=false:=by
      have e2:(decide (k<=1)&&decide (n<r.vars))=false:=by
       simp at h3|-;omega
      rw[hR,hA,e2];simp
     exact Xq
    ·have e2:(decide (k<=1)&&decide (n<r.vars))=true:=by
      simp at h3|-;omega
     rw[e2,Bool.true_and]at hA
     refine aY ?_
     refine aj (rest.eraseIdx i,some (.int .i64 n,D.i k)) hA jO (br.aR _ (show 0<=63 from ae) ae ff (fun j hj=>by first|rw[et]|(repeat(first|rfl|rw[af]|rw[ah _ _ _ _ (by omega)]))) ?_)
     exact ct
def oK{σ α:Type}(step:σ->α->σ×Bool):σ->List α->Int->Int
 |_,[],_=> -1
 |s,x::l,k=>if(step s x).2=true then oK step (step s x).1 l (k+1)else k
theorem zd{σ α:Type}(step:σ->α->σ×Bool):∀ (l:List α) (s:σ) (k:Int),0<=k->(0<=oK step s l k↔(aq step s l).2=false)
 |[],_,_,_=>by simp[oK,aq]
 |x::l,s,k,hk=>by
  have ih:=zd step l (step s x).1 (k+1) ae
  by_cases h:(step s x).2=true
  ·simp only[oK,aq,h,if_true];exact ih
  ·simp[oK,aq,h,hk]
theorem UE{σ:Type}(l:List Rl)(hl:l.length<=9223372036854775807)(g:Nat)(aP:List V)(base:Nat)(H:σ->Nat->ab)(step:σ->Rl->σ×Bool)(hc:∀r∈V.aE aP,r<base)(ok:σ->Prop)(aS:∀x∈l,∀s,ok s->(step s x).2=true->ok (step s x).1)
 (h:∀x∈l,∀s,ok s->iN Tryz.prog g (.d x.d::aP) base (H s) (H (step s x).1) (.d (.bool (!(step s x).2)))) (s:σ) (iq:ok s):
 iN Tryz.prog 158 [.d (.sl (l.map Rl.d)), .func (.func g) [] aP] base (H s) (H (aq step s l).1) (.d (.i (oK step s l 0))):=by
 intro o nx hI K X hK
 have il:∀r∈V.aE aP,r<nx:=fun r hr=>Nat.lt_of_lt_of_le (hc r hr) hI.le
 refine cX.aF mix Qk aJ ?_
 rw[TU]
 refine cI ?_
 refine aB (fun i:Nat×σ×(Nat->ab)×Nat=>⟨a7 [.d (.sl (l.map Rl.d)), .func (.func g) [] aP, .aa, .aa, .aa, .aa, .aa, .d (.i l.length), .d (.i i.1)],i.2.2.1,i.2.2.2⟩)
  (fun i=>i.1<=l.length/\cG base (H i.2.1) i.2.2.1 i.2.2.2/\nx<=i.2.2.2/\(∀id,base<=id->id<nx->i.2.2.1 id=o id)/\aq step s l=aq step i.2.1 (l.drop i.1)/\ok i.2.1/\oK step s l 0=oK step i.2.1 (l.drop i.1) i.1) (fun i=>l.length - i.1) (0,s,o,nx)
  ⟨Nat.zero_le _,hI,Nat.le_refl _,fun _ _ _=>rfl,rfl,iq,rfl⟩ ?_ ?_
 ·exact Xp
 rintro⟨k,s',o',nx'⟩ ⟨hk,sH,hn,cL,hf,hY,tg⟩
 simp only at hk sH hn cL hf hY tg
 refine cI ?_
 refine ai (fun h1=> ?_) (fun h1=> ?_)
 ·simp at h1
  obtain⟨x,hx⟩:=aL h1
  have iK:=List.mem_of_getElem? hx
  have hd:l.drop k=x::l.drop (k+1):=by
   exact Vj
  rw[hd]at hf tg
  simp only[aq,oK]at hf tg
  refine HL hx ?_
  refine dD (h x iK s' hY _ _ (sH.mono ae) _ _ fun o2 n2 m1 m2 m3=> ?_)
  cases hb:(step s' x).2 with
  |true=>
   rw[hb]at hf tg
   simp only[if_true]at hf tg
   refine aY ?_
   have E3:∀r∈V.aE aP,r<n2+1+1:=fun r hr=>by have:=il r hr;omega
   exact zw0
  |false=>
   exact RD
 ·exact RF
theorem BQ{σ:Type}(l:List Rl)(hl:l.length<=9223372036854775807)(g:Nat)(aP:List V)(base:Nat)(H:σ->Nat->ab)(step:σ->Rl->σ×Bool)(hc:∀r∈V.aE aP,r<base)(ok:σ->Prop)(aS:∀x∈l,∀s,ok s->(step s x).2=true->ok (step s x).1)
 (h:∀x∈l,∀s,ok s->iN Tryz.prog g (.d x.d::aP) base (H s) (H (step s x).1) (.d (.bool (!(step s x).2)))) (s:σ) (iq:ok s):
 iN Tryz.prog 129 [.d (.sl (l.map Rl.d)), .func (.func g) [] aP] base (H s) (H (aq step s l).1) (.d (.bool (!(aq step s l).2))):=by
 intro o nx hI K X hK
 have il:∀r∈V.aE aP,r<nx:=fun r hr=>Nat.lt_of_lt_of_le (hc r hr) hI.le
 refine cX.aF mix P9 aJ ?_
 rw[TJ]
 refine od ?_
 refine bd (UE l hl g aP base H step hc ok aS h s iq _ _ ?_ _ _ fun o2 n2 m1 m2 m3=> ?_)
 ·exact D2
 refine od ?_
 have e:decide (0<=oK step s l 0)= !(aq step s l).2:=by
  have:=zd step l s 0 ae
  exact RU
 rw[e]
 exact LR
theorem abq{x:Rl}{g:Nat}{aP:List V}{base c bx:Nat}{h h2 O:Nat->ab}{r:Bool}(hS:iN Tryz.prog g (.d x.d::aP) base h h2 (.d (.bool r)))(hb:base<=bx)(Lu:bx<c)(hO:O bx= .row [.func (.func g) [] aP])(hc:∀r∈V.aE aP,r<base):
 iN Tryz.prog 130 [.d x.d, .ptr bx 0] c (ext base h O) (ext base h2 O) (.d (.bool (!r))):=by
 intro o nx hI K X hK
 have hle:=hI.le
 have il:∀r∈V.aE aP,r<nx:=fun r hr=>by have:=hc r hr;omega
 have ho:o bx= .row [.func (.func g) [] aP]:=by
  exact Rv
 have y1:∀k,bx≠nx+k:=fun k=>ae
 have y2:bx≠nx:=ae
 refine cX.aF mix Qa aJ ?_
 rw[TK]
 refine LK ho y1 y2 ?_
 refine dD ((hS.ext (by omega:base<=c) O) _ _ ?_ _ _ fun o2 n2 m1 m2 m3=> ?_)
 ·exact hI.aD ae ae ae rfl
 refine od ?_
 exact WV
theorem G9{σ:Type}(l:List Rl)(hl:l.length<=9223372036854775807)(g:Nat)(aP:List V)(base:Nat)(H:σ->Nat->ab)(step:σ->Rl->σ×Bool)(hc:∀r∈V.aE aP,r<base)(ok:σ->Prop)(aS:∀x∈l,∀s,ok s->(step s x).2=true->ok (step s x).1)
 (h:∀x∈l,∀s,ok s->iN Tryz.prog g (.d x.d::aP) base (H s) (H (step s x).1) (.d (.bool (step s x).2))) (s:σ) (iq:ok s):
 iN Tryz.prog 98 [.d (.sl (l.map Rl.d)), .func (.func g) [] aP] base (H s) (H (aq step s l).1) (.d (.bool (aq step s l).2)):=by
 intro o nx hI K X hK
 have hle:=hI.le
 have il:∀r∈V.aE aP,r<nx:=fun r hr=>Nat.lt_of_lt_of_le (hc r hr) hI.le
 refine cX.aF mix ZR aJ ?_
 rw[c98]
 refine od ?_
 refine bd (BQ l hl 130 [.ptr nx 0] (nx+1) (fun s=>ext base (H s) (aD o nx (.row [.func (.func g) [] aP]))) step nF ok aS (fun x hx s hs=>abq (h x hx s hs) hle ae (af _ _ _) hc) s iq _ _ ?_ _ _ fun o2 n2 m1 m2 m3=> ?_)
 ·have hr:(ab.row [V.func (.func g) [] aP]).refs.all (fun r=>decide (r<nx+4))=true:=by
   rw[List.all_eq_true]
   intro r hr
   have h1:r∈V.aE aP:=by simpa[ab.refs,V.aE,V.refs]using hr
   have:=il r h1
   simp;omega
  exact Ri
 refine od ?_
 refine hK _ _ ae ⟨(m2.mono ae).bz,by have:=m2.le;omega,fun id au=> ?_⟩ fun id i1 i2=> ?_
 ·exact FN
 ·exact Re
theorem ze(l:List Rl)(hl:l.length<=9223372036854775807)(g:Nat)(aP:List V)(base:Nat)(h:Nat->ab)(p:Rl->Bool)(hc:∀r∈V.aE aP,r<base)
 (hp:∀x∈l,iN Tryz.prog g (.d x.d::aP) base h h (.d (.bool (p x)))):iN Tryz.prog 98 [.d (.sl (l.map Rl.d)), .func (.func g) [] aP] base h h (.d (.bool (l.all p))):=by
 have:=G9 l hl g aP base (fun _:Unit=>h) (fun _ x=>((),p x)) hc (fun _=>True) (fun _ _ _ _ _=>trivial) (fun x hx _ _=>hp x hx) () trivial
 exact Ij
structure Pg where
 sig:bC
 rules:List Rl
@[reducible] def Pg.row (p:Pg):List V:=[.d (.sl (p.sig.cons.map iT.d)), .d (.sl (p.sig.bG.map iT.d)), .d (.sl (p.rules.map Rl.d))]
@[reducible] def Pg.d (p:Pg):D:= .agg [.sl (p.sig.cons.map iT.d), .sl (p.sig.bG.map iT.d), .sl (p.rules.map Rl.d)]
structure Pg.Fin (p:Pg):Prop where
 sig:p.sig.Fits
 len:p.rules.length<=9223372036854775807
 all:∀r∈p.rules,r.Fin
def rZ(p:Pg):Bool:=decide (p.rules.length<=16)&&(iY p.sig&&p.rules.all (eH p.sig))
theorem Ha(p:Pg)(hp:p.Fin)(r:Rl)(hr:r∈p.rules)(base sp:Nat)(h:Nat->ab)(Cq:h sp= .row p.row)(hb:sp<base):iN Tryz.prog 99 [.d r.d, .ptr sp 0] base h h (.d (.bool (eH p.sig r))):=by
 intro o nx hI K X hK
 have hle:=hI.le
 have hg:=hI.bz
 have q0:o sp= .row p.row:=by rw[hI.eq sp hb,Cq]
 refine cX.aF mix ZS aJ ?_
 rw[c99]
 refine gX q0 ?_
 refine ay (Nv p.sig hp.sig r (hp.all r hr)) rfl ?_
 exact Xw
theorem Ky(p:Pg)(hp:p.Fin):aV Tryz.prog 71 [p.d] (.ret [.bool (rZ p)]):=by
 have hl:=hp.len
 refine aV.aF mix ZJ aJ ?_
 rw[c71]
 unfold rZ
 by_cases h0: ¬p.rules.length<=16
 ·have R4:decide ((p.rules.length:Int)<=16)=false:=by simp;omega
  have UF:decide (p.rules.length<=16)=false:=by simp;omega
  refine ng R4 ?_
  rw[UF];rfl
 have R4:decide ((p.rules.length:Int)<=16)=true:=by simp;omega
 have UF:decide (p.rules.length<=16)=true:=by simp;omega
 rw[UF,Bool.true_and]
 refine ng R4 ?_
 refine ay (uM p.sig hp.sig) rfl ?_
 cases h1:iY p.sig with
 |false=>
  refine FH ?_
  try simp
 |true=>
  refine FH ?_
  refine bd (ze p.rules hl 99 [.ptr 0 0] 1 (aD (fun _=> .no) 0 (.row p.row)) (eH p.sig) nF (fun x hx=>Ha p hp x hx 1 0 _ (af _ _ _) ae) _ _ ⟨ff,ae,fun id au=>rfl⟩ _ _ fun o2 n2 m1 m2 m3=> ?_)
  refine aY ?_
  try simp
theorem Kz(p:Pg)(hp:p.Fin):aV Tryz.prog 40 [p.d] (.ret [.i (kH (rZ p))]):=by
 refine aV.aF mix ZA aJ ?_
 rw[c40]
 refine aY ?_
 refine ay (Ky p hp) rfl ?_
 cases h1:rZ p with
 |false=>exact HQ
 |true=>exact HQ
def jM(op v:Int)(xs:List Tm):Nat:=xs.countP fun x=>x.op==op&&x.n==v
theorem Fe:∀ (m:List (Int×Int)) (v w u:Int),lk (kF m v w) u=if v=u then some w else lk m u
 |[],v,w,u=>by simp only[kF,lk]
 |p::m,v,w,u=>by
  have ih:=Fe m v w u
  unfold kF
  by_cases h:p.1=v
  ·rw[if_pos h]
   simp only[lk]
   by_cases h2:v=u
   ·simp[h2]
   ·have: ¬p.1=u:=by rw[h];exact h2
    simp[h2,this]
  ·rw[if_neg h]
   simp only[lk]
   by_cases h2:p.1=u
   ·have: ¬v=u:=by intro e;exact h (h2.trans e.symm)
    simp[h2,this]
   ·simp only[h2,if_false];exact ih
theorem BR:∀ (m:List (Int×Int)) (v w u:Int),u∈(kF m v w).map (·.1)↔u=v\/u∈m.map (·.1)
 |[],v,w,u=>by simp[kF]
 |p::m,v,w,u=>by
  have ih:=BR m v w u
  unfold kF
  by_cases h:p.1=v
  ·rw[if_pos h];simp[h]
  ·rw[if_neg h,List.map_cons,List.mem_cons,ih,List.map_cons,List.mem_cons]
   constructor
   ·rintro(h1|h1|h1)<;>simp[h1]
   ·rintro(h1|h1|h1)<;>simp[h1]
theorem xi:∀ (m:List (Int×Int)) (v w:Int),sB m->sB (kF m v w)
 |[],v,w,_=>by simp[kF,sB]
 |p::m,v,w,hk=>by
  have Hz:p.1∉m.map (·.1)/\sB m:=by
   unfold sB at hk|-
   rwa [List.map_cons,List.nodup_cons]at hk
  have ih:=xi m v w Hz.2
  unfold kF
  by_cases h:p.1=v
  ·rw[if_pos h]
   unfold sB
   rw[List.map_cons,List.nodup_cons]
   exact⟨by rw[<- h];exact Hz.1,Hz.2⟩
  ·rw[if_neg h]
   unfold sB
   rw[List.map_cons,List.nodup_cons]
   exact⟨fun hm=>by
    rcases(BR m v w p.1).1 hm with e|e
    ·exact h e
    ·exact Hz.1 e,ih⟩
theorem DA(op:Int):∀ (xs:List Tm) (m:List (Int×Int)) (c:Int->Nat),sB m->(∀v,lk m v=if c v=0 then none else some (c v:Int))->(∀v,c v+xs.length<=1000000)->
 sB (xs.foldl (du op) m)/\∀v,lk (xs.foldl (du op) m) v=if c v+jM op v xs=0 then none else some ((c v+jM op v xs:Nat):Int)
 |[],m,c,hk,hl,_=>⟨hk,fun v=>by rw[List.foldl_nil,hl v];rfl⟩
 |x::xs,m,c,hk,hl,hb=>by
  simp only[List.foldl_cons]
  by_cases h:x.op=op
  ·have hg:fT m x.n=(c x.n:Int):=by
    unfold fT;rw[hl];split
    ·next h0=>rw[h0];rfl
    ·rfl
   have Sc:=hb x.n
   simp only[List.length_cons]at Sc hb
   have e1:du op m x=kF m x.n ((c x.n+1:Nat):Int):=by
    unfold du sC
    rw[if_pos h,hg,wrap64 (by omega) (by omega)]
    push_cast;rfl
   rw[e1]
   have ih:=DA op xs (kF m x.n ((c x.n+1:Nat):Int)) (fun v=>c v+if x.n=v then 1 else 0) (xi _ _ _ hk) (fun v=>by
    rw[Fe]
    by_cases e:x.n=v
    ·subst e;simp
    ·simp[e,hl v]) (fun v=>by have:=hb v;split<;>omega)
   refine⟨ih.1,fun v=> ?_⟩
   rw[ih.2 v]
   have e2:(c v+if x.n=v then 1 else 0)+jM op v xs=c v+jM op v (x::xs):=by
    unfold jM
    rw[List.countP_cons]
    by_cases e:x.n=v<;>simp[h,e]<;>omega
   rw[e2]
  ·have e1:du op m x=m:=by unfold du;rw[if_neg h]
   rw[e1]
   have ih:=DA op xs m c hk hl (fun v=>by have:=hb v;simp at this;omega)
   refine⟨ih.1,fun v=> ?_⟩
   rw[ih.2 v]
   have e2:jM op v (x::xs)=jM op v xs:=by
    unfold jM
    rw[List.countP_cons];simp[h]
   rw[e2]
def nz(l:List Tm):List Tm:=l.flatMap gz
theorem Ff(op:Int)(l:List Tm)(hb:(nz l).length<=1000000):sB (dv op l)/\∀v,lk (dv op l) v=if jM op v (nz l)=0 then none else some (jM op v (nz l):Int):=by
 have:=DA op (nz l) [] (fun _=>0) List.nodup_nil (fun v=>by simp[lk]) (fun v=>by simpa using hb)
 refine⟨this.1,fun v=> ?_⟩
 have h:=this.2 v
 rw[Nat.zero_add]at h
 exact h
theorem BS(op:Int)(l:List Tm)(hb:(nz l).length<=1000000)(v:Int):fT (dv op l) v=(jM op v (nz l):Int):=by
 unfold fT
 rw[(Ff op l hb).2 v]
 split
 ·next h=>rw[h];rfl
 ·rfl
theorem uT(op:Int)(l:List Tm)(hb:(nz l).length<=1000000)(p:Int×Int->Bool):(dv op l).all p=true↔∀v,0<jM op v (nz l)->p (v,(jM op v (nz l):Int))=true:=by
 obtain⟨hk,hl⟩:=Ff op l hb
 rw[List.all_eq_true]
 constructor
 ·intro h v hv
  refine h _ ((Fb hk).1 ?_)
  rw[hl v,if_neg (by omega)]
 ·rintro h ⟨v,c⟩ hm
  have h1:=(Fb hk).2 hm
  rw[hl v]at h1
  split at h1
  ·cases h1
  ·next h0=>
   injection h1 with h1
   have:=h v ae
   rw[h1]at this
   exact this
theorem Nw(m:List (Int×Int)):∀ (t:Tm) (ny:List Int),y9 m t ny=true↔∀v,Dz v t=true->fT m v=0\/v∈ny:=by
 refine Tm.eY fun t ih ny=> ?_
 have key:∀ (l:List Tm) (i:Nat),(∀k∈l,k∈t.kids)->(qb m t.op t.n l i ny=true↔∀v,qc v t.op t.n l i=true->fT m v=0\/v∈ny):=by
  intro l
  induction l with
  |nil=>intro i _;simp[qb,qc]
  |cons k l uH=>
   intro i hk
   have h1:=ih k (hk k aJ) (if t.op=8/\i=1 then ny++[t.n]else ny)
   have h2:=uH (i+1) (fun x hx=>hk x og)
   simp only[qb,qc,Bool.and_eq_true,h1,h2,Bool.or_eq_true]
   by_cases hc:t.op=8/\i=1
   ·simp only[hc,and_self,if_true,List.mem_append,List.mem_singleton]
    constructor
    ·rintro⟨a,b⟩ v (⟨c,d⟩|c)
     ·rcases a v c with e|e|e
      ·exact .inl e
      ·exact .inr e
      ·subst e;simp at d
     ·exact b v c
    ·intro a
     refine⟨fun v c=> ?_,fun v c=>a v (.inr c)⟩
     by_cases e:v=t.n
     ·exact .inr (.inr e)
     ·rcases a v (.inl ⟨c,by simp;exact fun e2=>e e2.symm⟩)with g|g
      ·exact .inl g
      ·exact .inr (.inl g)
   ·have hb:(t.op==8&&i==1)=false:=by
     cases h:(t.op==8&&i==1)with
     |false=>rfl
     |true=>simp at h;exact absurd h hc
    simp only[hc,if_false,hb,Bool.false_and,Bool.not_false,and_true]
    constructor
    ·rintro⟨a,b⟩ v (c|c)
     ·exact a v c
     ·exact b v c
    ·intro a
     exact⟨fun v c=>a v (.inl c),fun v c=>a v (.inr c)⟩
 rw[Fc]
 by_cases h:t.op=1
 ·rw[if_pos h]
  simp only[uS,h,if_true]
  simp
 ·rw[if_neg h,key t.kids 0 (fun _ h=>h)]
  simp only[uS,h,if_false]
theorem Hb(s:bC)(r:Rl)(h1:(nz r.aA).length<=1000000)(h2:(nz [r.rhs]).length<=1000000):eH s r=true↔lW s r=true/\
 (∀v,0<jM 1 v (nz r.aA)->jM 1 v (nz r.aA)<=1/\v<r.vars)/\(∀v,0<jM 1 v (nz [r.rhs])->v<r.vars)/\
 (∀v,0<jM 8 v (nz [r.rhs])->jM 8 v (nz [r.rhs])<=1/\v<r.vars/\jM 1 v (nz r.aA)=0)/\(∀v,Dz v r.rhs=true->jM 8 v (nz [r.rhs])=0):=by
 unfold eH
 simp only[Bool.and_eq_true,uT 1 r.aA h1,uT 1 [r.rhs] h2,uT 8 [r.rhs] h2,Nw,BS 1 r.aA h1,BS 8 [r.rhs] h2,decide_eq_true_eq]
 constructor
 ·rintro⟨⟨⟨⟨a,b⟩,c⟩,d⟩,e⟩
  refine⟨a,fun v hv=> ?_,c,fun v hv=> ?_,fun v hv=> ?_⟩
  ·have:=b v hv;omega
  ·have:=d v hv;omega
  ·rcases e v hv with g|g
   ·omega
   ·cases g
 ·rintro⟨a,b,c,d,e⟩
  refine⟨⟨⟨⟨a,fun v hv=> ?_⟩,c⟩,fun v hv=> ?_⟩,fun v hv=> .inl ?_⟩
  ·have:=b v hv;omega
  ·have:=d v hv;omega
  ·have:=e v hv;omega
def jH:List Int->Int->List Int
 |[],n=>[n]
 |x::l,n=>if x<n then x::jH l n else if x=n then x::l else n::x::l
def lQ(op n:Int)(i:Nat)(l out:List Int):List Int:=l.foldl (fun out v=>if(op !=8||(i:Int)!=1||v !=n)=true then jH out v else out) out
mutual
def bL:Tm->List Int
 | .mk op n kids=>if op=1 then [n]else iP op n kids 0 []
def iP(op n:Int):List Tm->Nat->List Int->List Int
 |[],_,out=>out
 |k::l,i,out=>iP op n l (i+1) (lQ op n i (bL k) out)
end
theorem m7(t:Tm):bL t=if t.op=1 then [t.n]else iP t.op t.n t.kids 0 []:=by cases t;rfl
theorem qd:∀ (l:List Int) (n v:Int),v∈jH l n↔v∈l\/v=n
 |[],n,v=>by simp[jH]
 |x::l,n,v=>by
  simp only[jH]
  split
  ·simp only[List.mem_cons,qd l n v];constructor
   ·rintro(h|h|h)
    ·exact .inl (.inl h)
    ·exact .inl (.inr h)
    ·exact .inr h
   ·rintro((h|h)|h)
    ·exact .inl h
    ·exact .inr (.inl h)
    ·exact .inr (.inr h)
  ·split
   ·rename_i h;subst h;simp only[List.mem_cons];constructor
    ·exact .inl
    ·rintro(h|h)
     ·exact h
     ·exact .inl h
   ·simp only[List.mem_cons];constructor
    ·rintro(h|h)
     ·exact .inr h
     ·exact .inl h
    ·rintro(h|h)
     ·exact .inr h
     ·exact .inl h
abbrev UG(l:List Int):Prop:=l.Pairwise (· <·)
theorem BT:∀ {l:List Int} (n:Int),UG l->UG (jH l n)
 |[],n,_=>by simp[jH]
 |x::l,n,h=>by
  have h1:=List.pairwise_cons.1 h
  simp only[jH]
  split
  ·rename_i hx
   refine List.pairwise_cons.2 ⟨fun y hy=> ?_,BT n h1.2⟩
   rcases(qd l n y).1 hy with hy|hy
   ·exact h1.1 y hy
   ·omega
  ·split
   ·exact h
   ·refine List.pairwise_cons.2 ⟨fun y hy=> ?_,h⟩
    rcases List.mem_cons.1 hy with hy|hy
    ·omega
    ·have:=h1.1 y hy;omega
theorem ri(op n:Int)(i:Nat):∀ (l out:List Int),UG out->UG (lQ op n i l out)/\∀v,v∈lQ op n i l out↔v∈out\/(v∈l/\ ¬ (op=8/\i=1/\n=v))
 |[],out,h=>⟨h,fun v=>by simp[lQ]⟩
 |x::l,out,h=>by
  have hk:lQ op n i (x::l) out=lQ op n i l (if(op !=8||(i:Int)!=1||x !=n)=true then jH out x else out):=rfl
  rw[hk]
  by_cases hc:(op !=8||(i:Int)!=1||x !=n)=true
  ·rw[if_pos hc]
   have ih:=ri op n i l (jH out x) (BT x h)
   refine⟨ih.1,fun v=> ?_⟩
   rw[ih.2 v,qd,List.mem_cons]
   have tC: ¬ (op=8/\i=1/\n=x):=by
    rintro⟨h1,h2,h3⟩;subst h1;subst h2;subst h3;simp at hc
   constructor
   ·rintro((h|h)|h)
    ·exact .inl h
    ·subst h;exact .inr ⟨.inl rfl,tC⟩
    ·exact .inr ⟨.inr h.1,h.2⟩
   ·rintro(h|⟨h|h,h2⟩)
    ·exact .inl (.inl h)
    ·exact .inl (.inr h)
    ·exact .inr ⟨h,h2⟩
  ·rw[if_neg hc]
   have ih:=ri op n i l out h
   refine⟨ih.1,fun v=> ?_⟩
   rw[ih.2 v,List.mem_cons]
   have tC:op=8/\i=1/\n=x:=by simp at hc;exact⟨hc.1.1,ae,hc.2.symm⟩
   constructor
   ·rintro(h|h)
    ·exact .inl h
    ·exact .inr ⟨.inr h.1,h.2⟩
   ·rintro(h|⟨h|h,h2⟩)
    ·exact .inl h
    ·subst h;exact absurd tC h2
    ·exact .inr ⟨h,h2⟩
theorem jI:∀t:Tm,UG (bL t)/\∀v,v∈bL t↔Dz v t=true:=by
 refine Tm.eY fun t ih=> ?_
 have hs:∀ (l:List Tm) (i:Nat) (out:List Int),(∀k∈l,k∈t.kids)->UG out->UG (iP t.op t.n l i out)/\∀v,v∈iP t.op t.n l i out↔v∈out\/qc v t.op t.n l i=true:=by
  intro l
  induction l with
  |nil=>intro i out _ h;exact⟨h,fun v=>by simp[iP,qc]⟩
  |cons k l uH=>
   intro i out hk h
   have h1:=ih k (hk k aJ)
   have h2:=ri t.op t.n i (bL k) out h
   have h3:=uH (i+1) _ (fun x hx=>hk x og) h2.1
   refine⟨h3.1,fun v=> ?_⟩
   show v∈iP t.op t.n l (i+1) (lQ t.op t.n i (bL k) out)↔_
   rw[h3.2 v,h2.2 v,h1.2 v,qc]
   simp only[Bool.or_eq_true,Bool.and_eq_true,Bool.not_eq_true',Bool.and_eq_false_iff,beq_eq_false_iff_ne,ne_eq,not_and]
   have:(∀ (_:t.op=8) (_:i=1), ¬t.n=v)↔((¬t.op=8\/ ¬i=1)\/ ¬t.n=v):=by
    constructor
    ·intro h
     by_cases c1:t.op=8
     ·by_cases c2:i=1
      ·exact .inr (h c1 c2)
      ·exact .inl (.inr c2)
     ·exact .inl (.inl c1)
    ·rintro((h|h)|h) c1 c2
     ·exact absurd c1 h
     ·exact absurd c2 h
     ·exact h
   rw[this]
   constructor
   ·rintro((h|h)|h)
    ·exact .inl h
    ·exact .inr (.inl h)
    ·exact .inr (.inr h)
   ·rintro(h|h|h)
    ·exact .inl (.inl h)
    ·exact .inl (.inr h)
    ·exact .inr h
 by_cases h1:t.op=1
 ·rw[m7,if_pos h1]
  refine⟨aJ,fun v=> ?_⟩
  rw[uS,if_pos h1]
  simp only[List.mem_singleton,beq_iff_eq]
  exact eq_comm
 ·rw[m7,if_neg h1]
  have:=hs t.kids 0 [] (fun _ h=>h) aJ
  refine⟨this.1,fun v=> ?_⟩
  rw[this.2 v,uS,if_neg h1]
  simp
theorem uU:∀ (l:List Int) (n:Int),(jH l n).length<=l.length+1
 |[],n=>by simp[jH]
 |x::l,n=>by
  have:=uU l n
  simp only[jH]
  split
  ·simp;omega
  ·split<;>simp
theorem m8(op n:Int)(i:Nat):∀ (l out:List Int),(lQ op n i l out).length<=out.length+l.length
 |[],out=>by simp[lQ]
 |x::l,out=>by
  have hk:lQ op n i (x::l) out=lQ op n i l (if(op !=8||(i:Int)!=1||x !=n)=true then jH out x else out):=rfl
  rw[hk]
  have h1:=uU out x
  split
  ·have:=m8 op n i l (jH out x);simp;omega
  ·have:=m8 op n i l out;simp;omega
theorem lg:∀t:Tm,(bL t).length<=t.sz:=by
 refine Tm.eY fun t ih=> ?_
 have hs:∀ (l:List Tm) (i:Nat) (out:List Int),(∀k∈l,k∈t.kids)->(iP t.op t.n l i out).length<=out.length+iH l:=by
  intro l
  induction l with
  |nil=>intro i out _;simp[iP]
  |cons k l uH=>
   intro i out hk
   have h1:=ih k (hk k aJ)
   have h2:=m8 t.op t.n i (bL k) out
   have h3:=uH (i+1) (lQ t.op t.n i (bL k) out) (fun x hx=>hk x og)
   rw[jG]
   show(iP t.op t.n l (i+1) (lQ t.op t.n i (bL k) out)).length<=_
   omega
 rw[m7,Tm.p7]
 split
 ·simp
 ·have:=hs t.kids 0 [] (fun _ h=>h);simp at this;omega
theorem Nx(t:Tm):nz [t]=gz t:=by simp[nz]
theorem BU(op v:Int)(x:Tm)(l:List Tm):jM op v (x::l)=jM op v l+if x.op=op/\x.n=v then 1 else 0:=by
 unfold jM
 rw[List.countP_cons]
 by_cases h:x.op=op/\x.n=v
 ·simp[h]
 ·rw[if_neg h,if_neg (by simpa using h)]
theorem DB(op v:Int)(a b:List Tm):jM op v (a++b)=jM op v a+jM op v b:=by unfold jM;rw[List.countP_append]
theorem kn(op v:Int)(l:List Tm):0<jM op v l↔∃x∈l,x.op=op/\x.n=v:=by
 unfold jM
 rw[List.countP_pos_iff]
 simp
mutual
def dw:Tm->List Int
 | .mk op n kids=>(if op=8 then [n]else [])++cH kids
def cH:List Tm->List Int
 |[]=>[]
 |k::l=>dw k++cH l
end
theorem rj(t:Tm):dw t=(if t.op=8 then [t.n]else [])++cH t.kids:=by cases t;rw[dw];rfl
theorem m9:∀ (t:Tm) (v:Int),(dw t).count v=jM 8 v (gz t):=by
 refine Tm.eY fun t ih v=> ?_
 have key:∀l:List Tm,(∀k∈l,k∈t.kids)->(cH l).count v=jM 8 v (l.flatMap gz):=by
  intro l
  induction l with
  |nil=>intro _;rfl
  |cons k l uH=>
   intro hk
   rw[cH,List.count_append,ih k (hk k (by simp)) v,uH (fun x hx=>hk x (by simp[hx])),List.flatMap_cons,DB]
 rw[rj,List.count_append,key t.kids (fun _ h=>h),m5,BU]
 by_cases h:t.op=8
 ·by_cases h2:t.n=v
  ·simp[h,h2];omega
  ·simp[h,h2]
 ·simp[h]
theorem xj(t:Tm)(v:Int):v∈dw t↔0<jM 8 v (gz t):=by
 rw[<- m9,List.count_pos_iff]
mutual
def eu(n:Int):Tm->Bool
 | .mk op k kids=>iD n kids&&((op !=1&&op !=8)||decide (k<n))
def iD(n:Int):List Tm->Bool
 |[]=>true
 |k::l=>eu n k&&iD n l
end
theorem uV(n:Int)(t:Tm):eu n t=(iD n t.kids&&((t.op !=1&&t.op !=8)||decide (t.n<n))):=by cases t;rw[eu];rfl
theorem DC(n:Int):∀t:Tm,eu n t=true↔∀x∈gz t,x.op=1\/x.op=8->x.n<n:=by
 refine Tm.eY fun t ih=> ?_
 have key:∀l:List Tm,(∀k∈l,k∈t.kids)->(iD n l=true↔∀x∈l.flatMap gz,x.op=1\/x.op=8->x.n<n):=by
  intro l
  induction l with
  |nil=>intro _;simp[iD]
  |cons k l uH=>
   intro hk
   rw[iD,Bool.and_eq_true,ih k (hk k (by simp)),uH (fun x hx=>hk x (by simp[hx])),List.flatMap_cons]
   simp only[List.mem_append]
   constructor
   ·rintro⟨a,b⟩ x (h|h)
    ·exact a x h
    ·exact b x h
   ·intro a
    exact⟨fun x h=>a x (.inl h),fun x h=>a x (.inr h)⟩
 rw[uV,Bool.and_eq_true,key t.kids (fun _ h=>h),m5]
 simp only[List.mem_cons,Bool.or_eq_true,Bool.and_eq_true,bne_iff_ne,decide_eq_true_eq]
 constructor
 ·rintro⟨a,b⟩ x (h|h) h2
  ·subst h
   rcases b with⟨b1,b2⟩|b
   ·rcases h2 with e|e
    ·exact absurd e b1
    ·exact absurd e b2
   ·exact b
  ·exact a x h h2
 ·intro a
  refine⟨fun x h=>a x (.inr h), ?_⟩
  by_cases h:t.op=1\/t.op=8
  ·exact .inr (a t (.inl rfl) h)
  ·exact .inl ⟨fun e=>h (.inl e),fun e=>h (.inr e)⟩
theorem DD(n:Int)(t:Tm):eu n t=true↔(∀v,0<jM 1 v (gz t)->v<n)/\∀v,0<jM 8 v (gz t)->v<n:=by
 rw[DC]
 constructor
 ·intro a
  refine⟨fun v h=> ?_,fun v h=> ?_⟩<;>(obtain⟨x,h1,h2,h3⟩:=(kn _ _ _).1 h;rw[<- h3];exact a x h1 (by simp[h2]))
 ·rintro⟨a,b⟩ x h (h2|h2)
  ·exact a _ ((kn _ _ _).2 ⟨x,h,h2,rfl⟩)
  ·exact b _ ((kn _ _ _).2 ⟨x,h,h2,rfl⟩)
def rk(t:Tm)(aA:List Int):Bool:=(dw t).all fun v=> !(decide (1<((dw t).count v:Int))||aA.contains v||(bL t).contains v)
theorem Hc(t:Tm)(aA:List Int):rk t aA=true↔∀v,0<jM 8 v (gz t)->jM 8 v (gz t)<=1/\v∉aA/\Dz v t=false:=by
 unfold rk
 rw[List.all_eq_true]
 have hv:∀v,(bL t).contains v=Dz v t:=fun v=>by
  rw[Bool.eq_iff_iff,List.contains_iff_mem,(jI t).2 v]
 constructor
 ·intro a v h
  have:=a v ((xj t v).2 h)
  rw[m9,hv]at this
  simp at this
  exact⟨ae,this.1.2,this.2⟩
 ·intro a v h
  obtain⟨a1,a2,a3⟩:=a v ((xj t v).1 h)
  rw[m9,hv,a3]
  simp
  exact⟨ae,a2⟩
theorem nA:∀ (W A:List Int),A.Nodup->(∀v,v∈A↔v∈W)->A.length<=W.length/\(A.length=W.length↔W.Nodup)
 |[],A,hA,h=>by
  have:A=[]:=List.eq_nil_iff_forall_not_mem.2 fun v hv=>by simpa using(h v).1 hv
  subst this;simp
 |x::W,A,hA,h=>by
  by_cases hx:x∈W
  ·have ih:=(nA W A hA fun v=>by
    rw[h v,List.mem_cons]
    exact⟨fun e=>e.elim (fun e=>e ▸ hx) id, .inr⟩).1
   refine⟨by simp;omega, ?_⟩
   rw[List.length_cons,List.nodup_cons]
   exact⟨fun e=>ae,fun e=>absurd hx e.1⟩
  ·have hxA:x∈A:=(h x).2 aJ
   have ih:=nA W (A.erase x) (hA.erase x) fun v=>by
    rw[hA.mem_erase_iff,h v,List.mem_cons]
    constructor
    ·rintro⟨a,b|b⟩
     ·exact absurd b a
     ·exact b
    ·intro a
     exact⟨fun e=>hx (e ▸ a), .inr a⟩
   have hl:(A.erase x).length=A.length - 1:=List.length_erase_of_mem hxA
   have hp:0<A.length:=List.length_pos_of_mem hxA
   rw[hl]at ih
   rw[List.length_cons,List.nodup_cons]
   refine⟨ae, ?_⟩
   constructor
   ·intro e;exact⟨hx,ih.2.1 ae⟩
   ·intro e
    have:=ih.2.2 e.2
    omega
def KA(t:Tm):List Int:=((gz t).filter fun x=>x.op==1).map Tm.n
theorem uW(l:List Tm)(v:Int):((l.filter fun x=>x.op==1).map Tm.n).count v=jM 1 v l:=by
 induction l with
 |nil=>rfl
 |cons x l ih=>
  rw[BU, <- ih]
  by_cases h:x.op=1
  ·have h':(x.op==1)=true:=by simpa using h
   have e:(x::l).filter (fun x=>x.op==1)=x::l.filter (fun x=>x.op==1):=by rw[List.filter_cons,if_pos h']
   rw[e,List.map_cons,List.count_cons]
   by_cases h2:x.n=v
   ·simp[h,h2]
   ·simp[h2]
  ·have h': ¬ (x.op==1)=true:=by simpa using h
   have e:(x::l).filter (fun x=>x.op==1)=l.filter (fun x=>x.op==1):=by rw[List.filter_cons,if_neg h']
   rw[e]
   simp[h]
structure xk (t:Tm):Prop where
 once:(KA t).Nodup
 free:∀v,Dz v t=true↔v∈KA t
theorem r8(t:Tm):(bL t).Nodup:=(jI t).1.imp fun {a b} h=>ae
theorem UH{t:Tm}(h:xk t):(bL t).length=(KA t).length:=
 ((nA (KA t) (bL t) (r8 t) fun v=>by rw[(jI t).2 v,h.free v]).2).2 h.once
def DE(l:List Tm):Bool:=(l.map fun t=>(bL t).length).sum==(bL (.mk 0 0 l)).length
theorem BV(l:List Tm)(v:Int):Dz v (.mk 0 0 l)=true↔∃t∈l,Dz v t=true:=by
 have key:∀ (l:List Tm) (i:Nat),qc v 0 0 l i=l.any (Dz v):=by
  intro l
  induction l with
  |nil=>intro i;rfl
  |cons k l ih=>intro i;simp[qc,ih]
 have e:Dz v (.mk 0 0 l)=qc v 0 0 l 0:=rfl
 rw[e,key,List.any_eq_true]
theorem Fg(l:List Tm)(h:∀t∈l,xk t):DE l=true↔∀v,jM 1 v (nz l)<=1:=by
 have hW:((nz l).filter fun x=>x.op==1).map Tm.n=l.flatMap KA:=by
  unfold nz
  induction l with
  |nil=>rfl
  |cons t l ih=>
   rw[List.flatMap_cons,List.filter_append,List.map_append,List.flatMap_cons,ih (fun x hx=>h x (by simp[hx]))];rfl
 have hlen:(l.map fun t=>(bL t).length).sum=(l.flatMap KA).length:=by
  clear hW
  induction l with
  |nil=>rfl
  |cons t l ih=>
   rw[List.map_cons,List.sum_cons,List.flatMap_cons,List.length_append,ih (fun x hx=>h x (by simp[hx])),UH (h t (by simp))]
 have hm:∀v,v∈bL (.mk 0 0 l)↔v∈l.flatMap KA:=fun v=>by
  rw[(jI _).2 v,BV,List.mem_flatMap]
  constructor
  ·rintro⟨t,h1,h2⟩;exact⟨t,h1,((h t h1).free v).1 h2⟩
  ·rintro⟨t,h1,h2⟩;exact⟨t,h1,((h t h1).free v).2 h2⟩
 have hn:=(nA (l.flatMap KA) (bL (.mk 0 0 l)) (r8 _) hm).2
 unfold DE
 rw[hlen,beq_iff_eq,eq_comm,hn,List.nodup_iff_count]
 constructor
 ·intro a v;rw[<- uW,hW];exact a v
 ·intro a v;rw[<- hW,uW];exact a v
def lR(t:Tm):Bool:=t.op==1||t.op==3
mutual
def gw:Tm->Bool
 | .mk op n kids=>sY kids&&lR (.mk op n kids)
def sY:List Tm->Bool
 |[]=>true
 |k::l=>gw k&&sY l
end
theorem xl(t:Tm):gw t=(t.kids.all gw&&lR t):=by
 have:∀l:List Tm,sY l=l.all gw:=fun l=>by
  induction l with
  |nil=>rfl
  |cons k l ih=>simp[sY,ih]
 cases t;simp only[gw,this,Tm.kids]
mutual
def fR:Tm->List Int->List Int×Bool
 | .mk op n kids,b=>if op=1 then(jH b n, !b.contains n)else fG kids b
def fG:List Tm->List Int->List Int×Bool
 |[],b=>(b,true)
 |k::l,b=>if(fR k b).2=true then fG l (fR k b).1 else((fR k b).1,false)
end
theorem qe(t:Tm)(b:List Int):fR t b=if t.op=1 then(jH b t.n, !b.contains t.n)else fG t.kids b:=by cases t;rfl
theorem Hd:∀ (t:Tm) (b:List Int),(fR t b).1.length<=b.length+t.sz:=by
 refine Tm.eY fun t ih b=> ?_
 have hs:∀ (l:List Tm) (b:List Int),(∀k∈l,k∈t.kids)->(fG l b).1.length<=b.length+iH l:=by
  intro l
  induction l with
  |nil=>intro b _;simp[fG,iH]
  |cons k l uH=>
   intro b hk
   have h1:=ih k (hk k aJ) b
   have h2:=uH (fR k b).1 (fun x hx=>hk x og)
   rw[jG]
   simp only[fG]
   split
   ·omega
   ·simp only;omega
 rw[qe,Tm.p7]
 have h3:=uU b t.n
 have h4:=hs t.kids b (fun _ h=>h)
 split
 ·simp only;omega
 ·omega
def sE(l:List (Tm×Int)):List Int:=(l.filter fun x=>x.1.op==1).map fun x=>x.1.n
theorem uX(a b:List (Tm×Int)):sE (a++b)=sE a++sE b:=by simp[sE]
theorem uY(x:Tm×Int)(l:List (Tm×Int)):sE (x::l)=(if x.1.op=1 then x.1.n::sE l else sE l):=by
 unfold sE
 by_cases h:x.1.op=1
 ·simp[h]
 ·simp[h]
theorem zf{l:List Tm}{d v:Int}:v∈sE (l.flatMap fun k=>pre k d)↔∃k∈l,v∈sE (pre k d):=by
 induction l with
 |nil=>simp[sE]
 |cons k l ih=>simp[uX,ih]
theorem Fh{v op n:Int}(h:op≠8):∀ (l:List Tm) (i:Nat),qc v op n l i=l.any (Dz v)
 |[],i=>rfl
 |k::l,i=>by
  have:(op==8)=false:=by simpa using h
  simp[qc,Fh h l,this]
theorem UI:∀ (t:Tm) (d:Int),(∀x∈pre t d,x.1.op≠8)->(∀x∈pre t d,x.1.op=1->x.1.kids=[])->∀v,Dz v t=true↔v∈sE (pre t d):=by
 refine Tm.eY fun t ih d h8 h1 v=> ?_
 have hp:=jy t d
 have ht8:t.op≠8:=h8 (t,d) (by rw[hp];simp)
 have jP:∀k∈t.kids,∀x∈pre k (d+1),x∈pre t d:=fun k hk x hx=>by rw[hp];exact List.mem_cons_of_mem _ (List.mem_flatMap.2 ⟨k,hk,hx⟩)
 rw[hp,uY,uS]
 by_cases h:t.op=1
 ·have hk:t.kids=[]:=h1 (t,d) (by rw[hp];simp) h
  simp only[if_pos h,hk,List.flatMap_nil]
  show(t.n==v)=true↔v∈[t.n]
  rw[beq_iff_eq,List.mem_singleton];exact eq_comm
 ·simp only[if_neg h]
  rw[Fh ht8,zf,List.any_eq_true]
  constructor
  ·rintro⟨k,hk,hv⟩
   exact⟨k,hk,(ih k hk (d+1) (fun x hx=>h8 x (jP k hk x hx)) (fun x hx=>h1 x (jP k hk x hx)) v).1 hv⟩
  ·rintro⟨k,hk,hv⟩
   exact⟨k,hk,(ih k hk (d+1) (fun x hx=>h8 x (jP k hk x hx)) (fun x hx=>h1 x (jP k hk x hx)) v).2 hv⟩
theorem qf{s:bC}{t:Tm}(h:fj s t=true):∀x∈pre t 1,bn s x.1=true:=by
 simp only[fj,Bool.and_eq_true,uP s t 1,List.all_eq_true]at h
 exact h.2
theorem BW{s:bC}{t:Tm}(h:bn s t=true)(h1:t.op=1):t.kids=[]:=by
 simp[bn,h1]at h
 exact h.1
theorem uZ:∀ (L:List (Tm×Int)) (l:List Int) (b:Bool),(aq (w8 pJ kZ) (l,b) L).2=true↔(∀x∈L,lR x.1=true)/\(sE L).Nodup/\∀v∈sE L,v∉l
 |[],l,b=>by simp[aq,sE]
 |x::L,l,b=>by
  have e1:∀c,sD l x=c->w8 pJ kZ (l,b) x=((if c=true then l else if x.1.op=1 then y0 l x.1.n else l, !c), !c):=fun c hc=>by
   show((if sD l x=true then l else if x.1.op=1 then y0 l x.1.n else l, !sD l x),(pJ (if sD l x=true then l else if x.1.op=1 then y0 l x.1.n else l, !sD l x)).isNone)=_
   rw[hc];cases c<;>rfl
  rw[aq,uY]
  cases hb:sD l x with
  |true=>
   rw[e1 _ hb]
   simp only[Bool.not_true,Bool.false_eq_true,if_false,false_iff,not_and]
   intro hs hn hv
   have hsx:=hs x aJ
   simp only[sD,lR,Bool.or_eq_true,Bool.and_eq_true,bne_iff_ne,beq_iff_eq,ne_eq]at hb hsx
   rcases hb with⟨h1,h2⟩|⟨h1,h2⟩
   ·rcases hsx with h|h
    ·exact h1 h
    ·exact h2 h
   ·rw[if_pos h1]at hv
    exact hv x.1.n aJ te
  |false=>
   rw[e1 _ hb]
   simp only[Bool.not_false,if_true,Bool.false_eq_true,if_false]
   rw[uZ L]
   simp only[sD,Bool.or_eq_false_iff,Bool.and_eq_false_iff,bne_eq_false_iff_eq,beq_eq_false_iff_ne,ne_eq]at hb
   have hsx:lR x.1=true:=by simp only[lR,Bool.or_eq_true,beq_iff_eq];exact hb.1
   by_cases h1:x.1.op=1
   ·have vB:x.1.n∉l:=by
     rcases hb.2 with h|h
     ·exact absurd h1 h
     ·intro hm;rw[<- List.contains_iff_mem]at hm;rw[h]at hm;cases hm
    rw[if_pos h1,if_pos h1]
    simp only[List.mem_cons,forall_eq_or_imp,hsx,true_and,List.nodup_cons,Ko,not_or]
    constructor
    ·rintro⟨a1,a2,a3⟩
     exact⟨a1,⟨fun hm=>(a3 _ hm).2 rfl,a2⟩,vB,fun v hv=>(a3 v hv).1⟩
    ·rintro⟨a1,⟨a2,a3⟩,a4,a5⟩
     exact⟨a1,a3,fun v hv=>⟨a5 v hv,fun e=>a2 (e ▸ hv)⟩⟩
   ·rw[if_neg h1,if_neg h1]
    simp only[List.mem_cons,forall_eq_or_imp,hsx,true_and]
theorem He:∀ (t:Tm) (d:Int),(∀x∈pre t d,x.1.op=1->x.1.kids=[])->∀b:List Int,((fR t b).2=true↔(sE (pre t d)).Nodup/\∀v∈sE (pre t d),v∉b)/\((fR t b).2=true->∀v,v∈(fR t b).1↔v∈b\/v∈sE (pre t d)):=by
 refine Tm.eY fun t ih d h1 b=> ?_
 have hp:=jy t d
 have jP:∀k∈t.kids,∀x∈pre k (d+1),x∈pre t d:=fun k hk x hx=>by rw[hp];exact List.mem_cons_of_mem _ (List.mem_flatMap.2 ⟨k,hk,hx⟩)
 have hs:∀ (l:List Tm) (b:List Int),(∀k∈l,k∈t.kids)->((fG l b).2=true↔(sE (l.flatMap fun k=>pre k (d+1))).Nodup/\∀v∈sE (l.flatMap fun k=>pre k (d+1)),v∉b)/\((fG l b).2=true->∀v,v∈(fG l b).1↔v∈b\/v∈sE (l.flatMap fun k=>pre k (d+1))):=by
  intro l
  induction l with
  |nil=>intro b _;simp[fG,sE]
  |cons k l uH=>
   intro b hk
   obtain⟨k1,k2⟩:=ih k (hk k aJ) (d+1) (fun x hx=>h1 x (jP k (hk k aJ) x hx)) b
   obtain⟨l1,l2⟩:=uH (fR k b).1 (fun x hx=>hk x og)
   simp only[fG,List.flatMap_cons,uX,List.nodup_append,List.mem_append]
   by_cases hc:(fR k b).2=true
   ·rw[if_pos hc]
    have hm:=k2 hc
    obtain⟨c1,c2⟩:=k1.1 hc
    constructor
    ·rw[l1]
     constructor
     ·rintro⟨a1,a2⟩
      refine⟨⟨c1,a1,fun x hx y hy e=>a2 y hy ((hm y).2 (.inr (e ▸ hx)))⟩, ?_⟩
      rintro v (hv|hv)
      ·exact c2 v hv
      ·exact fun hb=>a2 v hv ((hm v).2 (.inl hb))
     ·rintro⟨⟨a1,a2,a3⟩,a4⟩
      refine⟨a2,fun v hv Mj=> ?_⟩
      rcases(hm v).1 Mj with h|h
      ·exact a4 v (.inr hv) h
      ·exact a3 v h v hv rfl
    ·intro h v
     rw[l2 h v,hm v]
     constructor
     ·rintro((h|h)|h)
      ·exact .inl h
      ·exact .inr (.inl h)
      ·exact .inr (.inr h)
     ·rintro(h|h|h)
      ·exact .inl (.inl h)
      ·exact .inl (.inr h)
      ·exact .inr h
   ·rw[if_neg hc]
    simp only[Bool.false_eq_true,false_iff,false_implies,and_true,not_and]
    rintro⟨a1,a2,a3⟩ a4
    exact hc (k1.2 ⟨a1,fun v hv=>a4 v (.inl hv)⟩)
 rw[qe,hp,uY]
 by_cases h:t.op=1
 ·have hk:t.kids=[]:=h1 (t,d) (by rw[hp];simp) h
  simp only[if_pos h,hk,List.flatMap_nil]
  simp only[sE,List.filter_nil,List.map_nil,List.nodup_cons,List.not_mem_nil,not_false_eq_true,List.nodup_nil,and_self,true_and,List.mem_singleton,forall_eq,Bool.not_eq_true',qd]
  refine⟨?_,fun _ v=>trivial⟩
  rw[Bool.eq_false_iff,ne_eq,List.contains_iff_mem]
 ·simp only[if_neg h]
  exact hs t.kids b (fun _ h=>h)
theorem Hf:∀ (t:Tm) (d:Int),gw t=(pre t d).all fun x=>lR x.1:=by
 refine Tm.eY fun t ih d=> ?_
 rw[E7 lR,xl,Bool.and_comm]
 congr 1
 exact ON
theorem KC{s:bC}{t:Tm}(h:fj s t=true):vJ t=((fR t []).2&&gw t):=by
 have h1:=(He t 1 (fun x hx ho=>BW (qf h x hx) ho) []).1
 rw[Bool.eq_iff_iff,Bool.and_eq_true,h1,vJ,uZ,Hf t 1,List.all_eq_true]
 constructor
 ·rintro⟨a,b,c⟩;exact⟨⟨b,fun v _=>aJ⟩,a⟩
 ·rintro⟨⟨a,b⟩,c⟩;exact⟨c,a,fun v _=>aJ⟩
theorem zg:∀ (t:Tm) (d:Int),(pre t d).map (·.1)=gz t:=by
 refine Tm.eY fun t ih d=> ?_
 have key:∀l:List Tm,(∀k∈l,k∈t.kids)->((l.flatMap fun k=>pre k (d+1)).map (·.1))=l.flatMap gz:=by
  intro l
  induction l with
  |nil=>intro _;rfl
  |cons k l uH=>
   intro hk
   rw[List.flatMap_cons,List.map_append,ih k (hk k (by simp)),uH (fun x hx=>hk x (by simp[hx])),List.flatMap_cons]
 rw[jy,m5,List.map_cons,key t.kids (fun _ h=>h)]
theorem Fi(t:Tm)(d:Int):sE (pre t d)=KA t:=by
 unfold sE KA
 rw[<- zg t d,List.filter_map,List.map_map]
 rfl
theorem Ny{t x:Tm}(h:x∈gz t):∃y∈pre t 1,y.1=x:=by
 rw[<- zg t 1]at h
 obtain⟨y,h1,h2⟩:=List.mem_map.1 h
 exact⟨y,h1,h2⟩
theorem DF{s:bC}{t:Tm}(h:fj s t=true)(hp:vJ t=true):xk t/\∀x∈gz t,x.op≠8:=by
 rw[vJ,uZ]at hp
 obtain⟨a,b,_⟩:=hp
 have h8:∀y∈pre t 1,y.1.op≠8:=fun y hy e=>by
  have:=a y hy
  simp[lR,e]at this
 refine⟨⟨by rw[<- Fi t 1];exact b,fun v=> ?_⟩,fun x hx=> ?_⟩
 ·rw[<- Fi t 1]
  exact UI t 1 h8 (fun x hx ho=>BW (qf h x hx) ho) v
 ·obtain⟨y,h1,h2⟩:=Ny hx
  rw[<- h2];exact h8 y h1
def jJ(s:bC)(r:Rl):Bool:=decide (0<=r.fn)&&(match s.bG[r.fn.toNat]? with|some f=>(r.aA.length:Int)==f.args|none=>false)&&decide (0<=r.vars)&&decide (r.vars<=20)
def fH(s:bC)(r:Rl):Bool:=(jJ s r&&fj s r.rhs)&&(r.aA.all fun p=>(fj s p&&((fR p []).2&&gw p))&&eu r.vars p)&&(DE r.aA&&eu r.vars r.rhs&&rk r.rhs (bL (.mk 0 0 r.aA)))
theorem Nz(s:bC)(r:Rl)(hs:iY s=true)(h1:(nz r.aA).length<=1000000)(h2:(nz [r.rhs]).length<=1000000):eH s r=fH s r:=by
 have KF:∀t,fe s [t]=fj s t:=fun t=>by unfold fe;simp[hs,Dy]
 have BX:lW s r=true↔(jJ s r=true/\(∀t∈r.aA,fj s t=true/\vJ t=true))/\fj s r.rhs=true:=by
  have e:lW s r=((jJ s r&&r.aA.all (kj s))&&fe s [r.rhs]):=rfl
  rw[e,KF,Bool.and_eq_true,Bool.and_eq_true,List.all_eq_true]
  simp only[kj,KF,Bool.and_eq_true]
 have mono:∀t∈r.aA,∀v,0<jM 1 v (gz t)->0<jM 1 v (nz r.aA):=fun t ht v h=>by
  obtain⟨x,a,b⟩:=(kn _ _ _).1 h
  exact(kn _ _ _).2 ⟨x,List.mem_flatMap.2 ⟨t,ht,a⟩,b⟩
 have split:∀v,0<jM 1 v (nz r.aA)->∃t∈r.aA,0<jM 1 v (gz t):=fun v h=>by
  obtain⟨x,a,b⟩:=(kn _ _ _).1 h
  obtain⟨t,c,d⟩:=List.mem_flatMap.1 a
  exact⟨t,c,(kn _ _ _).2 ⟨x,d,b⟩⟩
 have Wr:∀ (t:Tm) (v:Int),v∈KA t↔0<jM 1 v (gz t):=fun t v=>by rw[<- uW,List.count_pos_iff];rfl
 have KG:(∀t∈r.aA,xk t)->∀v,v∈bL (.mk 0 0 r.aA)↔0<jM 1 v (nz r.aA):=fun h v=>by
  rw[(jI _).2 v,BV]
  constructor
  ·rintro⟨t,a,b⟩;exact mono t a v ((Wr t v).1 (((h t a).free v).1 b))
  ·intro a
   obtain⟨t,b,c⟩:=split v a
   exact⟨t,b,((h t b).free v).2 ((Wr t v).2 c)⟩
 rw[Bool.eq_iff_iff,Hb s r h1 h2,BX]
 unfold fH
 simp only[Bool.and_eq_true,List.all_eq_true,DD,Hc,Nx]
 constructor
 ·rintro⟨⟨⟨a,p⟩,rt⟩,A,B,C,D⟩
  have aS:∀t∈r.aA,xk t:=fun t ht=>(DF (p t ht).1 (p t ht).2).1
  refine⟨⟨⟨a,rt⟩,fun t ht=>⟨⟨(p t ht).1, ?_⟩,fun v hv=>(A v (mono t ht v hv)).2,fun v hv=> ?_⟩⟩,⟨(Fg _ aS).2 fun v=> ?_,B,fun v hv=>(C v hv).2.1⟩,fun v hv=>⟨(C v hv).1, ?_, ?_⟩⟩
  ·have:=(p t ht).2
   rw[KC (p t ht).1,Bool.and_eq_true]at this
   exact this
  ·obtain⟨x,b,c,_⟩:=(kn _ _ _).1 hv
   exact absurd c ((DF (p t ht).1 (p t ht).2).2 x b)
  ·by_cases h:0<jM 1 v (nz r.aA)
   ·exact(A v h).1
   ·omega
  ·rw[KG aS v];have:=(C v hv).2.2;omega
  ·cases hf:Dz v r.rhs with
   |false=>rfl
   |true=>have:=D v hf;omega
 ·rintro⟨⟨⟨a,rt⟩,p⟩,⟨l,B,B2⟩,C⟩
  have hp:∀t∈r.aA,fj s t=true/\vJ t=true:=fun t ht=>⟨(p t ht).1.1,by
   rw[KC (p t ht).1.1,Bool.and_eq_true];exact(p t ht).1.2⟩
  have aS:∀t∈r.aA,xk t:=fun t ht=>(DF (hp t ht).1 (hp t ht).2).1
  refine⟨⟨⟨a,hp⟩,rt⟩,fun v hv=>⟨(Fg _ aS).1 l v, ?_⟩,B,fun v hv=>⟨(C v hv).1,B2 v hv, ?_⟩,fun v hv=> ?_⟩
  ·obtain⟨t,b,c⟩:=split v hv
   exact(p t b).2.1 v c
  ·have:=(C v hv).2.1
   rw[KG aS v]at this
   omega
  ·by_cases h:0<jM 8 v (gz r.rhs)
   ·have:=(C v h).2.2
    rw[hv]at this;cases this
   ·omega
theorem sZ(t:Tm):(gz t).length=t.sz:=by rw[<- zg t 1,List.length_map];rfl
theorem zh:∀ (l:List Tm) (n:Nat),(∀t∈l,t.sz<=n)->(nz l).length<=l.length*n
 |[],n,_=>by simp[nz]
 |t::l,n,h=>by
  have ih:=zh l n (fun x hx=>h x og)
  have e:(nz (t::l)).length=(gz t).length+(nz l).length:=by simp[nz]
  have:=h t aJ
  rw[e,sZ,List.length_cons,Nat.add_mul];omega
def dM(p:Pg):Bool:=(iY p.sig&&decide (p.rules.length<=16))&&p.rules.all (fH p.sig)
def Fj(p:Pg):Prop:=∀r∈p.rules,r.aA.length<=6/\(∀t∈r.aA,t.sz<=50)/\r.rhs.sz<=50
theorem NA(p:Pg)(h:Fj p):rZ p=dM p:=by
 unfold rZ dM
 cases hs:iY p.sig with
 |false=>simp
 |true=>
  have e:p.rules.all (eH p.sig)=p.rules.all (fH p.sig):=by
   rw[Bool.eq_iff_iff,List.all_eq_true,List.all_eq_true]
   have k:∀r∈p.rules,eH p.sig r=fH p.sig r:=fun r hr=>by
    obtain⟨a,b,c⟩:=h r hr
    refine Nz p.sig r hs ?_ ?_
    ·have:=zh r.aA 50 b
     omega
    ·have:=zh [r.rhs] 50 (fun t ht=>by simp at ht;subst ht;exact c)
     simp at this;omega
   exact⟨fun a r hr=>(k r hr) ▸ a r hr,fun a r hr=>(k r hr).symm ▸ a r hr⟩
  rw[e];simp
mutual
def oL(t:Tm):Tm->Bool
 | .mk op n kids=>kb t (.mk op n kids)||Fk t kids
def Fk(t:Tm):List Tm->Bool
 |[]=>false
 |k::l=>oL t k||Fk t l
end
theorem xm(t:Tm):∀l:List Tm,Fk t l=l.any (oL t)
 |[]=>rfl
 |k::l=>by rw[Fk,xm t l];rfl
theorem NB(t p:Tm):oL t p=(kb t p||p.kids.any (oL t)):=by cases p;rw[oL,xm];rfl
def sF(t p:Tm):Int:=if kb t p=true then 1 else if p.kids.any (oL t)=true then 2 else 0
theorem NC(t p:Tm):(sF t p !=0)=oL t p:=by
 rw[NB];unfold sF
 cases kb t p<;>cases p.kids.any (oL t)<;>rfl
theorem KH(t p:Tm):0<=sF t p/\sF t p<=2:=by
 unfold sF;split
 ·decide
 ·split<;>decide
def nO(aA kids:List Tm)(i j:Nat):Int:=match aA[i]?,kids[j]? with
 |some a,some b=>sF b a
 |_,_=>0
def u0(aA kids:List Tm):List Int:=(List.range 16).map fun p=>nO aA kids (p/4) (p%4)
theorem KI(aA kids:List Tm)(i j:Nat):0<=nO aA kids i j/\nO aA kids i j<=2:=by
 unfold nO;split
 ·exact KH _ _
 ·decide
theorem BZ(aA kids:List Tm):iz (u0 aA kids):=by
 refine⟨by simp[u0],fun x hx=> ?_⟩
 obtain⟨p,_,rfl⟩:=List.mem_map.1 hx
 exact KI _ _ _ _
theorem ND(aA kids:List Tm){i j:Nat}(hi:i<4)(hj:j<4):mg (u0 aA kids) i j=nO aA kids i j:=by
 unfold mg u0
 exact XA
def DG(aA kids:List Tm)(i j:Nat):Option cB:=match aA[i]?,kids[j]? with
 |some a,some b=>if kb b a=true then some ⟨i,j,false⟩else if a.kids.any (oL b)=true then some ⟨i,j,true⟩else none
 |_,_=>none
def KJ(aA kids:List Tm)(i j:Nat):List cB:=(List.range j).filterMap (DG aA kids i)
def KL(aA kids:List Tm):List cB:=(List.range aA.length).flatMap fun i=>KJ aA kids i kids.length
theorem UJ(aA kids:List Tm)(i j:Nat):(if nO aA kids i j≠0 then some (⟨i,j,nO aA kids i j==2⟩:cB)else none)=DG aA kids i j:=by
 unfold nO DG
 cases aA[i]? with
 |none=>rfl
 |some a=>
  cases kids[j]? with
  |none=>rfl
  |some b=>
   dsimp only
   unfold sF
   by_cases h1:kb b a=true
   ·simp only[h1,if_true];rfl
   ·by_cases h2:a.kids.any (oL b)=true
    ·simp only[h1,h2,if_true,Bool.false_eq_true,if_false];rfl
    ·simp only[h1,h2,Bool.false_eq_true,if_false];rfl
theorem Fl{β:Type}(f:Nat->Option β):∀n,(List.range (n*4)).filterMap f=(List.range n).flatMap fun i=>(List.range 4).filterMap fun j=>f (i*4+j)
 |0=>rfl
 |n+1=>by
  rw[Nat.add_mul,Nat.one_mul,List.range_add,List.filterMap_append,Fl f n,List.range_succ (n:=n),List.flatMap_append,List.filterMap_map]
  simp only[List.flatMap_cons,List.flatMap_nil,List.append_nil,Function.comp_def]
theorem KM{β:Type}(f:Nat->Option β)(k:Nat)(h:∀j,k<=j->f j=none):∀n,k<=n->(List.range n).filterMap f=(List.range k).filterMap f
 |0,hk=>by rw[show k=0 by omega]
 |n+1,hk=>by
  rcases Nat.eq_or_lt_of_le hk with e|e
  ·rw[e]
  ·rw[List.range_succ,List.filterMap_append,KM f k h n (by omega)]
   simp[h n (by omega)]
theorem B0{β:Type}(f:Nat->List β)(k:Nat)(h:∀j,k<=j->f j=[]):∀n,k<=n->(List.range n).flatMap f=(List.range k).flatMap f
 |0,hk=>by rw[show k=0 by omega]
 |n+1,hk=>by
  rcases Nat.eq_or_lt_of_le hk with e|e
  ·rw[e]
  ·rw[List.range_succ,List.flatMap_append,B0 f k h n (by omega)]
   simp[h n (by omega)]
theorem B1(aA kids:List Tm)(hp:aA.length<=4)(hk:kids.length<=4):kW (u0 aA kids) 16=KL aA kids:=by
 unfold kW
 rw[show(16:Nat)=4*4 from rfl,Fl]
 have e:∀i∈List.range 4,((List.range 4).filterMap fun j=>if(u0 aA kids).getD (i*4+j) 0≠0 then some (⟨((i*4+j)/4:Nat),((i*4+j)%4:Nat),(u0 aA kids).getD (i*4+j) 0==2⟩:cB)else none)=KJ aA kids i kids.length:=by
  intro i hi
  have hi:i<4:=by simpa using hi
  unfold KJ
  rw[<- KM (DG aA kids i) kids.length (fun j hj=>by unfold DG;rw[List.getElem?_eq_none hj];cases aA[i]? <;>rfl) 4 hk]
  refine ue fun j hj=> ?_
  have hj:j<4:=by simpa using hj
  rw[show(i*4+j)/4=i by omega,show(i*4+j)%4=j by omega, <- UJ]
  have:=ND aA kids hi hj
  unfold mg at this
  rw[this]
 unfold KL
 rw[<- B0 (fun i=>KJ aA kids i kids.length) aA.length (fun i hi=>by
  unfold KJ
  have:∀j,DG aA kids i j=none:=fun j=>by unfold DG;rw[List.getElem?_eq_none hi]
  rw[List.filterMap_eq_nil_iff];exact fun j _=>this j) 4 hp]
 unfold List.flatMap
 rw[List.map_congr_left e]
structure Cl where
 adn:Int
 fr:Int
 to:Int
 path:List Int
 bare:Bool
 NF:List cB
@[reducible] def Cl.d (c:Cl):D:= .agg [.i c.adn, .i c.fr, .i c.to, .sl (c.path.map .i), .bool c.bare, .sl (c.NF.map cB.d)]
theorem Cl.Jq (a b c:Int)(d:List Int)(e:Bool)(f:List cB):(Cl.mk a b c d e f).d= .agg [.i a, .i b, .i c, .sl (d.map .i), .bool e, .sl (f.map cB.d)]:=rfl
def rl(op:Int)(b:Bool):Bool:=b&&op !=3&&op !=5
structure Sp where
 t:Tm
 path:List Int
 bare:Bool
mutual
def ll:Tm->List Int->Bool->List Sp
 | .mk op n kids,q,b=>⟨.mk op n kids,q,b⟩::jb kids 0 q (rl op b)
def jb:List Tm->Int->List Int->Bool->List Sp
 |[],_,_,_=>[]
 |k::l,i,q,b=>ll k (q++[i]) b++jb l (i+1) q b
end
theorem DH(t:Tm)(q:List Int)(b:Bool):ll t q b=⟨t,q,b⟩::jb t.kids 0 q (rl t.op b):=by cases t;rw[ll];rfl
theorem r9:∀ (l l':List Tm) (i:Int) (q:List Int) (b:Bool),jb (l++l') i q b=jb l i q b++jb l' (i+l.length) q b
 |[],l',i,q,b=>by simp[jb]
 |k::l,l',i,q,b=>by
  rw[List.cons_append,jb,jb,r9 l l',List.append_assoc,List.length_cons]
  congr 3
  push_cast;omega
def Hx(ps:List Int)(n:Int)(r:Rl)(x:Sp):List Cl:=
 if x.t.op=4 then [⟨n,r.fn,x.t.n,x.path,x.bare,KL r.aA x.t.kids⟩]else if x.t.op=6 then ps.map fun to=>⟨n,r.fn,to,x.path,x.bare,[]⟩else []
def ruC(ps:List Int)(n:Int)(r:Rl):List Cl:=(ll r.rhs [] true).flatMap (Hx ps n r)
def rm(t:Tm):List Int:=((gz t).filter (fun x=>x.op==5)).map Tm.n
def u1(p:Pg):List Int:=((List.range p.sig.bG.length).map fun n:Nat=>(n:Int)).filter fun n=>(p.rules.flatMap fun r=>rm r.rhs).contains n
def kG(p:Pg)(ps:List Int)(k:Nat):List Cl:=(List.range k).flatMap fun n:Nat=>match p.rules[n]? with
 |some r=>ruC ps n r
 |none=>[]
def jS(p:Pg):List Cl:=kG p (u1 p) p.rules.length
theorem xn(p:Pg)(ps:List Int){k:Nat}{r:Rl}(h:p.rules[k]? =some r):kG p ps (k+1)=kG p ps k++ruC ps k r:=by
 unfold kG
 rw[List.range_succ,List.flatMap_append]
 simp[h]
theorem B3:∀ {a b:List Int},a.Pairwise (· <·)->b.Pairwise (· <·)->(∀x,x∈a↔x∈b)->a=b
 |[],[],_,_,_=>rfl
 |[],y::b,_,_,h=>absurd ((h y).2 aJ) aJ
 |x::a,[],_,_,h=>absurd ((h x).1 aJ) aJ
 |x::a,y::b,ha,hb,h=>by
  rw[List.pairwise_cons]at ha hb
  have e:x=y:=by
   have h1:=(h x).1 aJ
   have h2:=(h y).2 aJ
   rcases List.mem_cons.1 h1 with g|g
   ·exact g
   ·rcases List.mem_cons.1 h2 with g'|g'
    ·exact g'.symm
    ·have:=hb.1 x g;have:=ha.1 y g';omega
  subst e
  congr 1
  refine B3 ha.2 hb.2 fun z=> ?_
  have:=h z
  simp only[List.mem_cons]at this
  constructor
  ·intro hz
   rcases this.1 (.inr hz)with g|g
   ·subst g;exact absurd (ha.1 z hz) ae
   ·exact g
  ·intro hz
   rcases this.2 (.inr hz)with g|g
   ·subst g;exact absurd (hb.1 z hz) ae
   ·exact g
end Go.Proofs.YtnkamdiiakdkgaaGreat
section
namespace Go.Proofs.YtnkamdiiakdkgaaGreat
open Go.Sort Go.RowKit
def B4(P:Program)(g:FuncId):Prop:=∀ (de off cap:Nat) (zs:List Int) (w:World),Holds (Value.int .i64) w de off zs.toArray->de<w.heap.size->zs.length<4611686018427387904->
    Calls P g #[.slice (some ⟨de,off,none⟩) zs.length cap] w fun e w'=>
     e= .returned (.tuple #[])/\∃n os,w'=grow (putRow (Value.int .i64) (Sort.ahead w n) de off (zs.mergeSort fun x y=>decide (x<=y)).toArray) os
def dR(l:List Int):List Int:=l.mergeSort fun x y=>decide (x<=y)
theorem qg{B:Nat->Prop}{w:World}:∀ (zs:List Int) (xs:List Value),fu B w 1 (zs.map (D.int .i64)) xs↔xs=zs.map (Value.int .i64):=by
 have hd:∀ (zs:List Int) (evs:List Value),D.az B w (zs.map (D.int .i64)) evs↔evs=zs.map (Value.int .i64):=by
  intro zs
  induction zs with
  |nil=>intro evs;simp[D.az]
  |cons z zs ih=>
   intro evs
   simp only[List.map_cons,D.az]
   constructor
   ·rintro⟨v,vs,rfl,h1,h2⟩
    rw[(ih vs).1 h2]
    simp only[D.den]at h1
    rw[h1]
   ·intro h
    exact⟨_,_,h,rfl,(ih _).2 rfl⟩
 have hf:∀zs:List Int,(zs.map (Value.int .i64)).flatMap (·.cells.toList)=zs.map (Value.int .i64):=by
  intro zs
  induction zs with
  |nil=>rfl
  |cons z zs ih=>simp only[List.map_cons,List.flatMap_cons,ih];rfl
 intro zs xs
 constructor
 ·rintro⟨evs,h1,h2,h3⟩
  rw[h1,(hd zs evs).1 h3,hf]
 ·intro h
  subst h
  exact⟨_,(hf zs).symm,fun ev dc=>by
   obtain⟨z,_,rfl⟩:=List.mem_map.1 dc
   rfl,(hd zs _).2 rfl⟩
theorem KN{P:Program}{g:FuncId}(hE:Enters P g)(hS:B4 P g){o:Nat->ab}{nx id ep:Nat}{ty:TypeId}{zs:List Int}(ho:o id= .arr ep ty 1 (zs.map (D.int .i64)))
 (hn:∀p cap w,Calls P g #[.slice p 0 cap] w fun e w'=>e= .returned (.tuple #[])/\w'=w)
 (hlen:zs.length<4611686018427387904) {K X:V->(Nat->ab)->Nat->Prop} (hK:K (.bT []) (aD o id (.arr ep ty 1 ((dR zs).map (D.int .i64)))) nx):cX P g [.osl id ep] o nx K X:=by
 refine⟨hE,fun M φ w vals hH hd=> ?_⟩
 obtain⟨val,us,kJ,⟨v0,v1,v2⟩,dX⟩:=hd
 have dX:us=[]:=dX
 subst dX
 have eK:val=φ id:=(v2 ep (by show(o id).bX=some ep;rw[ho];rfl)).2 rfl
 have Wr:vals=#[φ id]:=by rw[<- eK];exact Array.ext' (by simpa using kJ)
 subst Wr
 have Dh:=hH.ok id
 unfold aM at Dh
 rw[show(hp o nx).o id= .arr ep ty 1 (zs.map (D.int .i64))from ho]at Dh
 obtain⟨_,xs,df,bE⟩:=Dh
 have F0:=(qg zs xs).1 bE
 subst F0
 simp only[List.length_map]at df
 obtain⟨hl,IK|⟨b,cap,cur,dT,_,hg,il,xN,hcs,KO⟩⟩:=df
 ·obtain⟨h1,h2⟩:=IK
  have hz:zs=[]:=List.length_eq_zero_iff.1 h2
  subst hz
  rw[h1]
  refine(hn none 0 w).mono ?_
  rintro e w' ⟨rfl,rfl⟩
  have AB:aD o id (.arr ep ty 1 ((dR []).map (D.int .i64)))=o:=by
   funext j
   by_cases e:j=id
   ·subst e;rw[af,ho,show dR []=[] by simp[dR]]
   ·rw[ah _ _ _ _ e]
  rw[AB]at hK
  exact⟨φ,o,nx, .bT [],hH,Trans.refl _ _ _,⟨#[],rfl,rfl⟩,hK⟩
 ·rw[dT]
  have hb:b<w.heap.size:=(Array.getElem?_eq_some_iff.1 hg).1
  have Ot:∀j,j<zs.length->cur[j]? =some (.int .i64 zs[j]!):=by
   intro j hj
   have h1:(cur.toList.take (zs.length*1))[j]? =(zs.map (Value.int .i64))[j]? :=by rw[KO]
   rw[List.getElem?_take_of_lt (by omega),List.getElem?_map,List.getElem?_eq_getElem hj]at h1
   simp only[Option.map_some]at h1
   rw[getElem!_pos zs j hj]
   simpa using h1
  refine(hS b 0 cap zs w (fun j hj=> ?_) hb hlen).mono ?_
  ·simp only[List.size_toArray]at hj
   refine⟨?_, ?_⟩
   ·exact XN
   ·unfold World.frozen?
    simp[hg]
  rintro e w' ⟨rfl,n,os,rfl⟩
  have S5:(dR zs).length=zs.length:=List.length_mergeSort zs
  have uF:∀k,k<w.heap.size->(grow (putRow (Value.int .i64) (Sort.ahead w n) b 0 (dR zs).toArray) os).heap[k]? =(w.heap.modify b (onCells (putCells (Value.int .i64) 0 (dR zs).toArray)))[k]? :=by
   intro k hk
   unfold grow putRow mapBlock Sort.ahead
   simp only
   rw[Array.getElem?_append_left (by simpa using hk)]
  have rI:dx (· =b) w (grow (putRow (Value.int .i64) (Sort.ahead w n) b 0 (dR zs).toArray) os):=by
   refine⟨rfl,rfl,rfl, ?_,fun k hk jY=> ?_⟩
   ·unfold grow putRow mapBlock Sort.ahead;simp
   ·rw[uF k hk,Array.getElem?_modify,if_neg (fun e=>jY e.symm)]
  have cz:((hp o nx).o id).live=true:=by show(o id).live=true;rw[ho];rfl
  have yo:de (φ id)=some b:=by rw[dT];rfl
  have IG:(grow (putRow (Value.int .i64) (Sort.ahead w n) b 0 (dR zs).toArray) os).heap[b]? =some (.cells (putCells (Value.int .i64) 0 (dR zs).toArray cur) ty (0,0)):=by
   rw[uF b hb,Array.getElem?_modify,if_pos rfl,hg];rfl
  have gK:(hp o nx).put [(id, .arr ep ty 1 ((dR zs).map (D.int .i64)))]=hp (aD o id (.arr ep ty 1 ((dR zs).map (D.int .i64)))) nx:=by
   have dX:id<nx:=v1
   simp only[Hp.put,hp]
   congr 1
   funext j
   simp only[List.map_cons,List.map_nil,List.mem_singleton,eq_iff_iff]
   exact⟨fun h=>h.elim (fun h=>h) (fun e=>e ▸ dX), .inl⟩
  have tx:aM M φ ((hp o nx).put [(id, .arr ep ty 1 ((dR zs).map (D.int .i64)))]) (grow (putRow (Value.int .i64) (Sort.ahead w n) b 0 (dR zs).toArray) os) id:=by
   unfold aM
   rw[show((hp o nx).put [(id, .arr ep ty 1 ((dR zs).map (D.int .i64)))]).o id= .arr ep ty 1 ((dR zs).map (D.int .i64)) by simp]
   refine⟨bO,(dR zs).map (Value.int .i64), ?_,(qg _ _).2 rfl⟩
   simp only[List.length_map,S5]
   refine⟨by simp[S5], .inr ⟨b,cap,_,dT,Nat.zero_le _,IG,il,xN, ?_, ?_⟩⟩
   ·unfold putCells;simpa using hcs
   ·apply List.ext_getElem?
    intro j
    by_cases hj:j<zs.length
    ·rw[List.getElem?_take_of_lt (by omega),List.getElem?_map,List.getElem?_eq_getElem (l:=dR zs) (by omega)]
     have R7:j<cur.size:=ae
     unfold putCells
     simp only[Array.getElem?_toList,Array.getElem?_mapIdx,Option.map_some]
     rw[Array.getElem?_eq_getElem R7]
     simp only[Option.map_some,Nat.zero_le,true_and,Nat.zero_add,List.size_toArray,Nat.sub_zero]
     rw[if_pos (by omega)]
     rw[getElem!_pos _ j (by simp;omega)]
     simp
    ·rw[List.getElem?_eq_none (by rw[List.length_take,Nat.mul_one];exact Nat.le_trans (Nat.min_le_left _ _) (Nat.not_lt.1 hj)),List.getElem?_eq_none (by rw[List.length_map,S5];exact Nat.not_lt.1 hj)]
  have QO:=gI hH (id:=id) v1 cz yo rI (.arr ep ty 1 ((dR zs).map (D.int .i64))) LY LY tx
  have PJ:=eB (φ:=φ) (H:=hp o nx) (id:=id) v1 cz yo rI (.arr ep ty 1 ((dR zs).map (D.int .i64))) LY LY
  rw[gK]at QO PJ
  exact⟨φ,_,nx, .bT [],QO,PJ,⟨#[],rfl,rfl⟩,hK⟩
end Go.Proofs.YtnkamdiiakdkgaaGreat
end
section
namespace Go.Proofs.YtnkamdiiakdkgaaGreat
open Go.Sort Go.RowKit
def na(P:Program)(g:FuncId):Prop:=∀ (de off cap:Nat) (zs:List Int) (w:World),Holds (Value.int .i64) w de off zs.toArray->zs.length<=9223372036854775807->zs.length<=cap->
    Calls P g #[.slice (some ⟨de,off,none⟩) zs.length cap] w fun e w'=>
     e= .returned (.slice (some ⟨de,off,none⟩) (Lib.compact zs).length cap)/\∃q,w'=putRow (Value.int .i64) (Sort.ahead w q) de off (Lib.compact zs++List.replicate (zs.length - (Lib.compact zs).length) 0).toArray
theorem KQ(zs:List Int):(Lib.compact zs).length<=zs.length:=by
 unfold Lib.compact Lib.compactUpTo
 rw[List.length_map]
 have:=List.length_filter_le (Lib.keeps zs.toArray) (List.range zs.length)
 simpa using this
theorem zi{P:Program}{g:FuncId}(hS:na P g)(hn:∀p cap w,Calls P g #[.slice p 0 cap] w fun e w'=>e= .returned (.slice p 0 cap)/\w'=w){M:Nat->Prop}{φ:Place}{H:Hp}{w:World}(hH:aw M φ H w)
 {id ep:Nat} {ty:TypeId} {zs:List Int} (v1:H.us id) (ho:H.o id= .arr ep ty 1 (zs.map (D.int .i64))) (hlen:zs.length<=9223372036854775807):
 Calls P g #[φ id] w fun e w'=>∃val aC,e= .returned val/\aw M aC (H.put [(id, .arr (ep+1) ty 1 ((Lib.compact zs).map (D.int .i64)))]) w'/\Trans φ H w aC (H.put [(id, .arr (ep+1) ty 1 ((Lib.compact zs).map (D.int .i64)))]) w'/\
  V.den (ak M aC (H.put [(id, .arr (ep+1) ty 1 ((Lib.compact zs).map (D.int .i64)))])) aC (H.put [(id, .arr (ep+1) ty 1 ((Lib.compact zs).map (D.int .i64)))]) w' (.osl id (ep+1)) val:=by
 have Dh:=hH.ok id
 unfold aM at Dh
 rw[ho]at Dh
 obtain⟨_,xs,df,bE⟩:=Dh
 have F0:=(qg zs xs).1 bE
 subst F0
 simp only[List.length_map]at df
 obtain⟨hl,IK|⟨b,cap,cur,dT,_,hg,il,xN,hcs,KO⟩⟩:=df
 ·obtain⟨h1,h2⟩:=IK
  have hz:zs=[]:=List.length_eq_zero_iff.1 h2
  subst hz
  rw[h1]
  refine(hn none 0 w).mono ?_
  rintro e w' ⟨rfl,rfl⟩
  have KR:w'.ownsRow 0 ty 1 (.slice none 0 0) (([]:List Int).map (D.int .i64)).length (([]:List Int).map (Value.int .i64)):=⟨rfl, .inl ⟨rfl,rfl⟩⟩
  have UK:=mo (M:=M) hH (id:=id) (ep:=ep) v1 ho (val:= .slice none 0 0) (es':=([]:List Int).map (D.int .i64)) (dx.refl (fun _=>False) w') (fun _ h=>h.elim) (fun b h=>by simp[de]at h) KR ((qg _ _).2 rfl)
  exact⟨_,_,rfl,UK.1,UK.2.1,UK.2.2⟩
 ·rw[dT]
  have hb:b<w.heap.size:=(Array.getElem?_eq_some_iff.1 hg).1
  have Ot:∀j,j<zs.length->cur[j]? =some (.int .i64 zs[j]!):=by
   intro j hj
   have h1:(cur.toList.take (zs.length*1))[j]? =(zs.map (Value.int .i64))[j]? :=by rw[KO]
   rw[List.getElem?_take_of_lt (by omega),List.getElem?_map,List.getElem?_eq_getElem hj]at h1
   simp only[Option.map_some]at h1
   rw[getElem!_pos zs j hj]
   simpa using h1
  refine(hS b 0 cap zs w (fun j hj=> ?_) hlen ae).mono ?_
  ·simp only[List.size_toArray]at hj
   refine⟨?_, ?_⟩
   ·exact XN
   ·unfold World.frozen?
    simp[hg]
  rintro e w' ⟨rfl,n,rfl⟩
  have l6:=KQ zs
  generalize xZ:Lib.compact zs=rs at l6|-
  have uF:∀k:Nat,(putRow (Value.int .i64) (Sort.ahead w n) b 0 (rs++List.replicate (zs.length - rs.length) 0).toArray).heap[k]? =(w.heap.modify b (onCells (putCells (Value.int .i64) 0 (rs++List.replicate (zs.length - rs.length) 0).toArray)))[k]? :=by
   intro k
   unfold putRow mapBlock Sort.ahead
   rfl
  have rI:dx (· =b) w (putRow (Value.int .i64) (Sort.ahead w n) b 0 (rs++List.replicate (zs.length - rs.length) 0).toArray):=by
   refine⟨rfl,rfl,rfl, ?_,fun k hk jY=> ?_⟩
   ·unfold putRow mapBlock Sort.ahead;simp
   ·rw[uF k,Array.getElem?_modify,if_neg (fun e=>jY e.symm)]
  have yo:de (φ id)=some b:=by rw[dT];rfl
  have IG:(putRow (Value.int .i64) (Sort.ahead w n) b 0 (rs++List.replicate (zs.length - rs.length) 0).toArray).heap[b]? =some (.cells (putCells (Value.int .i64) 0 (rs++List.replicate (zs.length - rs.length) 0).toArray cur) ty (0,0)):=by
   rw[uF b,Array.getElem?_modify,if_pos rfl,hg];rfl
  have KR:(putRow (Value.int .i64) (Sort.ahead w n) b 0 (rs++List.replicate (zs.length - rs.length) 0).toArray).ownsRow 0 ty 1 (.slice (some ⟨b,0,none⟩) rs.length cap) (rs.map (D.int .i64)).length (rs.map (Value.int .i64)):=by
   rw[List.length_map]
   refine⟨aJ, .inr ⟨b,cap,_,rfl,Nat.zero_le _,IG,ae,xN, ?_, ?_⟩⟩
   ·unfold putCells;simpa using hcs
   ·apply List.ext_getElem?
    intro j
    by_cases hj:j<rs.length
    ·rw[List.getElem?_take_of_lt (by omega),List.getElem?_map,List.getElem?_eq_getElem (l:=rs) (by omega)]
     have R7:j<cur.size:=ae
     unfold putCells
     simp only[Array.getElem?_toList,Array.getElem?_mapIdx,Option.map_some]
     rw[Array.getElem?_eq_getElem R7]
     simp only[Option.map_some,Nat.zero_le,true_and,Nat.zero_add,List.size_toArray,Nat.sub_zero]
     rw[if_pos (by rw[List.length_append];omega)]
     rw[getElem!_pos _ j (by simp;omega)]
     simp[List.getElem_append_left hj]
    ·rw[List.getElem?_eq_none (by rw[List.length_take,Nat.mul_one];exact Nat.le_trans (Nat.min_le_left _ _) (Nat.not_lt.1 hj)),List.getElem?_eq_none (by rw[List.length_map];exact Nat.not_lt.1 hj)]
  have UK:=mo (M:=M) hH (id:=id) (ep:=ep) v1 ho (val:= .slice (some ⟨b,0,none⟩) rs.length cap) (es':=rs.map (D.int .i64)) rI (fun c hc=>hc ▸ yo) (fun c hc=> .inl (by simp[de]at hc;rw[<- hc];exact yo)) KR ((qg _ _).2 rfl)
  exact⟨_,_,rfl,UK.1,UK.2.1,UK.2.2⟩
theorem Hg{P:Program}{g:FuncId}(hE:Enters P g)(hS:na P g){o:Nat->ab}{fr id ep:Nat}{ty:TypeId}{zs:List Int}(ho:o id= .arr ep ty 1 (zs.map (D.int .i64)))
 (hn:∀p cap w,Calls P g #[.slice p 0 cap] w fun e w'=>e= .returned (.slice p 0 cap)/\w'=w)
 (hlen:zs.length<=9223372036854775807):yi P g [.osl id ep] [id] o fr (.osl id (ep+1)) [(id, .arr (ep+1) ty 1 ((Lib.compact zs).map (D.int .i64)))]:=by
 refine⟨hE,fun o' us M φ w vals hag cL hH hd=> ?_⟩
 obtain⟨ha,hu⟩:=hag id aJ
 have vT:o' id= .arr ep ty 1 (zs.map (D.int .i64)):=ha.trans ho
 obtain⟨val,us',kJ,⟨v0,v1,v2⟩,dX⟩:=hd
 have dX:us'=[]:=dX
 subst dX
 have eK:val=φ id:=(v2 ep (by show(o' id).bX=some ep;rw[vT];rfl)).2 rfl
 have Wr:vals=#[φ id]:=by rw[<- eK];exact Array.ext' (by simpa using kJ)
 subst Wr
 refine(zi hS hn hH hu vT hlen).mono ?_
 rintro e w' ⟨val,aC,rfl,h1,h2,h3⟩
 obtain⟨k1,k2⟩:=iV h1 (us':=fun j=>us j\/j=fr) (fun j hj=>by
  simp only[Hp.put]at hj
  rcases hj with hj|hj
  ·exact .inl hj
  ·simp at hj;subst hj;exact .inl hu)
 have gK:(⟨((⟨o',us⟩:Hp).put [(id, .arr (ep+1) ty 1 ((Lib.compact zs).map (D.int .i64)))]).o,fun j=>us j\/j=fr⟩:Hp)=⟨put o' [(id, .arr (ep+1) ty 1 ((Lib.compact zs).map (D.int .i64)))],fun j=>us j\/j=fr⟩:=rfl
 rw[gK]at k1 k2
 exact⟨aC,k1,h2.trans k2,_,rfl,V.aK k2 _ _ h3⟩
end Go.Proofs.YtnkamdiiakdkgaaGreat
end
