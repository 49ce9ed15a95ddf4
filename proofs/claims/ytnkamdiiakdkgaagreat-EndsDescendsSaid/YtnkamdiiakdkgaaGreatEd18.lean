/-
  A PART OF THE PROOF. Conditions: none.
-/
import Derived.Shelf.Sort.Plain
import Derived.Shelf.Slices.In.SortNone
import Derived.Shelf.Slices.CompactI
import Derived.Test.YtnkamdiiakdkgaaGreatEd17
set_option linter.unusedSimpArgs false
set_option linter.unusedVariables false
namespace Go.Proofs.YtnkamdiiakdkgaaGreat
theorem ry{K:V->List (Nat×ab)->Prop}{id:Nat}{l:List (Int×Int)}(h0:l=[]->K (.bU [.d (.bool false)]) [])
 (h1:∀ (i:Nat) n k,l[i]? =some (n,k)->K (.bU [.d (.bool true), .d (.int .i64 n), .d (D.i k)]) [(id, .oA (enc (D.int .i64) (ints (l.eraseIdx i))) (some (.int .i64 n,D.i k)))]):E2 K id (enc (D.int .i64) (ints l)):=by
 refine Hj _ (fun h=>h0 ?_) fun i k x h=> ?_
 ·cases l with
  |nil=>rfl
  |cons x l=>simp[ints]at h
 ·unfold ints at h|-
  rw[List.getElem?_map]at h
  cases hl:l[i]? with
  |none=>rw[hl]at h;cases h
  |some n=>
   rw[hl]at h
   simp at h
   obtain⟨rfl,rfl⟩:=h
   have:=h1 i n.1 n.2 hl
   rw[lV]
   exact this
theorem rz{α:Type}{l:List α}{i:Nat}{n:α}(p:α->Bool)(h:l[i]? =some n):l.all p=(p n&&(l.eraseIdx i).all p):=by
 have hp:l.Perm (n::l.eraseIdx i):=by
  obtain⟨hi,e⟩:=List.getElem?_eq_some_iff.1 h
  have vF:l=l.take i++n::l.drop (i+1):=by rw[<- e,List.getElem_cons_drop,List.take_append_drop]
  rw[List.eraseIdx_eq_take_drop_succ]
  conv=>lhs;rw[vF]
  exact List.perm_middle
 rw[Bool.eq_iff_iff,List.all_eq_true,Bool.and_eq_true,List.all_eq_true]
 constructor
 ·intro h1
  exact⟨h1 _ (hp.mem_iff.2 aL),fun x hx=>h1 x (hp.mem_iff.2 nQ)⟩
 ·rintro⟨h1,h2⟩ x hx
  rcases List.mem_cons.1 (hp.mem_iff.1 hx)with e|e
  ·rw[e];exact h1
  ·exact h2 x e
theorem rA{α:Type}{l:List α}{i:Nat}{n:α}(h:l[i]? =some n):(l.eraseIdx i).length+1=l.length:=by
 obtain⟨hi,e⟩:=List.getElem?_eq_some_iff.1 h
 rw[List.length_eraseIdx];simp[hi];omega
def l8(s:bE)(r:Rl):Bool:=decide (0<=r.fn)&&(match s.bB[r.fn.toNat]? with|some f=>(r.ay.length:Int)==f.args|none=>false)&&decide (0<=r.vars)&&decide (r.vars<=20)&&r.ay.all (ku s)&&eZ s [r.rhs]
def eF(s:bE)(r:Rl):Bool:=l8 s r&&(dy 1 r.ay).all (fun p=>decide (p.2<=1)&&decide (p.1<r.vars))&&(dy 1 [r.rhs]).all (fun p=>decide (p.1<r.vars))&&
 (dy 8 [r.rhs]).all (fun p=>decide (p.2<=1)&&decide (p.1<r.vars)&&decide (fU (dy 1 r.ay) p.1<=0))&&zi (dy 8 [r.rhs]) r.rhs []
theorem zj{R:List Nat}{o:Nat->ab}{id:Nat}(h:id∈R):Dp R o id=o id:=by simp[Dp,h]
theorem Hy{R:List Nat}{o:Nat->ab}{nx:Nat}(ck:∀id∈R,id<nx)(kV:∀id∈R,∀j∈(o id).refs,j∈R):Good (Dp R o) nx:=by
 refine⟨fun id au=> ?_,fun id r hr=> ?_⟩
 ·have:id∉R:=fun hm=>by have:=ck id hm;omega
  simp[Dp,this]
 ·by_cases au:id∈R
  ·rw[zj au]at hr;exact ck r (kV id au r hr)
  ·have:Dp R o id= .no:=by simp[Dp,au]
   rw[this]at hr;cases hr
theorem Od(s:bE)(hs:s.Fits)(l:List Tm)(hl:l.length<=1000000)(hf:∀t∈l,t.Fin){o:Nat->ab}(ho:o 0= .row s.row):
 EV Tryz.prog 133 [.d (.sl (l.map Tm.d)), .func (.func 131) [] [.ptr 0 0]] [0] o (.ret [.bool (l.all (ku s))]) []:=by
 have ck:∀j∈[0],j<1:=aL
 have kV:∀k∈[0],∀j∈(o k).refs,j∈[0]:=by
  intro k hk j hj
  simp at hk
  subst hk
  rw[ho]at hj;simp[ab.refs,V.aG,V.refs]at hj
 refine EV.mP ck nO kV aL aL ?_
 refine BZ l af 131 [.ptr 0 0] 1 (Dp [0] o) (ku s) nO (fun x hx=>Oc s hs x (hf x hx) 1 0 _ ((zj aL).trans ho) af) _ _ ⟨Hy ck kV,Nat.le_refl _,fun _ _=>rfl⟩ _ _ fun o2 n2 m1 m2 m3=> ?_
 refine⟨fun k hk=> ?_,[.d (.bool (l.all (ku s)))],[.bool (l.all (ku s))],rfl,rfl,rfl,fun k hk=>by simp[V.bf,V.ids]at hk⟩
 simp at hk
 subst hk
 rw[m2.eq 0 (by omega),zj (by simp)];rfl
set_option maxHeartbeats 1000000 in
theorem Oe(s:bE)(hs:s.Fits)(r:Rl)(hr:r.Fin):aT Tryz.prog 100 [s.d,r.d] (.ret [.bool (eF s r)]):=by
 have hr1:=hr.ay
 refine aT.aF mix QN aL ?_
 rw[Up]
 have hlf:=hs.lf
 have fin:∀ {b:Bool},l8 s r=b->b=false->eF s r=false:=fun h1 h2=>by unfold eF;rw[h1,h2];rfl
 by_cases f1:r.fn<0
 ·have Mo:decide (r.fn<0)=true:=by simpa using f1
  have e:eF s r=false:=fin (b:=false) (by unfold l8;rw[decide_eq_false (by omega: ¬0<=r.fn)];rfl) rfl
  simp+contextual (disch:=first|omega|simp only[go_sem,false_implies]) only[go_sem,wrap64,if_pos,Nat.add_assoc,Nat.left_eq_add,Nat.add_eq_left,Nat.add_left_cancel_iff,List.length_map,Mo]
  exact Pc
 have Mo:decide (r.fn<0)=false:=by simpa using f1
 by_cases f2:(s.bB.length:Int)<=r.fn
 ·have Lk:decide ((s.bB.length:Int)<=r.fn)=true:=by simpa using f2
  have e:eF s r=false:=fin (b:=false) (by unfold l8;rw[List.getElem?_eq_none (by omega:s.bB.length<=r.fn.toNat)];simp) rfl
  refine Xm Mo Lk ?_
  exact Pc
 have Lk:decide ((s.bB.length:Int)<=r.fn)=false:=by simpa using f2
 obtain⟨f,hf⟩:∃f,s.bB[r.fn.toNat]? =some f:=⟨_,List.getElem?_eq_getElem af⟩
 by_cases f3: ¬ (r.ay.length:Int)=f.args
 ·have Vx:((r.ay.length:Int)!=f.args)=true:=by simpa using f3
  have e:eF s r=false:=fin (b:=false) (by unfold l8;rw[hf];simp[f3]) rfl
  simp+contextual (disch:=first|omega|simp only[go_sem,false_implies]) only[go_sem,wrap64,if_pos,Nat.add_assoc,Nat.left_eq_add,Nat.add_eq_left,Nat.add_left_cancel_iff,List.length_map,Mo,Lk,hf,Vx]
  exact Pc
 have Vx:((r.ay.length:Int)!=f.args)=false:=by simpa using f3
 by_cases f4:r.vars<0
 ·have f4':decide (r.vars<0)=true:=by simpa using f4
  have e:eF s r=false:=fin (b:=false) (by unfold l8;rw[decide_eq_false (by omega: ¬0<=r.vars)];simp) rfl
  simp+contextual (disch:=first|omega|simp only[go_sem,false_implies]) only[go_sem,wrap64,if_pos,Nat.add_assoc,Nat.left_eq_add,Nat.add_eq_left,Nat.add_left_cancel_iff,List.length_map,Mo,Lk,hf,Vx,f4']
  exact Pc
 have f4':decide (r.vars<0)=false:=by simpa using f4
 by_cases f5:20<r.vars
 ·have f5':decide (20<r.vars)=true:=by simpa using f5
  have e:eF s r=false:=fin (b:=false) (by unfold l8;rw[decide_eq_false (by omega: ¬r.vars<=20)];simp) rfl
  refine Xn Mo Lk hf Vx f4' f5' ?_
  exact Pc
 have f5':decide (20<r.vars)=false:=by simpa using f5
 have hh:l8 s r=(r.ay.all (ku s)&&eZ s [r.rhs]):=by
  unfold l8
  rw[hf]
  have g3:(r.ay.length:Int)=f.args:=by simpa using f3
  simp[g3,show 0<=r.fn by omega,show 0<=r.vars by omega,show r.vars<=20 by omega]
 refine Xn Mo Lk hf Vx f4' f5' ?_
 refine Bo (rd:=[0]) rfl (Od s hs r.ay hr1 hr.all ?_) ?_
 ·exact fi
 cases h6:r.ay.all (ku s)with
 |false=>
  have e:eF s r=false:=fin hh (by rw[h6];rfl)
  refine aU ?_
  exact Pc
 |true=>
  refine aU ?_
  refine aV (N7 s hs r.rhs hr.rhs) rfl ?_
  cases h7:eZ s [r.rhs]with
  |false=>
   have e:eF s r=false:=fin hh (by rw[h6,h7];rfl)
   refine F6 ?_
   exact Pc
  |true=>
   refine F6 ?_
   refine aI (aO rfl) ?_
   refine aU ?_
   have hR:eF s r=((dy 1 r.ay).all (fun p=>decide (p.2<=1)&&decide (p.1<r.vars))&&(dy 1 [r.rhs]).all (fun p=>decide (p.1<r.vars))&&
    (dy 8 [r.rhs]).all (fun p=>decide (p.2<=1)&&decide (p.1<r.vars)&&decide (fU (dy 1 r.ay) p.1<=0))&&zi (dy 8 [r.rhs]) r.rhs []):=by
    unfold eF;rw[hh,h6,h7];rfl
   refine dc (su r.ay hr1 (fun t ht=>(hr.all t ht).fits)) ?_
   refine aU ?_
   refine dc (Vv r.rhs hr.rhs.fits) ?_
   refine aU ?_
   refine aI (aO rfl) ?_
   simp+contextual (disch:=first|omega|simp only[go_sem,false_implies]) only[go_sem,wrap64,if_pos,sX]
   refine aw (fun i:List (Int×Int)×Option (D×D)=>⟨aS [.aa, .aa, .aa, .ptr 1 0, .aa, .aa, .d (Lg (dy 1 r.ay)), .d (Lg (dy 8 [r.rhs])), .aa, .aa, .aa, .aa, .aa, .aa, .aa, .aa, .aa, .aa, .aa, .aa, .aa, .aa, .aa, .aa, .aa, .aa, .aa, .aa, .aa, .aa, .aa, .aa, .aa, .aa, .aa, .aa, .aa, .aa, .aa, .aa, .aa, .aa, .aa, .aa, .aa, .aa, .aa, .aa, .aa, .aa, .aa, .aa, .aa, .aa, .aa, .aa, .aa, .aa, .aa, .aa, .aa, .aa, .aa, .aa, .aa, .aa, .aa, .aa, .aa, .ptr 62 0],aA (aA (aA (fun _=> .no) 0 (.row [.d (.sl (s.cons.map iV.d)), .d (.sl (s.bB.map iV.d))])) 1 (.row [.d (.i r.fn), .d (.sl (r.ay.map Tm.d)), .d (.i r.rhs.op), .d (.i r.rhs.n), .d (.sl (r.rhs.kids.map Tm.d)), .d (.i r.vars)])) 62 (.oA (enc (D.int .i64) (ints i.1)) i.2),63⟩)
    (fun i=>(dy 1 r.ay).all (fun p=>decide (p.2<=1)&&decide (p.1<r.vars))=i.1.all (fun p=>decide (p.2<=1)&&decide (p.1<r.vars))) (fun i=>i.1.length) (dy 1 r.ay,none) rfl (aZ.aR _ (show 0<=63 from af) af eH (fun j hj=>by(repeat(first|rfl|rw[ad]|rw[ag _ _ _ _ (by omega)]))) ?_) ?_
   ·exact bO
   rintro⟨rest,last⟩ hA
   simp only at hA
   refine aU ?_
   refine ry (fun Hb=> ?_) fun i n k hm=> ?_
   ·subst Hb
    simp only[List.all_nil]at hA
    refine ow ?_
    refine a8 (su [r.rhs] aL (fun t ht=>by simp at ht;subst ht;exact hr.rhs.fits)) ?_
    refine Xp ?_
    refine aw (fun i:List (Int×Int)×Option (D×D)=>⟨aS [.aa, .aa, .aa, .ptr 1 0, .aa, .aa, .d (Lg (dy 1 r.ay)), .d (Lg (dy 8 [r.rhs])), .aa, .aa, .aa, .aa, .aa, .aa, .aa, .aa, .aa, .aa, .aa, .aa, .aa, .aa, .aa, .aa, .aa, .aa, .aa, .aa, .aa, .aa, .aa, .aa, .aa, .aa, .aa, .aa, .aa, .aa, .aa, .aa, .aa, .aa, .aa, .aa, .aa, .aa, .aa, .aa, .aa, .aa, .aa, .aa, .aa, .aa, .aa, .aa, .aa, .aa, .aa, .aa, .aa, .aa, .aa, .aa, .aa, .aa, .aa, .aa, .aa, .aa, .aa, .aa, .aa, .aa, .aa, .aa, .aa, .aa, .aa, .aa, .aa, .aa, .aa, .aa, .aa, .aa, .aa, .ptr 69 0],aA (aA (aA (aA (aA (fun _=> .no) 0 (.row [.d (.sl (s.cons.map iV.d)), .d (.sl (s.bB.map iV.d))])) 1 (.row [.d (.i r.fn), .d (.sl (r.ay.map Tm.d)), .d (.i r.rhs.op), .d (.i r.rhs.n), .d (.sl (r.rhs.kids.map Tm.d)), .d (.i r.vars)])) 62 (.oA (enc (D.int .i64) (ints [])) last)) 67 (.rN 0 [r.rhs.d])) 69 (.oA (enc (D.int .i64) (ints i.1)) i.2),70⟩)
     (fun i=>(dy 1 [r.rhs]).all (fun p=>decide (p.1<r.vars))=i.1.all (fun p=>decide (p.1<r.vars))) (fun i=>i.1.length) (dy 1 [r.rhs],none) rfl (aZ.aR _ (show 0<=70 from af) af eH (fun j hj=>by first|(rw[dm];done)|(repeat(first|rfl|rw[ad]|rw[ag _ _ _ _ (by omega)]))|exact V6) ?_) ?_
    ·exact bO
    rintro⟨rest,ab5⟩ hB
    simp only at hB
    refine aU ?_
    refine ry (fun Hb=> ?_) fun i n k hm=> ?_
    ·subst Hb
     simp only[List.all_nil]at hB
     refine Xp ?_
     refine aw (fun i:List (Int×Int)×Option (D×D)=>⟨aS [.aa, .aa, .aa, .ptr 1 0, .aa, .aa, .d (Lg (dy 1 r.ay)), .d (Lg (dy 8 [r.rhs])), .aa, .aa, .aa, .aa, .aa, .aa, .aa, .aa, .aa, .aa, .aa, .aa, .aa, .aa, .aa, .aa, .aa, .aa, .aa, .aa, .aa, .aa, .aa, .aa, .aa, .aa, .aa, .aa, .aa, .aa, .aa, .aa, .aa, .aa, .aa, .aa, .aa, .aa, .aa, .aa, .aa, .aa, .aa, .aa, .aa, .aa, .aa, .aa, .aa, .aa, .aa, .aa, .aa, .aa, .aa, .aa, .aa, .aa, .aa, .aa, .aa, .aa, .aa, .aa, .aa, .aa, .aa, .aa, .aa, .aa, .aa, .aa, .aa, .aa, .aa, .aa, .aa, .aa, .aa, .aa, .aa, .aa, .aa, .aa, .aa, .aa, .aa, .aa, .aa, .ptr 73 0],aA (aA (aA (aA (aA (aA (fun _=> .no) 0 (.row [.d (.sl (s.cons.map iV.d)), .d (.sl (s.bB.map iV.d))])) 1 (.row [.d (.i r.fn), .d (.sl (r.ay.map Tm.d)), .d (.i r.rhs.op), .d (.i r.rhs.n), .d (.sl (r.rhs.kids.map Tm.d)), .d (.i r.vars)])) 62 (.oA (enc (D.int .i64) (ints [])) last)) 67 (.rN 0 [r.rhs.d])) 69 (.oA (enc (D.int .i64) (ints [])) ab5)) 73 (.oA (enc (D.int .i64) (ints i.1)) i.2),74⟩)
      (fun i=>(dy 8 [r.rhs]).all (fun p=>decide (p.2<=1)&&decide (p.1<r.vars)&&decide (fU (dy 1 r.ay) p.1<=0))=i.1.all (fun p=>decide (p.2<=1)&&decide (p.1<r.vars)&&decide (fU (dy 1 r.ay) p.1<=0))) (fun i=>i.1.length) (dy 8 [r.rhs],none) rfl (aZ.aR _ (show 0<=74 from af) af eH (fun j hj=>by(repeat(first|rfl|rw[ad]|rw[ag _ _ _ _ (by omega)]))) ?_) ?_
     ·exact bO
     rintro⟨rest,aeH⟩ hC
     simp only at hC
     refine aU ?_
     refine ry (fun Hb=> ?_) fun i n k hm=> ?_
     ·subst Hb
      simp only[List.all_nil]at hC
      refine ow ?_
      refine aC (Lj (dy 8 [r.rhs]) r.rhs hr.rhs.fits [] (by have:=hr.rhs.l5;simp;omega)) rfl ?_
      refine aU ?_
      rw[hR,hA,hB,hC];rfl
     ·have hle:=rA hm
      rw[rz (fun p=>decide (p.2<=1)&&decide (p.1<r.vars)&&decide (fU (dy 1 r.ay) p.1<=0)) hm]at hC
      simp only at hC
      have bad:(decide (k<=1)&&decide (n<r.vars)&&decide (fU (dy 1 r.ay) n<=0))=false->eF s r=false:=fun e2=>by rw[hR,hC,e2];simp
      by_cases g1:1<k
      ·have g1':decide (1<k)=true:=by simpa using g1
       have e:=bad (by rw[decide_eq_false (by omega: ¬k<=1)];rfl)
       refine Ms g1' ?_
       rw[e]
      have g1':decide (1<k)=false:=by simpa using g1
      by_cases g2:r.vars<=n
      ·have Wf:decide (r.vars<=n)=true:=by simpa using g2
       have e:=bad (by rw[decide_eq_false (by omega: ¬n<r.vars)];simp)
       refine Xq g1' Wf ?_
       rw[e]
      have Wf:decide (r.vars<=n)=false:=by simpa using g2
      by_cases g3:0<fU (dy 1 r.ay) n
      ·have Wg:decide (0<fU (dy 1 r.ay) n)=true:=by simpa using g3
       have e:=bad (by rw[decide_eq_false (by omega: ¬fU (dy 1 r.ay) n<=0)];simp)
       refine Xo g1' Wf Wg ?_
       rw[e]
      have Wg:decide (0<fU (dy 1 r.ay) n)=false:=by simpa using g3
      have e2:(decide (k<=1)&&decide (n<r.vars)&&decide (fU (dy 1 r.ay) n<=0))=true:=by
       simp;omega
      rw[e2,Bool.true_and]at hC
      refine Xo g1' Wf Wg ?_
      refine aj (rest.eraseIdx i,some (.int .i64 n,D.i k)) hC jS (aZ.aR _ (show 0<=74 from af) af eH (fun j hj=>by first|(rw[dm];done)|(repeat(first|rfl|rw[ad]|rw[ag _ _ _ _ (by omega)]))) ?_)
      exact bO
    ·have hle:=rA hm
     rw[rz (fun p=>decide (p.1<r.vars)) hm]at hB
     simp only at hB
     refine ow ?_
     refine ai (fun h3=> ?_) (fun h3=> ?_)
     ·have e:eF s r=false:=by
       have e2:decide (n<r.vars)=false:=by
        simp at h3|-;omega
       rw[hR,hB,e2];simp
      exact Ye
     ·have e2:decide (n<r.vars)=true:=by
       simp at h3|-;omega
      rw[e2,Bool.true_and]at hB
      refine aU ?_
      refine aj (rest.eraseIdx i,some (.int .i64 n,D.i k)) hB jS (aZ.aR _ (show 0<=70 from af) af eH (fun j hj=>by first|(rw[dm];done)|(repeat(first|rfl|rw[ad]|rw[ag _ _ _ _ (by omega)]))) ?_)
      exact bO
   ·have hle:=rA hm
    rw[rz (fun p=>decide (p.2<=1)&&decide (p.1<r.vars)) hm]at hA
    simp only at hA
    refine ow ?_
    refine ai (fun h3=> ?_) (fun h3=> ?_)
    ·have e:eF s r=false:=by
      have e2:(decide (k<=1)&&decide (n<r.vars))=false:=by
       simp at h3|-;omega
      rw[hR,hA,e2];simp
     exact Ye
    ·have e2:(decide (k<=1)&&decide (n<r.vars))=true:=by
      simp at h3|-;omega
     rw[e2,Bool.true_and]at hA
     refine aU ?_
     refine aj (rest.eraseIdx i,some (.int .i64 n,D.i k)) hA jS (aZ.aR _ (show 0<=63 from af) af eH (fun j hj=>by first|rw[dm]|(repeat(first|rfl|rw[ad]|rw[ag _ _ _ _ (by omega)]))) ?_)
     exact bO
def oV{σ α:Type}(step:σ->α->σ×Bool):σ->List α->Int->Int
 |_,[],_=> -1
 |s,x::l,k=>if(step s x).2=true then oV step (step s x).1 l (k+1)else k
theorem zk{σ α:Type}(step:σ->α->σ×Bool):∀ (l:List α) (s:σ) (k:Int),0<=k->(0<=oV step s l k↔(aq step s l).2=false)
 |[],_,_,_=>by simp[oV,aq]
 |x::l,s,k,hk=>by
  have ih:=zk step l (step s x).1 (k+1) af
  by_cases h:(step s x).2=true
  ·simp only[oV,aq,h,if_true];exact ih
  ·simp[oV,aq,h,hk]
theorem Vy{σ:Type}(l:List Rl)(hl:l.length<=9223372036854775807)(g:Nat)(aQ:List V)(base:Nat)(H:σ->Nat->ab)(step:σ->Rl->σ×Bool)(hc:∀r∈V.aG aQ,r<base)(ok:σ->Prop)(aW:∀x∈l,∀s,ok s->(step s x).2=true->ok (step s x).1)
 (h:∀x∈l,∀s,ok s->iO Tryz.prog g (.d x.d::aQ) base (H s) (H (step s x).1) (.d (.bool (!(step s x).2)))) (s:σ) (iu:ok s):
 iO Tryz.prog 158 [.d (.sl (l.map Rl.d)), .func (.func g) [] aQ] base (H s) (H (aq step s l).1) (.d (.i (oV step s l 0))):=by
 intro o nx hI K X hK
 have iq:∀r∈V.aG aQ,r<nx:=fun r hr=>Nat.lt_of_lt_of_le (hc r hr) hI.le
 refine cX.aF mix Q9 aL ?_
 rw[UL]
 refine cq ?_
 refine aw (fun i:Nat×σ×(Nat->ab)×Nat=>⟨aS [.d (.sl (l.map Rl.d)), .func (.func g) [] aQ, .aa, .aa, .aa, .aa, .aa, .d (.i l.length), .d (.i i.1)],i.2.2.1,i.2.2.2⟩)
  (fun i=>i.1<=l.length/\cH base (H i.2.1) i.2.2.1 i.2.2.2/\nx<=i.2.2.2/\(∀id,base<=id->id<nx->i.2.2.1 id=o id)/\aq step s l=aq step i.2.1 (l.drop i.1)/\ok i.2.1/\oV step s l 0=oV step i.2.1 (l.drop i.1) i.1) (fun i=>l.length - i.1) (0,s,o,nx)
  ⟨Nat.zero_le _,hI,Nat.le_refl _,fun _ _ _=>rfl,rfl,iu,rfl⟩ ?_ ?_
 ·exact I4
 rintro⟨k,s',o',nx'⟩ ⟨hk,sY,hn,cN,hf,hZ,tD⟩
 simp only at hk sY hn cN hf hZ tD
 refine cq ?_
 refine ai (fun h1=> ?_) (fun h1=> ?_)
 ·simp at h1
  obtain⟨x,hx⟩:=az h1
  have eU:=List.mem_of_getElem? hx
  have hd:l.drop k=x::l.drop (k+1):=by
   exact V8
  rw[hd]at hf tD
  simp only[aq,oV]at hf tD
  refine Ik hx ?_
  refine dF (h x eU s' hZ _ _ (sY.mono af) _ _ fun o2 n2 m1 m2 m3=> ?_)
  cases hb:(step s' x).2 with
  |true=>
   rw[hb]at hf tD
   simp only[if_true]at hf tD
   refine aU ?_
   have FB:∀r∈V.aG aQ,r<n2+1+1:=fun r hr=>by have:=iq r hr;omega
   exact zw0
  |false=>
   exact SA
 ·exact SC
theorem B0{σ:Type}(l:List Rl)(hl:l.length<=9223372036854775807)(g:Nat)(aQ:List V)(base:Nat)(H:σ->Nat->ab)(step:σ->Rl->σ×Bool)(hc:∀r∈V.aG aQ,r<base)(ok:σ->Prop)(aW:∀x∈l,∀s,ok s->(step s x).2=true->ok (step s x).1)
 (h:∀x∈l,∀s,ok s->iO Tryz.prog g (.d x.d::aQ) base (H s) (H (step s x).1) (.d (.bool (!(step s x).2)))) (s:σ) (iu:ok s):
 iO Tryz.prog 129 [.d (.sl (l.map Rl.d)), .func (.func g) [] aQ] base (H s) (H (aq step s l).1) (.d (.bool (!(aq step s l).2))):=by
 intro o nx hI K X hK
 have iq:∀r∈V.aG aQ,r<nx:=fun r hr=>Nat.lt_of_lt_of_le (hc r hr) hI.le
 refine cX.aF mix QY aL ?_
 rw[UA]
 refine ow ?_
 refine bg (Vy l hl g aQ base H step hc ok aW h s iu _ _ ?_ _ _ fun o2 n2 m1 m2 m3=> ?_)
 ·exact Es
 refine ow ?_
 have e:decide (0<=oV step s l 0)= !(aq step s l).2:=by
  have:=zk step l s 0 af
  exact SQ
 rw[e]
 exact Mz
theorem ab6{x:Rl}{g:Nat}{aQ:List V}{base c bx:Nat}{h h2 O:Nat->ab}{r:Bool}(hS:iO Tryz.prog g (.d x.d::aQ) base h h2 (.d (.bool r)))(hb:base<=bx)(Mc:bx<c)(hO:O bx= .row [.func (.func g) [] aQ])(hc:∀r∈V.aG aQ,r<base):
 iO Tryz.prog 130 [.d x.d, .ptr bx 0] c (ext base h O) (ext base h2 O) (.d (.bool (!r))):=by
 intro o nx hI K X hK
 have hle:=hI.le
 have iq:∀r∈V.aG aQ,r<nx:=fun r hr=>by have:=hc r hr;omega
 have ho:o bx= .row [.func (.func g) [] aQ]:=by
  exact Sq
 have y1:∀k,bx≠nx+k:=fun k=>af
 have y2:bx≠nx:=af
 refine cX.aF mix QZ aL ?_
 rw[UB]
 refine Mr ho y1 y2 ?_
 refine dF ((hS.ext (by omega:base<=c) O) _ _ ?_ _ _ fun o2 n2 m1 m2 m3=> ?_)
 ·exact hI.aA af af af rfl
 refine ow ?_
 exact XO
theorem Hz{σ:Type}(l:List Rl)(hl:l.length<=9223372036854775807)(g:Nat)(aQ:List V)(base:Nat)(H:σ->Nat->ab)(step:σ->Rl->σ×Bool)(hc:∀r∈V.aG aQ,r<base)(ok:σ->Prop)(aW:∀x∈l,∀s,ok s->(step s x).2=true->ok (step s x).1)
 (h:∀x∈l,∀s,ok s->iO Tryz.prog g (.d x.d::aQ) base (H s) (H (step s x).1) (.d (.bool (step s x).2))) (s:σ) (iu:ok s):
 iO Tryz.prog 98 [.d (.sl (l.map Rl.d)), .func (.func g) [] aQ] base (H s) (H (aq step s l).1) (.d (.bool (aq step s l).2)):=by
 intro o nx hI K X hK
 have hle:=hI.le
 have iq:∀r∈V.aG aQ,r<nx:=fun r hr=>Nat.lt_of_lt_of_le (hc r hr) hI.le
 refine cX.aF mix aau aL ?_
 rw[c98]
 refine ow ?_
 refine bg (B0 l hl 130 [.ptr nx 0] (nx+1) (fun s=>ext base (H s) (aA o nx (.row [.func (.func g) [] aQ]))) step nO ok aW (fun x hx s hs=>ab6 (h x hx s hs) hle af (ad _ _ _) hc) s iu _ _ ?_ _ _ fun o2 n2 m1 m2 m3=> ?_)
 ·have hr:(ab.row [V.func (.func g) [] aQ]).refs.all (fun r=>decide (r<nx+4))=true:=by
   rw[List.all_eq_true]
   intro r hr
   have h1:r∈V.aG aQ:=by simpa[ab.refs,V.aG,V.refs]using hr
   have:=iq r h1
   simp;omega
  exact Sc
 refine ow ?_
 refine hK _ _ af ⟨(m2.mono af).bA,by have:=m2.le;omega,fun id au=> ?_⟩ fun id i1 i2=> ?_
 ·exact Gb
 ·exact R6
theorem zl(l:List Rl)(hl:l.length<=9223372036854775807)(g:Nat)(aQ:List V)(base:Nat)(h:Nat->ab)(p:Rl->Bool)(hc:∀r∈V.aG aQ,r<base)
 (hp:∀x∈l,iO Tryz.prog g (.d x.d::aQ) base h h (.d (.bool (p x)))):iO Tryz.prog 98 [.d (.sl (l.map Rl.d)), .func (.func g) [] aQ] base h h (.d (.bool (l.all p))):=by
 have:=Hz l hl g aQ base (fun _:Unit=>h) (fun _ x=>((),p x)) hc (fun _=>True) (fun _ _ _ _ _=>trivial) (fun x hx _ _=>hp x hx) () trivial
 exact IZ
structure Pg where
 sig:bE
 rules:List Rl
@[reducible] def Pg.row (p:Pg):List V:=[.d (.sl (p.sig.cons.map iV.d)), .d (.sl (p.sig.bB.map iV.d)), .d (.sl (p.rules.map Rl.d))]
@[reducible] def Pg.d (p:Pg):D:= .agg [.sl (p.sig.cons.map iV.d), .sl (p.sig.bB.map iV.d), .sl (p.rules.map Rl.d)]
structure Pg.Fin (p:Pg):Prop where
 sig:p.sig.Fits
 len:p.rules.length<=9223372036854775807
 all:∀r∈p.rules,r.Fin
def u5(p:Pg):Bool:=decide (p.rules.length<=16)&&(jc p.sig&&p.rules.all (eF p.sig))
theorem HA(p:Pg)(hp:p.Fin)(r:Rl)(hr:r∈p.rules)(base sp:Nat)(h:Nat->ab)(vF:h sp= .row p.row)(hb:sp<base):iO Tryz.prog 99 [.d r.d, .ptr sp 0] base h h (.d (.bool (eF p.sig r))):=by
 intro o nx hI K X hK
 have hle:=hI.le
 have hg:=hI.bA
 have q0:o sp= .row p.row:=by rw[hI.eq sp hb,vF]
 refine cX.aF mix aav aL ?_
 rw[c99]
 refine gB q0 ?_
 refine aC (Oe p.sig hp.sig r (hp.all r hr)) rfl ?_
 exact Yk
theorem Ll(p:Pg)(hp:p.Fin):aT Tryz.prog 71 [p.d] (.ret [.bool (u5 p)]):=by
 have hl:=hp.len
 refine aT.aF mix aam aL ?_
 rw[c71]
 unfold u5
 by_cases h0: ¬p.rules.length<=16
 ·have SZ:decide ((p.rules.length:Int)<=16)=false:=by simp;omega
  have Vz:decide (p.rules.length<=16)=false:=by simp;omega
  refine mj SZ ?_
  rw[Vz];rfl
 have SZ:decide ((p.rules.length:Int)<=16)=true:=by simp;omega
 have Vz:decide (p.rules.length<=16)=true:=by simp;omega
 rw[Vz,Bool.true_and]
 refine mj SZ ?_
 refine aC (uX p.sig hp.sig) rfl ?_
 cases h1:jc p.sig with
 |false=>
  refine F6 ?_
  try simp
 |true=>
  refine F6 ?_
  refine bg (zl p.rules hl 99 [.ptr 0 0] 1 (aA (fun _=> .no) 0 (.row p.row)) (eF p.sig) nO (fun x hx=>HA p hp x hx 1 0 _ (ad _ _ _) af) _ _ ⟨eH,af,fun id au=>rfl⟩ _ _ fun o2 n2 m1 m2 m3=> ?_)
  refine aU ?_
  try simp
theorem Lm(p:Pg)(hp:p.Fin):aT Tryz.prog 40 [p.d] (.ret [.i (kN (u5 p))]):=by
 refine aT.aF mix aad aL ?_
 rw[c40]
 refine aU ?_
 refine aC (Ll p hp) rfl ?_
 cases h1:u5 p with
 |false=>exact Is
 |true=>exact Is
def jQ(op v:Int)(xs:List Tm):Nat:=xs.countP fun x=>x.op==op&&x.n==v
theorem FM:∀ (m:List (Int×Int)) (v w u:Int),lk (kK m v w) u=if v=u then some w else lk m u
 |[],v,w,u=>by simp only[kK,lk]
 |p::m,v,w,u=>by
  have ih:=FM m v w u
  unfold kK
  by_cases h:p.1=v
  ·rw[if_pos h]
   simp only[lk]
   by_cases h2:v=u
   ·simp[h2]
   ·have: ¬p.1=u:=by rw[h];exact h2
    simp[h2,this]
  ·rw[if_neg h]
   simp only[lk]
   by_cases h2:p.1=u
   ·have: ¬v=u:=by intro e;exact h (h2.trans e.symm)
    simp[h2,this]
   ·simp only[h2,if_false];exact ih
theorem B1:∀ (m:List (Int×Int)) (v w u:Int),u∈(kK m v w).map (·.1)↔u=v\/u∈m.map (·.1)
 |[],v,w,u=>by simp[kK]
 |p::m,v,w,u=>by
  have ih:=B1 m v w u
  unfold kK
  by_cases h:p.1=v
  ·rw[if_pos h];simp[h]
  ·rw[if_neg h,List.map_cons,List.mem_cons,ih,List.map_cons,List.mem_cons]
   constructor
   ·rintro(h1|h1|h1)<;>simp[h1]
   ·rintro(h1|h1|h1)<;>simp[h1]
theorem xA:∀ (m:List (Int×Int)) (v w:Int),sS m->sS (kK m v w)
 |[],v,w,_=>by simp[kK,sS]
 |p::m,v,w,hk=>by
  have Ex:p.1∉m.map (·.1)/\sS m:=by
   unfold sS at hk|-
   rwa [List.map_cons,List.nodup_cons]at hk
  have ih:=xA m v w Ex.2
  unfold kK
  by_cases h:p.1=v
  ·rw[if_pos h]
   unfold sS
   rw[List.map_cons,List.nodup_cons]
   exact⟨by rw[<- h];exact Ex.1,Ex.2⟩
  ·rw[if_neg h]
   unfold sS
   rw[List.map_cons,List.nodup_cons]
   exact⟨fun hm=>by
    rcases(B1 m v w p.1).1 hm with e|e
    ·exact h e
    ·exact Ex.1 e,ih⟩
theorem DY(op:Int):∀ (xs:List Tm) (m:List (Int×Int)) (c:Int->Nat),sS m->(∀v,lk m v=if c v=0 then none else some (c v:Int))->(∀v,c v+xs.length<=1000000)->
 sS (xs.foldl (dx op) m)/\∀v,lk (xs.foldl (dx op) m) v=if c v+jQ op v xs=0 then none else some ((c v+jQ op v xs:Nat):Int)
 |[],m,c,hk,hl,_=>⟨hk,fun v=>by rw[List.foldl_nil,hl v];rfl⟩
 |x::xs,m,c,hk,hl,hb=>by
  simp only[List.foldl_cons]
  by_cases h:x.op=op
  ·have hg:fU m x.n=(c x.n:Int):=by
    unfold fU;rw[hl];split
    ·next h0=>rw[h0];rfl
    ·rfl
   have S8:=hb x.n
   simp only[List.length_cons]at S8 hb
   have e1:dx op m x=kK m x.n ((c x.n+1:Nat):Int):=by
    unfold dx sT
    rw[if_pos h,hg,wrap64 (by omega) (by omega)]
    push_cast;rfl
   rw[e1]
   have ih:=DY op xs (kK m x.n ((c x.n+1:Nat):Int)) (fun v=>c v+if x.n=v then 1 else 0) (xA _ _ _ hk) (fun v=>by
    rw[FM]
    by_cases e:x.n=v
    ·subst e;simp
    ·simp[e,hl v]) (fun v=>by have:=hb v;split<;>omega)
   refine⟨ih.1,fun v=> ?_⟩
   rw[ih.2 v]
   have e2:(c v+if x.n=v then 1 else 0)+jQ op v xs=c v+jQ op v (x::xs):=by
    unfold jQ
    rw[List.countP_cons]
    by_cases e:x.n=v<;>simp[h,e]<;>omega
   rw[e2]
  ·have e1:dx op m x=m:=by unfold dx;rw[if_neg h]
   rw[e1]
   have ih:=DY op xs m c hk hl (fun v=>by have:=hb v;simp at this;omega)
   refine⟨ih.1,fun v=> ?_⟩
   rw[ih.2 v]
   have e2:jQ op v (x::xs)=jQ op v xs:=by
    unfold jQ
    rw[List.countP_cons];simp[h]
   rw[e2]
def nI(l:List Tm):List Tm:=l.flatMap fu
theorem FN(op:Int)(l:List Tm)(hb:(nI l).length<=1000000):sS (dy op l)/\∀v,lk (dy op l) v=if jQ op v (nI l)=0 then none else some (jQ op v (nI l):Int):=by
 have:=DY op (nI l) [] (fun _=>0) List.nodup_nil (fun v=>by simp[lk]) (fun v=>by simpa using hb)
 refine⟨this.1,fun v=> ?_⟩
 have h:=this.2 v
 rw[Nat.zero_add]at h
 exact h
theorem B3(op:Int)(l:List Tm)(hb:(nI l).length<=1000000)(v:Int):fU (dy op l) v=(jQ op v (nI l):Int):=by
 unfold fU
 rw[(FN op l hb).2 v]
 split
 ·next h=>rw[h];rfl
 ·rfl
theorem u6(op:Int)(l:List Tm)(hb:(nI l).length<=1000000)(p:Int×Int->Bool):(dy op l).all p=true↔∀v,0<jQ op v (nI l)->p (v,(jQ op v (nI l):Int))=true:=by
 obtain⟨hk,hl⟩:=FN op l hb
 rw[List.all_eq_true]
 constructor
 ·intro h v hv
  refine h _ ((FK hk).1 ?_)
  rw[hl v,if_neg (by omega)]
 ·rintro h ⟨v,c⟩ hm
  have h1:=(FK hk).2 hm
  rw[hl v]at h1
  split at h1
  ·cases h1
  ·next h0=>
   injection h1 with h1
   have:=h v af
   rw[h1]at this
   exact this
theorem Of(m:List (Int×Int)):∀ (t:Tm) (nH:List Int),zi m t nH=true↔∀v,DX v t=true->fU m v=0\/v∈nH:=by
 refine Tm.dN fun t ih nH=> ?_
 have key:∀ (l:List Tm) (i:Nat),(∀k∈l,k∈t.kids)->(qh m t.op t.n l i nH=true↔∀v,qi v t.op t.n l i=true->fU m v=0\/v∈nH):=by
  intro l
  induction l with
  |nil=>intro i _;simp[qh,qi]
  |cons k l uS=>
   intro i hk
   have h1:=ih k (hk k aL) (if t.op=8/\i=1 then nH++[t.n]else nH)
   have h2:=uS (i+1) (fun x hx=>hk x nQ)
   simp only[qh,qi,Bool.and_eq_true,h1,h2,Bool.or_eq_true]
   by_cases hc:t.op=8/\i=1
   ·simp only[hc,and_self,if_true,List.mem_append,List.mem_singleton]
    constructor
    ·rintro⟨a,b⟩ v (⟨c,d⟩|c)
     ·rcases a v c with e|e|e
      ·exact .inl e
      ·exact .inr e
      ·subst e;simp at d
     ·exact b v c
    ·intro a
     refine⟨fun v c=> ?_,fun v c=>a v (.inr c)⟩
     by_cases e:v=t.n
     ·exact .inr (.inr e)
     ·rcases a v (.inl ⟨c,by simp;exact fun e2=>e e2.symm⟩)with g|g
      ·exact .inl g
      ·exact .inr (.inl g)
   ·have hb:(t.op==8&&i==1)=false:=by
     cases h:(t.op==8&&i==1)with
     |false=>rfl
     |true=>simp at h;exact absurd h hc
    simp only[hc,if_false,hb,Bool.false_and,Bool.not_false,and_true]
    constructor
    ·rintro⟨a,b⟩ v (c|c)
     ·exact a v c
     ·exact b v c
    ·intro a
     exact⟨fun v c=>a v (.inl c),fun v c=>a v (.inr c)⟩
 rw[FL]
 by_cases h:t.op=1
 ·rw[if_pos h]
  simp only[u4,h,if_true]
  simp
 ·rw[if_neg h,key t.kids 0 (fun _ h=>h)]
  simp only[u4,h,if_false]
theorem HB(s:bE)(r:Rl)(h1:(nI r.ay).length<=1000000)(h2:(nI [r.rhs]).length<=1000000):eF s r=true↔l8 s r=true/\
 (∀v,0<jQ 1 v (nI r.ay)->jQ 1 v (nI r.ay)<=1/\v<r.vars)/\(∀v,0<jQ 1 v (nI [r.rhs])->v<r.vars)/\
 (∀v,0<jQ 8 v (nI [r.rhs])->jQ 8 v (nI [r.rhs])<=1/\v<r.vars/\jQ 1 v (nI r.ay)=0)/\(∀v,DX v r.rhs=true->jQ 8 v (nI [r.rhs])=0):=by
 unfold eF
 simp only[Bool.and_eq_true,u6 1 r.ay h1,u6 1 [r.rhs] h2,u6 8 [r.rhs] h2,Of,B3 1 r.ay h1,B3 8 [r.rhs] h2,decide_eq_true_eq]
 constructor
 ·rintro⟨⟨⟨⟨a,b⟩,c⟩,d⟩,e⟩
  refine⟨a,fun v hv=> ?_,c,fun v hv=> ?_,fun v hv=> ?_⟩
  ·have:=b v hv;omega
  ·have:=d v hv;omega
  ·rcases e v hv with g|g
   ·omega
   ·cases g
 ·rintro⟨a,b,c,d,e⟩
  refine⟨⟨⟨⟨a,fun v hv=> ?_⟩,c⟩,fun v hv=> ?_⟩,fun v hv=> .inl ?_⟩
  ·have:=b v hv;omega
  ·have:=d v hv;omega
  ·have:=e v hv;omega
def jL:List Int->Int->List Int
 |[],n=>[n]
 |x::l,n=>if x<n then x::jL l n else if x=n then x::l else n::x::l
def lY(op n:Int)(i:Nat)(l out:List Int):List Int:=l.foldl (fun out v=>if(op !=8||(i:Int)!=1||v !=n)=true then jL out v else out) out
mutual
def bM:Tm->List Int
 | .mk op n kids=>if op=1 then [n]else iQ op n kids 0 []
def iQ(op n:Int):List Tm->Nat->List Int->List Int
 |[],_,out=>out
 |k::l,i,out=>iQ op n l (i+1) (lY op n i (bM k) out)
end
theorem nh(t:Tm):bM t=if t.op=1 then [t.n]else iQ t.op t.n t.kids 0 []:=by cases t;rfl
theorem qj:∀ (l:List Int) (n v:Int),v∈jL l n↔v∈l\/v=n
 |[],n,v=>by simp[jL]
 |x::l,n,v=>by
  simp only[jL]
  split
  ·simp only[List.mem_cons,qj l n v];constructor
   ·rintro(h|h|h)
    ·exact .inl (.inl h)
    ·exact .inl (.inr h)
    ·exact .inr h
   ·rintro((h|h)|h)
    ·exact .inl h
    ·exact .inr (.inl h)
    ·exact .inr (.inr h)
  ·split
   ·rename_i h;subst h;simp only[List.mem_cons];constructor
    ·exact .inl
    ·rintro(h|h)
     ·exact h
     ·exact .inl h
   ·simp only[List.mem_cons];constructor
    ·rintro(h|h)
     ·exact .inr h
     ·exact .inl h
    ·rintro(h|h)
     ·exact .inr h
     ·exact .inl h
abbrev VA(l:List Int):Prop:=l.Pairwise (· <·)
theorem B4:∀ {l:List Int} (n:Int),VA l->VA (jL l n)
 |[],n,_=>by simp[jL]
 |x::l,n,h=>by
  have h1:=List.pairwise_cons.1 h
  simp only[jL]
  split
  ·rename_i hx
   refine List.pairwise_cons.2 ⟨fun y hy=> ?_,B4 n h1.2⟩
   rcases(qj l n y).1 hy with hy|hy
   ·exact h1.1 y hy
   ·omega
  ·split
   ·exact h
   ·refine List.pairwise_cons.2 ⟨fun y hy=> ?_,h⟩
    rcases List.mem_cons.1 hy with hy|hy
    ·omega
    ·have:=h1.1 y hy;omega
theorem rB(op n:Int)(i:Nat):∀ (l out:List Int),VA out->VA (lY op n i l out)/\∀v,v∈lY op n i l out↔v∈out\/(v∈l/\ ¬ (op=8/\i=1/\n=v))
 |[],out,h=>⟨h,fun v=>by simp[lY]⟩
 |x::l,out,h=>by
  have hk:lY op n i (x::l) out=lY op n i l (if(op !=8||(i:Int)!=1||x !=n)=true then jL out x else out):=rfl
  rw[hk]
  by_cases hc:(op !=8||(i:Int)!=1||x !=n)=true
  ·rw[if_pos hc]
   have ih:=rB op n i l (jL out x) (B4 x h)
   refine⟨ih.1,fun v=> ?_⟩
   rw[ih.2 v,qj,List.mem_cons]
   have tR: ¬ (op=8/\i=1/\n=x):=by
    rintro⟨h1,h2,h3⟩;subst h1;subst h2;subst h3;simp at hc
   constructor
   ·rintro((h|h)|h)
    ·exact .inl h
    ·subst h;exact .inr ⟨.inl rfl,tR⟩
    ·exact .inr ⟨.inr h.1,h.2⟩
   ·rintro(h|⟨h|h,h2⟩)
    ·exact .inl (.inl h)
    ·exact .inl (.inr h)
    ·exact .inr ⟨h,h2⟩
  ·rw[if_neg hc]
   have ih:=rB op n i l out h
   refine⟨ih.1,fun v=> ?_⟩
   rw[ih.2 v,List.mem_cons]
   have tR:op=8/\i=1/\n=x:=by simp at hc;exact⟨hc.1.1,af,hc.2.symm⟩
   constructor
   ·rintro(h|h)
    ·exact .inl h
    ·exact .inr ⟨.inr h.1,h.2⟩
   ·rintro(h|⟨h|h,h2⟩)
    ·exact .inl h
    ·subst h;exact absurd tR h2
    ·exact .inr ⟨h,h2⟩
theorem jM:∀t:Tm,VA (bM t)/\∀v,v∈bM t↔DX v t=true:=by
 refine Tm.dN fun t ih=> ?_
 have hs:∀ (l:List Tm) (i:Nat) (out:List Int),(∀k∈l,k∈t.kids)->VA out->VA (iQ t.op t.n l i out)/\∀v,v∈iQ t.op t.n l i out↔v∈out\/qi v t.op t.n l i=true:=by
  intro l
  induction l with
  |nil=>intro i out _ h;exact⟨h,fun v=>by simp[iQ,qi]⟩
  |cons k l uS=>
   intro i out hk h
   have h1:=ih k (hk k aL)
   have h2:=rB t.op t.n i (bM k) out h
   have h3:=uS (i+1) _ (fun x hx=>hk x nQ) h2.1
   refine⟨h3.1,fun v=> ?_⟩
   show v∈iQ t.op t.n l (i+1) (lY t.op t.n i (bM k) out)↔_
   rw[h3.2 v,h2.2 v,h1.2 v,qi]
   simp only[Bool.or_eq_true,Bool.and_eq_true,Bool.not_eq_true',Bool.and_eq_false_iff,beq_eq_false_iff_ne,ne_eq,not_and]
   have:(∀ (_:t.op=8) (_:i=1), ¬t.n=v)↔((¬t.op=8\/ ¬i=1)\/ ¬t.n=v):=by
    constructor
    ·intro h
     by_cases c1:t.op=8
     ·by_cases c2:i=1
      ·exact .inr (h c1 c2)
      ·exact .inl (.inr c2)
     ·exact .inl (.inl c1)
    ·rintro((h|h)|h) c1 c2
     ·exact absurd c1 h
     ·exact absurd c2 h
     ·exact h
   rw[this]
   constructor
   ·rintro((h|h)|h)
    ·exact .inl h
    ·exact .inr (.inl h)
    ·exact .inr (.inr h)
   ·rintro(h|h|h)
    ·exact .inl (.inl h)
    ·exact .inl (.inr h)
    ·exact .inr h
 by_cases h1:t.op=1
 ·rw[nh,if_pos h1]
  refine⟨aL,fun v=> ?_⟩
  rw[u4,if_pos h1]
  simp only[List.mem_singleton,beq_iff_eq]
  exact eq_comm
 ·rw[nh,if_neg h1]
  have:=hs t.kids 0 [] (fun _ h=>h) aL
  refine⟨this.1,fun v=> ?_⟩
  rw[this.2 v,u4,if_neg h1]
  simp
theorem u7:∀ (l:List Int) (n:Int),(jL l n).length<=l.length+1
 |[],n=>by simp[jL]
 |x::l,n=>by
  have:=u7 l n
  simp only[jL]
  split
  ·simp;omega
  ·split<;>simp
theorem ni(op n:Int)(i:Nat):∀ (l out:List Int),(lY op n i l out).length<=out.length+l.length
 |[],out=>by simp[lY]
 |x::l,out=>by
  have hk:lY op n i (x::l) out=lY op n i l (if(op !=8||(i:Int)!=1||x !=n)=true then jL out x else out):=rfl
  rw[hk]
  have h1:=u7 out x
  split
  ·have:=ni op n i l (jL out x);simp;omega
  ·have:=ni op n i l out;simp;omega
theorem lp:∀t:Tm,(bM t).length<=t.sz:=by
 refine Tm.dN fun t ih=> ?_
 have hs:∀ (l:List Tm) (i:Nat) (out:List Int),(∀k∈l,k∈t.kids)->(iQ t.op t.n l i out).length<=out.length+gA l:=by
  intro l
  induction l with
  |nil=>intro i out _;simp[iQ]
  |cons k l uS=>
   intro i out hk
   have h1:=ih k (hk k aL)
   have h2:=ni t.op t.n i (bM k) out
   have h3:=uS (i+1) (lY t.op t.n i (bM k) out) (fun x hx=>hk x nQ)
   rw[gx]
   show(iQ t.op t.n l (i+1) (lY t.op t.n i (bM k) out)).length<=_
   omega
 rw[nh,Tm.iR]
 split
 ·simp
 ·have:=hs t.kids 0 [] (fun _ h=>h);simp at this;omega
theorem Og(t:Tm):nI [t]=fu t:=by simp[nI]
theorem B5(op v:Int)(x:Tm)(l:List Tm):jQ op v (x::l)=jQ op v l+if x.op=op/\x.n=v then 1 else 0:=by
 unfold jQ
 rw[List.countP_cons]
 by_cases h:x.op=op/\x.n=v
 ·simp[h]
 ·rw[if_neg h,if_neg (by simpa using h)]
theorem DZ(op v:Int)(a b:List Tm):jQ op v (a++b)=jQ op v a+jQ op v b:=by unfold jQ;rw[List.countP_append]
theorem kx(op v:Int)(l:List Tm):0<jQ op v l↔∃x∈l,x.op=op/\x.n=v:=by
 unfold jQ
 rw[List.countP_pos_iff]
 simp
mutual
def dz:Tm->List Int
 | .mk op n kids=>(if op=8 then [n]else [])++cI kids
def cI:List Tm->List Int
 |[]=>[]
 |k::l=>dz k++cI l
end
theorem rC(t:Tm):dz t=(if t.op=8 then [t.n]else [])++cI t.kids:=by cases t;rw[dz];rfl
theorem nj:∀ (t:Tm) (v:Int),(dz t).count v=jQ 8 v (fu t):=by
 refine Tm.dN fun t ih v=> ?_
 have key:∀l:List Tm,(∀k∈l,k∈t.kids)->(cI l).count v=jQ 8 v (l.flatMap fu):=by
  intro l
  induction l with
  |nil=>intro _;rfl
  |cons k l uS=>
   intro hk
   rw[cI,List.count_append,ih k (hk k (by simp)) v,uS (fun x hx=>hk x (by simp[hx])),List.flatMap_cons,DZ]
 rw[rC,List.count_append,key t.kids (fun _ h=>h),iJ,B5]
 by_cases h:t.op=8
 ·by_cases h2:t.n=v
  ·simp[h,h2];omega
  ·simp[h,h2]
 ·simp[h]
theorem xB(t:Tm)(v:Int):v∈dz t↔0<jQ 8 v (fu t):=by
 rw[<- nj,List.count_pos_iff]
mutual
def ei(n:Int):Tm->Bool
 | .mk op k kids=>iC n kids&&((op !=1&&op !=8)||decide (k<n))
def iC(n:Int):List Tm->Bool
 |[]=>true
 |k::l=>ei n k&&iC n l
end
theorem u9(n:Int)(t:Tm):ei n t=(iC n t.kids&&((t.op !=1&&t.op !=8)||decide (t.n<n))):=by cases t;rw[ei];rfl
theorem D0(n:Int):∀t:Tm,ei n t=true↔∀x∈fu t,x.op=1\/x.op=8->x.n<n:=by
 refine Tm.dN fun t ih=> ?_
 have key:∀l:List Tm,(∀k∈l,k∈t.kids)->(iC n l=true↔∀x∈l.flatMap fu,x.op=1\/x.op=8->x.n<n):=by
  intro l
  induction l with
  |nil=>intro _;simp[iC]
  |cons k l uS=>
   intro hk
   rw[iC,Bool.and_eq_true,ih k (hk k (by simp)),uS (fun x hx=>hk x (by simp[hx])),List.flatMap_cons]
   simp only[List.mem_append]
   constructor
   ·rintro⟨a,b⟩ x (h|h)
    ·exact a x h
    ·exact b x h
   ·intro a
    exact⟨fun x h=>a x (.inl h),fun x h=>a x (.inr h)⟩
 rw[u9,Bool.and_eq_true,key t.kids (fun _ h=>h),iJ]
 simp only[List.mem_cons,Bool.or_eq_true,Bool.and_eq_true,bne_iff_ne,decide_eq_true_eq]
 constructor
 ·rintro⟨a,b⟩ x (h|h) h2
  ·subst h
   rcases b with⟨b1,b2⟩|b
   ·rcases h2 with e|e
    ·exact absurd e b1
    ·exact absurd e b2
   ·exact b
  ·exact a x h h2
 ·intro a
  refine⟨fun x h=>a x (.inr h), ?_⟩
  by_cases h:t.op=1\/t.op=8
  ·exact .inr (a t (.inl rfl) h)
  ·exact .inl ⟨fun e=>h (.inl e),fun e=>h (.inr e)⟩
theorem D1(n:Int)(t:Tm):ei n t=true↔(∀v,0<jQ 1 v (fu t)->v<n)/\∀v,0<jQ 8 v (fu t)->v<n:=by
 rw[D0]
 constructor
 ·intro a
  refine⟨fun v h=> ?_,fun v h=> ?_⟩<;>(obtain⟨x,h1,h2,h3⟩:=(kx _ _ _).1 h;rw[<- h3];exact a x h1 (by simp[h2]))
 ·rintro⟨a,b⟩ x h (h2|h2)
  ·exact a _ ((kx _ _ _).2 ⟨x,h,h2,rfl⟩)
  ·exact b _ ((kx _ _ _).2 ⟨x,h,h2,rfl⟩)
def rD(t:Tm)(ay:List Int):Bool:=(dz t).all fun v=> !(decide (1<((dz t).count v:Int))||ay.contains v||(bM t).contains v)
theorem HC(t:Tm)(ay:List Int):rD t ay=true↔∀v,0<jQ 8 v (fu t)->jQ 8 v (fu t)<=1/\v∉ay/\DX v t=false:=by
 unfold rD
 rw[List.all_eq_true]
 have hv:∀v,(bM t).contains v=DX v t:=fun v=>by
  rw[Bool.eq_iff_iff,List.contains_iff_mem,(jM t).2 v]
 constructor
 ·intro a v h
  have:=a v ((xB t v).2 h)
  rw[nj,hv]at this
  simp at this
  exact⟨af,this.1.2,this.2⟩
 ·intro a v h
  obtain⟨a1,a2,a3⟩:=a v ((xB t v).1 h)
  rw[nj,hv,a3]
  simp
  exact⟨af,a2⟩
theorem nJ:∀ (W A:List Int),A.Nodup->(∀v,v∈A↔v∈W)->A.length<=W.length/\(A.length=W.length↔W.Nodup)
 |[],A,hA,h=>by
  have:A=[]:=List.eq_nil_iff_forall_not_mem.2 fun v hv=>by simpa using(h v).1 hv
  subst this;simp
 |x::W,A,hA,h=>by
  by_cases hx:x∈W
  ·have ih:=(nJ W A hA fun v=>by
    rw[h v,List.mem_cons]
    exact⟨fun e=>e.elim (fun e=>e ▸ hx) id, .inr⟩).1
   refine⟨by simp;omega, ?_⟩
   rw[List.length_cons,List.nodup_cons]
   exact⟨fun e=>af,fun e=>absurd hx e.1⟩
  ·have hxA:x∈A:=(h x).2 aL
   have ih:=nJ W (A.erase x) (hA.erase x) fun v=>by
    rw[hA.mem_erase_iff,h v,List.mem_cons]
    constructor
    ·rintro⟨a,b|b⟩
     ·exact absurd b a
     ·exact b
    ·intro a
     exact⟨fun e=>hx (e ▸ a), .inr a⟩
   have hl:(A.erase x).length=A.length - 1:=List.length_erase_of_mem hxA
   have hp:0<A.length:=List.length_pos_of_mem hxA
   rw[hl]at ih
   rw[List.length_cons,List.nodup_cons]
   refine⟨af, ?_⟩
   constructor
   ·intro e;exact⟨hx,ih.2.1 af⟩
   ·intro e
    have:=ih.2.2 e.2
    omega
def Ln(t:Tm):List Int:=((fu t).filter fun x=>x.op==1).map Tm.n
theorem va(l:List Tm)(v:Int):((l.filter fun x=>x.op==1).map Tm.n).count v=jQ 1 v l:=by
 induction l with
 |nil=>rfl
 |cons x l ih=>
  rw[B5, <- ih]
  by_cases h:x.op=1
  ·have h':(x.op==1)=true:=by simpa using h
   have e:(x::l).filter (fun x=>x.op==1)=x::l.filter (fun x=>x.op==1):=by rw[List.filter_cons,if_pos h']
   rw[e,List.map_cons,List.count_cons]
   by_cases h2:x.n=v
   ·simp[h,h2]
   ·simp[h2]
  ·have h': ¬ (x.op==1)=true:=by simpa using h
   have e:(x::l).filter (fun x=>x.op==1)=l.filter (fun x=>x.op==1):=by rw[List.filter_cons,if_neg h']
   rw[e]
   simp[h]
structure xC (t:Tm):Prop where
 once:(Ln t).Nodup
 free:∀v,DX v t=true↔v∈Ln t
theorem sv(t:Tm):(bM t).Nodup:=(jM t).1.imp fun {a b} h=>af
theorem VB{t:Tm}(h:xC t):(bM t).length=(Ln t).length:=
 ((nJ (Ln t) (bM t) (sv t) fun v=>by rw[(jM t).2 v,h.free v]).2).2 h.once
def D2(l:List Tm):Bool:=(l.map fun t=>(bM t).length).sum==(bM (.mk 0 0 l)).length
theorem B6(l:List Tm)(v:Int):DX v (.mk 0 0 l)=true↔∃t∈l,DX v t=true:=by
 have key:∀ (l:List Tm) (i:Nat),qi v 0 0 l i=l.any (DX v):=by
  intro l
  induction l with
  |nil=>intro i;rfl
  |cons k l ih=>intro i;simp[qi,ih]
 have e:DX v (.mk 0 0 l)=qi v 0 0 l 0:=rfl
 rw[e,key,List.any_eq_true]
theorem FO(l:List Tm)(h:∀t∈l,xC t):D2 l=true↔∀v,jQ 1 v (nI l)<=1:=by
 have hW:((nI l).filter fun x=>x.op==1).map Tm.n=l.flatMap Ln:=by
  unfold nI
  induction l with
  |nil=>rfl
  |cons t l ih=>
   rw[List.flatMap_cons,List.filter_append,List.map_append,List.flatMap_cons,ih (fun x hx=>h x (by simp[hx]))];rfl
 have hlen:(l.map fun t=>(bM t).length).sum=(l.flatMap Ln).length:=by
  clear hW
  induction l with
  |nil=>rfl
  |cons t l ih=>
   rw[List.map_cons,List.sum_cons,List.flatMap_cons,List.length_append,ih (fun x hx=>h x (by simp[hx])),VB (h t (by simp))]
 have hm:∀v,v∈bM (.mk 0 0 l)↔v∈l.flatMap Ln:=fun v=>by
  rw[(jM _).2 v,B6,List.mem_flatMap]
  constructor
  ·rintro⟨t,h1,h2⟩;exact⟨t,h1,((h t h1).free v).1 h2⟩
  ·rintro⟨t,h1,h2⟩;exact⟨t,h1,((h t h1).free v).2 h2⟩
 have hn:=(nJ (l.flatMap Ln) (bM (.mk 0 0 l)) (sv _) hm).2
 unfold D2
 rw[hlen,beq_iff_eq,eq_comm,hn,List.nodup_iff_count]
 constructor
 ·intro a v;rw[<- va,hW];exact a v
 ·intro a v;rw[<- hW,va];exact a v
def lZ(t:Tm):Bool:=t.op==1||t.op==3
mutual
def gy:Tm->Bool
 | .mk op n kids=>tn kids&&lZ (.mk op n kids)
def tn:List Tm->Bool
 |[]=>true
 |k::l=>gy k&&tn l
end
theorem xD(t:Tm):gy t=(t.kids.all gy&&lZ t):=by
 have:∀l:List Tm,tn l=l.all gy:=fun l=>by
  induction l with
  |nil=>rfl
  |cons k l ih=>simp[tn,ih]
 cases t;simp only[gy,this,Tm.kids]
mutual
def fR:Tm->List Int->List Int×Bool
 | .mk op n kids,b=>if op=1 then(jL b n, !b.contains n)else fG kids b
def fG:List Tm->List Int->List Int×Bool
 |[],b=>(b,true)
 |k::l,b=>if(fR k b).2=true then fG l (fR k b).1 else((fR k b).1,false)
end
theorem qk(t:Tm)(b:List Int):fR t b=if t.op=1 then(jL b t.n, !b.contains t.n)else fG t.kids b:=by cases t;rfl
theorem HD:∀ (t:Tm) (b:List Int),(fR t b).1.length<=b.length+t.sz:=by
 refine Tm.dN fun t ih b=> ?_
 have hs:∀ (l:List Tm) (b:List Int),(∀k∈l,k∈t.kids)->(fG l b).1.length<=b.length+gA l:=by
  intro l
  induction l with
  |nil=>intro b _;simp[fG,gA]
  |cons k l uS=>
   intro b hk
   have h1:=ih k (hk k aL) b
   have h2:=uS (fR k b).1 (fun x hx=>hk x nQ)
   rw[gx]
   simp only[fG]
   split
   ·omega
   ·simp only;omega
 rw[qk,Tm.iR]
 have h3:=u7 b t.n
 have h4:=hs t.kids b (fun _ h=>h)
 split
 ·simp only;omega
 ·omega
def sV(l:List (Tm×Int)):List Int:=(l.filter fun x=>x.1.op==1).map fun x=>x.1.n
theorem vc(a b:List (Tm×Int)):sV (a++b)=sV a++sV b:=by simp[sV]
theorem ve(x:Tm×Int)(l:List (Tm×Int)):sV (x::l)=(if x.1.op=1 then x.1.n::sV l else sV l):=by
 unfold sV
 by_cases h:x.1.op=1
 ·simp[h]
 ·simp[h]
theorem zm{l:List Tm}{d v:Int}:v∈sV (l.flatMap fun k=>pre k d)↔∃k∈l,v∈sV (pre k d):=by
 induction l with
 |nil=>simp[sV]
 |cons k l ih=>simp[vc,ih]
theorem FP{v op n:Int}(h:op≠8):∀ (l:List Tm) (i:Nat),qi v op n l i=l.any (DX v)
 |[],i=>rfl
 |k::l,i=>by
  have:(op==8)=false:=by simpa using h
  simp[qi,FP h l,this]
theorem VC:∀ (t:Tm) (d:Int),(∀x∈pre t d,x.1.op≠8)->(∀x∈pre t d,x.1.op=1->x.1.kids=[])->∀v,DX v t=true↔v∈sV (pre t d):=by
 refine Tm.dN fun t ih d h8 h1 v=> ?_
 have hp:=jC t d
 have ht8:t.op≠8:=h8 (t,d) (by rw[hp];simp)
 have jT:∀k∈t.kids,∀x∈pre k (d+1),x∈pre t d:=fun k hk x hx=>by rw[hp];exact List.mem_cons_of_mem _ (List.mem_flatMap.2 ⟨k,hk,hx⟩)
 rw[hp,ve,u4]
 by_cases h:t.op=1
 ·have hk:t.kids=[]:=h1 (t,d) (by rw[hp];simp) h
  simp only[if_pos h,hk,List.flatMap_nil]
  show(t.n==v)=true↔v∈[t.n]
  rw[beq_iff_eq,List.mem_singleton];exact eq_comm
 ·simp only[if_neg h]
  rw[FP ht8,zm,List.any_eq_true]
  constructor
  ·rintro⟨k,hk,hv⟩
   exact⟨k,hk,(ih k hk (d+1) (fun x hx=>h8 x (jT k hk x hx)) (fun x hx=>h1 x (jT k hk x hx)) v).1 hv⟩
  ·rintro⟨k,hk,hv⟩
   exact⟨k,hk,(ih k hk (d+1) (fun x hx=>h8 x (jT k hk x hx)) (fun x hx=>h1 x (jT k hk x hx)) v).2 hv⟩
theorem ql{s:bE}{t:Tm}(h:fg s t=true):∀x∈pre t 1,bt s x.1=true:=by
 simp only[fg,Bool.and_eq_true,u0 s t 1,List.all_eq_true]at h
 exact h.2
theorem B7{s:bE}{t:Tm}(h:bt s t=true)(h1:t.op=1):t.kids=[]:=by
 simp[bt,h1]at h
 exact h.1
theorem vf:∀ (L:List (Tm×Int)) (l:List Int) (b:Bool),(aq (xm pJ ll) (l,b) L).2=true↔(∀x∈L,lZ x.1=true)/\(sV L).Nodup/\∀v∈sV L,v∉l
 |[],l,b=>by simp[aq,sV]
 |x::L,l,b=>by
  have e1:∀c,sU l x=c->xm pJ ll (l,b) x=((if c=true then l else if x.1.op=1 then zh l x.1.n else l, !c), !c):=fun c hc=>by
   show((if sU l x=true then l else if x.1.op=1 then zh l x.1.n else l, !sU l x),(pJ (if sU l x=true then l else if x.1.op=1 then zh l x.1.n else l, !sU l x)).isNone)=_
   rw[hc];cases c<;>rfl
  rw[aq,ve]
  cases hb:sU l x with
  |true=>
   rw[e1 _ hb]
   simp only[Bool.not_true,Bool.false_eq_true,if_false,false_iff,not_and]
   intro hs hn hv
   have hsx:=hs x aL
   simp only[sU,lZ,Bool.or_eq_true,Bool.and_eq_true,bne_iff_ne,beq_iff_eq,ne_eq]at hb hsx
   rcases hb with⟨h1,h2⟩|⟨h1,h2⟩
   ·rcases hsx with h|h
    ·exact h1 h
    ·exact h2 h
   ·rw[if_pos h1]at hv
    exact hv x.1.n aL tA
  |false=>
   rw[e1 _ hb]
   simp only[Bool.not_false,if_true,Bool.false_eq_true,if_false]
   rw[vf L]
   simp only[sU,Bool.or_eq_false_iff,Bool.and_eq_false_iff,bne_eq_false_iff_eq,beq_eq_false_iff_ne,ne_eq]at hb
   have hsx:lZ x.1=true:=by simp only[lZ,Bool.or_eq_true,beq_iff_eq];exact hb.1
   by_cases h1:x.1.op=1
   ·have vH:x.1.n∉l:=by
     rcases hb.2 with h|h
     ·exact absurd h1 h
     ·intro hm;rw[<- List.contains_iff_mem]at hm;rw[h]at hm;cases hm
    rw[if_pos h1,if_pos h1]
    simp only[List.mem_cons,forall_eq_or_imp,hsx,true_and,List.nodup_cons,Lc,not_or]
    constructor
    ·rintro⟨a1,a2,a3⟩
     exact⟨a1,⟨fun hm=>(a3 _ hm).2 rfl,a2⟩,vH,fun v hv=>(a3 v hv).1⟩
    ·rintro⟨a1,⟨a2,a3⟩,a4,a5⟩
     exact⟨a1,a3,fun v hv=>⟨a5 v hv,fun e=>a2 (e ▸ hv)⟩⟩
   ·rw[if_neg h1,if_neg h1]
    simp only[List.mem_cons,forall_eq_or_imp,hsx,true_and]
theorem HE:∀ (t:Tm) (d:Int),(∀x∈pre t d,x.1.op=1->x.1.kids=[])->∀b:List Int,((fR t b).2=true↔(sV (pre t d)).Nodup/\∀v∈sV (pre t d),v∉b)/\((fR t b).2=true->∀v,v∈(fR t b).1↔v∈b\/v∈sV (pre t d)):=by
 refine Tm.dN fun t ih d h1 b=> ?_
 have hp:=jC t d
 have jT:∀k∈t.kids,∀x∈pre k (d+1),x∈pre t d:=fun k hk x hx=>by rw[hp];exact List.mem_cons_of_mem _ (List.mem_flatMap.2 ⟨k,hk,hx⟩)
 have hs:∀ (l:List Tm) (b:List Int),(∀k∈l,k∈t.kids)->((fG l b).2=true↔(sV (l.flatMap fun k=>pre k (d+1))).Nodup/\∀v∈sV (l.flatMap fun k=>pre k (d+1)),v∉b)/\((fG l b).2=true->∀v,v∈(fG l b).1↔v∈b\/v∈sV (l.flatMap fun k=>pre k (d+1))):=by
  intro l
  induction l with
  |nil=>intro b _;simp[fG,sV]
  |cons k l uS=>
   intro b hk
   obtain⟨k1,k2⟩:=ih k (hk k aL) (d+1) (fun x hx=>h1 x (jT k (hk k aL) x hx)) b
   obtain⟨l1,l2⟩:=uS (fR k b).1 (fun x hx=>hk x nQ)
   simp only[fG,List.flatMap_cons,vc,List.nodup_append,List.mem_append]
   by_cases hc:(fR k b).2=true
   ·rw[if_pos hc]
    have hm:=k2 hc
    obtain⟨c1,c2⟩:=k1.1 hc
    constructor
    ·rw[l1]
     constructor
     ·rintro⟨a1,a2⟩
      refine⟨⟨c1,a1,fun x hx y hy e=>a2 y hy ((hm y).2 (.inr (e ▸ hx)))⟩, ?_⟩
      rintro v (hv|hv)
      ·exact c2 v hv
      ·exact fun hb=>a2 v hv ((hm v).2 (.inl hb))
     ·rintro⟨⟨a1,a2,a3⟩,a4⟩
      refine⟨a2,fun v hv M0=> ?_⟩
      rcases(hm v).1 M0 with h|h
      ·exact a4 v (.inr hv) h
      ·exact a3 v h v hv rfl
    ·intro h v
     rw[l2 h v,hm v]
     constructor
     ·rintro((h|h)|h)
      ·exact .inl h
      ·exact .inr (.inl h)
      ·exact .inr (.inr h)
     ·rintro(h|h|h)
      ·exact .inl (.inl h)
      ·exact .inl (.inr h)
      ·exact .inr h
   ·rw[if_neg hc]
    simp only[Bool.false_eq_true,false_iff,false_implies,and_true,not_and]
    rintro⟨a1,a2,a3⟩ a4
    exact hc (k1.2 ⟨a1,fun v hv=>a4 v (.inl hv)⟩)
 rw[qk,hp,ve]
 by_cases h:t.op=1
 ·have hk:t.kids=[]:=h1 (t,d) (by rw[hp];simp) h
  simp only[if_pos h,hk,List.flatMap_nil]
  simp only[sV,List.filter_nil,List.map_nil,List.nodup_cons,List.not_mem_nil,not_false_eq_true,List.nodup_nil,and_self,true_and,List.mem_singleton,forall_eq,Bool.not_eq_true',qj]
  refine⟨?_,fun _ v=>trivial⟩
  rw[Bool.eq_false_iff,ne_eq,List.contains_iff_mem]
 ·simp only[if_neg h]
  exact hs t.kids b (fun _ h=>h)
theorem HG:∀ (t:Tm) (d:Int),gy t=(pre t d).all fun x=>lZ x.1:=by
 refine Tm.dN fun t ih d=> ?_
 rw[FG lZ,xD,Bool.and_comm]
 congr 1
 exact PF
theorem Lo{s:bE}{t:Tm}(h:fg s t=true):wa t=((fR t []).2&&gy t):=by
 have h1:=(HE t 1 (fun x hx ho=>B7 (ql h x hx) ho) []).1
 rw[Bool.eq_iff_iff,Bool.and_eq_true,h1,wa,vf,HG t 1,List.all_eq_true]
 constructor
 ·rintro⟨a,b,c⟩;exact⟨⟨b,fun v _=>aL⟩,a⟩
 ·rintro⟨⟨a,b⟩,c⟩;exact⟨c,a,fun v _=>aL⟩
theorem zo:∀ (t:Tm) (d:Int),(pre t d).map (·.1)=fu t:=by
 refine Tm.dN fun t ih d=> ?_
 have key:∀l:List Tm,(∀k∈l,k∈t.kids)->((l.flatMap fun k=>pre k (d+1)).map (·.1))=l.flatMap fu:=by
  intro l
  induction l with
  |nil=>intro _;rfl
  |cons k l uS=>
   intro hk
   rw[List.flatMap_cons,List.map_append,ih k (hk k (by simp)),uS (fun x hx=>hk x (by simp[hx])),List.flatMap_cons]
 rw[jC,iJ,List.map_cons,key t.kids (fun _ h=>h)]
theorem FQ(t:Tm)(d:Int):sV (pre t d)=Ln t:=by
 unfold sV Ln
 rw[<- zo t d,List.filter_map,List.map_map]
 rfl
theorem Oh{t x:Tm}(h:x∈fu t):∃y∈pre t 1,y.1=x:=by
 rw[<- zo t 1]at h
 obtain⟨y,h1,h2⟩:=List.mem_map.1 h
 exact⟨y,h1,h2⟩
theorem D3{s:bE}{t:Tm}(h:fg s t=true)(hp:wa t=true):xC t/\∀x∈fu t,x.op≠8:=by
 rw[wa,vf]at hp
 obtain⟨a,b,_⟩:=hp
 have h8:∀y∈pre t 1,y.1.op≠8:=fun y hy e=>by
  have:=a y hy
  simp[lZ,e]at this
 refine⟨⟨by rw[<- FQ t 1];exact b,fun v=> ?_⟩,fun x hx=> ?_⟩
 ·rw[<- FQ t 1]
  exact VC t 1 h8 (fun x hx ho=>B7 (ql h x hx) ho) v
 ·obtain⟨y,h1,h2⟩:=Oh hx
  rw[<- h2];exact h8 y h1
def jN(s:bE)(r:Rl):Bool:=decide (0<=r.fn)&&(match s.bB[r.fn.toNat]? with|some f=>(r.ay.length:Int)==f.args|none=>false)&&decide (0<=r.vars)&&decide (r.vars<=20)
def fH(s:bE)(r:Rl):Bool:=(jN s r&&fg s r.rhs)&&(r.ay.all fun p=>(fg s p&&((fR p []).2&&gy p))&&ei r.vars p)&&(D2 r.ay&&ei r.vars r.rhs&&rD r.rhs (bM (.mk 0 0 r.ay)))
theorem Oi(s:bE)(r:Rl)(hs:jc s=true)(h1:(nI r.ay).length<=1000000)(h2:(nI [r.rhs]).length<=1000000):eF s r=fH s r:=by
 have Lp:∀t,eZ s [t]=fg s t:=fun t=>by unfold eZ;simp[hs,DV]
 have B8:l8 s r=true↔(jN s r=true/\(∀t∈r.ay,fg s t=true/\wa t=true))/\fg s r.rhs=true:=by
  have e:l8 s r=((jN s r&&r.ay.all (ku s))&&eZ s [r.rhs]):=rfl
  rw[e,Lp,Bool.and_eq_true,Bool.and_eq_true,List.all_eq_true]
  simp only[ku,Lp,Bool.and_eq_true]
 have mono:∀t∈r.ay,∀v,0<jQ 1 v (fu t)->0<jQ 1 v (nI r.ay):=fun t ht v h=>by
  obtain⟨x,a,b⟩:=(kx _ _ _).1 h
  exact(kx _ _ _).2 ⟨x,List.mem_flatMap.2 ⟨t,ht,a⟩,b⟩
 have split:∀v,0<jQ 1 v (nI r.ay)->∃t∈r.ay,0<jQ 1 v (fu t):=fun v h=>by
  obtain⟨x,a,b⟩:=(kx _ _ _).1 h
  obtain⟨t,c,d⟩:=List.mem_flatMap.1 a
  exact⟨t,c,(kx _ _ _).2 ⟨x,d,b⟩⟩
 have Xi:∀ (t:Tm) (v:Int),v∈Ln t↔0<jQ 1 v (fu t):=fun t v=>by rw[<- va,List.count_pos_iff];rfl
 have Lq:(∀t∈r.ay,xC t)->∀v,v∈bM (.mk 0 0 r.ay)↔0<jQ 1 v (nI r.ay):=fun h v=>by
  rw[(jM _).2 v,B6]
  constructor
  ·rintro⟨t,a,b⟩;exact mono t a v ((Xi t v).1 (((h t a).free v).1 b))
  ·intro a
   obtain⟨t,b,c⟩:=split v a
   exact⟨t,b,((h t b).free v).2 ((Xi t v).2 c)⟩
 rw[Bool.eq_iff_iff,HB s r h1 h2,B8]
 unfold fH
 simp only[Bool.and_eq_true,List.all_eq_true,D1,HC,Og]
 constructor
 ·rintro⟨⟨⟨a,p⟩,rt⟩,A,B,C,D⟩
  have aW:∀t∈r.ay,xC t:=fun t ht=>(D3 (p t ht).1 (p t ht).2).1
  refine⟨⟨⟨a,rt⟩,fun t ht=>⟨⟨(p t ht).1, ?_⟩,fun v hv=>(A v (mono t ht v hv)).2,fun v hv=> ?_⟩⟩,⟨(FO _ aW).2 fun v=> ?_,B,fun v hv=>(C v hv).2.1⟩,fun v hv=>⟨(C v hv).1, ?_, ?_⟩⟩
  ·have:=(p t ht).2
   rw[Lo (p t ht).1,Bool.and_eq_true]at this
   exact this
  ·obtain⟨x,b,c,_⟩:=(kx _ _ _).1 hv
   exact absurd c ((D3 (p t ht).1 (p t ht).2).2 x b)
  ·by_cases h:0<jQ 1 v (nI r.ay)
   ·exact(A v h).1
   ·omega
  ·rw[Lq aW v];have:=(C v hv).2.2;omega
  ·cases hf:DX v r.rhs with
   |false=>rfl
   |true=>have:=D v hf;omega
 ·rintro⟨⟨⟨a,rt⟩,p⟩,⟨l,B,B2⟩,C⟩
  have hp:∀t∈r.ay,fg s t=true/\wa t=true:=fun t ht=>⟨(p t ht).1.1,by
   rw[Lo (p t ht).1.1,Bool.and_eq_true];exact(p t ht).1.2⟩
  have aW:∀t∈r.ay,xC t:=fun t ht=>(D3 (hp t ht).1 (hp t ht).2).1
  refine⟨⟨⟨a,hp⟩,rt⟩,fun v hv=>⟨(FO _ aW).1 l v, ?_⟩,B,fun v hv=>⟨(C v hv).1,B2 v hv, ?_⟩,fun v hv=> ?_⟩
  ·obtain⟨t,b,c⟩:=split v hv
   exact(p t b).2.1 v c
  ·have:=(C v hv).2.1
   rw[Lq aW v]at this
   omega
  ·by_cases h:0<jQ 8 v (fu r.rhs)
   ·have:=(C v h).2.2
    rw[hv]at this;cases this
   ·omega
theorem tp(t:Tm):(fu t).length=t.sz:=by rw[<- zo t 1,List.length_map];rfl
theorem zp:∀ (l:List Tm) (n:Nat),(∀t∈l,t.sz<=n)->(nI l).length<=l.length*n
 |[],n,_=>by simp[nI]
 |t::l,n,h=>by
  have ih:=zp l n (fun x hx=>h x nQ)
  have e:(nI (t::l)).length=(fu t).length+(nI l).length:=by simp[nI]
  have:=h t aL
  rw[e,tp,List.length_cons,Nat.add_mul];omega
def dZ(p:Pg):Bool:=(jc p.sig&&decide (p.rules.length<=16))&&p.rules.all (fH p.sig)
def FR(p:Pg):Prop:=∀r∈p.rules,r.ay.length<=6/\(∀t∈r.ay,t.sz<=50)/\r.rhs.sz<=50
theorem Oj(p:Pg)(h:FR p):u5 p=dZ p:=by
 unfold u5 dZ
 cases hs:jc p.sig with
 |false=>simp
 |true=>
  have e:p.rules.all (eF p.sig)=p.rules.all (fH p.sig):=by
   rw[Bool.eq_iff_iff,List.all_eq_true,List.all_eq_true]
   have k:∀r∈p.rules,eF p.sig r=fH p.sig r:=fun r hr=>by
    obtain⟨a,b,c⟩:=h r hr
    refine Oi p.sig r hs ?_ ?_
    ·have:=zp r.ay 50 b
     omega
    ·have:=zp [r.rhs] 50 (fun t ht=>by simp at ht;subst ht;exact c)
     simp at this;omega
   exact⟨fun a r hr=>(k r hr) ▸ a r hr,fun a r hr=>(k r hr).symm ▸ a r hr⟩
  rw[e];simp
mutual
def jO(t:Tm):Tm->Bool
 | .mk op n kids=>gr t (.mk op n kids)||FT t kids
def FT(t:Tm):List Tm->Bool
 |[]=>false
 |k::l=>jO t k||FT t l
end
theorem xE(t:Tm):∀l:List Tm,FT t l=l.any (jO t)
 |[]=>rfl
 |k::l=>by rw[FT,xE t l];rfl
theorem FU(t p:Tm):jO t p=(gr t p||p.kids.any (jO t)):=by cases p;rw[jO,xE];rfl
def sW(t p:Tm):Int:=if gr t p=true then 1 else if p.kids.any (jO t)=true then 2 else 0
theorem Ol(t p:Tm):(sW t p !=0)=jO t p:=by
 rw[FU];unfold sW
 cases gr t p<;>cases p.kids.any (jO t)<;>rfl
theorem Lr(t p:Tm):0<=sW t p/\sW t p<=2:=by
 unfold sW;split
 ·decide
 ·split<;>decide
def nX(ay kids:List Tm)(i j:Nat):Int:=match ay[i]?,kids[j]? with
 |some a,some b=>sW b a
 |_,_=>0
def vg(ay kids:List Tm):List Int:=(List.range 16).map fun p=>nX ay kids (p/4) (p%4)
theorem Ls(ay kids:List Tm)(i j:Nat):0<=nX ay kids i j/\nX ay kids i j<=2:=by
 unfold nX;split
 ·exact Lr _ _
 ·decide
theorem B9(ay kids:List Tm):kM (vg ay kids):=by
 refine⟨by simp[vg],fun x hx=> ?_⟩
 obtain⟨p,_,rfl⟩:=List.mem_map.1 hx
 exact Ls _ _ _ _
theorem Om(ay kids:List Tm){i j:Nat}(hi:i<4)(hj:j<4):mg (vg ay kids) i j=nX ay kids i j:=by
 unfold mg vg
 exact Yq
def rE(ay kids:List Tm)(i j:Nat):Option cp:=match ay[i]?,kids[j]? with
 |some a,some b=>if gr b a=true then some ⟨i,j,false⟩else if a.kids.any (jO b)=true then some ⟨i,j,true⟩else none
 |_,_=>none
def oW(ay kids:List Tm)(i j:Nat):List cp:=(List.range j).filterMap (rE ay kids i)
def sw(ay kids:List Tm):List cp:=(List.range ay.length).flatMap fun i=>oW ay kids i kids.length
theorem VD(ay kids:List Tm)(i j:Nat):(if nX ay kids i j≠0 then some (⟨i,j,nX ay kids i j==2⟩:cp)else none)=rE ay kids i j:=by
 unfold nX rE
 cases ay[i]? with
 |none=>rfl
 |some a=>
  cases kids[j]? with
  |none=>rfl
  |some b=>
   dsimp only
   unfold sW
   by_cases h1:gr b a=true
   ·simp only[h1,if_true];rfl
   ·by_cases h2:a.kids.any (jO b)=true
    ·simp only[h1,h2,if_true,Bool.false_eq_true,if_false];rfl
    ·simp only[h1,h2,Bool.false_eq_true,if_false];rfl
theorem FV{β:Type}(f:Nat->Option β):∀n,(List.range (n*4)).filterMap f=(List.range n).flatMap fun i=>(List.range 4).filterMap fun j=>f (i*4+j)
 |0=>rfl
 |n+1=>by
  rw[Nat.add_mul,Nat.one_mul,List.range_add,List.filterMap_append,FV f n,List.range_succ (n:=n),List.flatMap_append,List.filterMap_map]
  simp only[List.flatMap_cons,List.flatMap_nil,List.append_nil,Function.comp_def]
theorem Lt{β:Type}(f:Nat->Option β)(k:Nat)(h:∀j,k<=j->f j=none):∀n,k<=n->(List.range n).filterMap f=(List.range k).filterMap f
 |0,hk=>by rw[show k=0 by omega]
 |n+1,hk=>by
  rcases Nat.eq_or_lt_of_le hk with e|e
  ·rw[e]
  ·rw[List.range_succ,List.filterMap_append,Lt f k h n (by omega)]
   simp[h n (by omega)]
theorem Ca{β:Type}(f:Nat->List β)(k:Nat)(h:∀j,k<=j->f j=[]):∀n,k<=n->(List.range n).flatMap f=(List.range k).flatMap f
 |0,hk=>by rw[show k=0 by omega]
 |n+1,hk=>by
  rcases Nat.eq_or_lt_of_le hk with e|e
  ·rw[e]
  ·rw[List.range_succ,List.flatMap_append,Ca f k h n (by omega)]
   simp[h n (by omega)]
theorem Cb(ay kids:List Tm)(hp:ay.length<=4)(hk:kids.length<=4):cL (vg ay kids) 16=sw ay kids:=by
 unfold cL
 rw[show(16:Nat)=4*4 from rfl,FV]
 have e:∀i∈List.range 4,((List.range 4).filterMap fun j=>if(vg ay kids).getD (i*4+j) 0≠0 then some (⟨((i*4+j)/4:Nat),((i*4+j)%4:Nat),(vg ay kids).getD (i*4+j) 0==2⟩:cp)else none)=oW ay kids i kids.length:=by
  intro i hi
  have hi:i<4:=by simpa using hi
  unfold oW
  rw[<- Lt (rE ay kids i) kids.length (fun j hj=>by unfold rE;rw[List.getElem?_eq_none hj];cases ay[i]? <;>rfl) 4 hk]
  refine ux fun j hj=> ?_
  have hj:j<4:=by simpa using hj
  rw[show(i*4+j)/4=i by omega,show(i*4+j)%4=j by omega, <- VD]
  have:=Om ay kids hi hj
  unfold mg at this
  rw[this]
 unfold sw
 rw[<- Ca (fun i=>oW ay kids i kids.length) ay.length (fun i hi=>by
  unfold oW
  have:∀j,rE ay kids i j=none:=fun j=>by unfold rE;rw[List.getElem?_eq_none hi]
  rw[List.filterMap_eq_nil_iff];exact fun j _=>this j) 4 hp]
 unfold List.flatMap
 rw[List.map_congr_left e]
structure Cl where
 aek:Int
 fr:Int
 to:Int
 path:List Int
 bare:Bool
 On:List cp
@[reducible] def Cl.d (c:Cl):D:= .agg [.i c.aek, .i c.fr, .i c.to, .sl (c.path.map .i), .bool c.bare, .sl (c.On.map cp.d)]
theorem Cl.Bp (a b c:Int)(d:List Int)(e:Bool)(f:List cp):(Cl.mk a b c d e f).d= .agg [.i a, .i b, .i c, .sl (d.map .i), .bool e, .sl (f.map cp.d)]:=rfl
def gY(op:Int)(b:Bool):Bool:=b&&op !=3&&op !=5
structure Sp where
 t:Tm
 path:List Int
 bare:Bool
mutual
def j5:Tm->List Int->Bool->List Sp
 | .mk op n kids,q,b=>⟨.mk op n kids,q,b⟩::gZ kids 0 q (gY op b)
def gZ:List Tm->Int->List Int->Bool->List Sp
 |[],_,_,_=>[]
 |k::l,i,q,b=>j5 k (q++[i]) b++gZ l (i+1) q b
end
theorem D4(t:Tm)(q:List Int)(b:Bool):j5 t q b=⟨t,q,b⟩::gZ t.kids 0 q (gY t.op b):=by cases t;rw[j5];rfl
theorem nk:∀ (l l':List Tm) (i:Int) (q:List Int) (b:Bool),gZ (l++l') i q b=gZ l i q b++gZ l' (i+l.length) q b
 |[],l',i,q,b=>by simp[gZ]
 |k::l,l',i,q,b=>by
  rw[List.cons_append,gZ,gZ,nk l l',List.append_assoc,List.length_cons]
  congr 3
  push_cast;omega
def tw(ps:List Int)(n:Int)(r:Rl)(x:Sp):List Cl:=
 if x.t.op=4 then [⟨n,r.fn,x.t.n,x.path,x.bare,sw r.ay x.t.kids⟩]else if x.t.op=6 then ps.map fun to=>⟨n,r.fn,to,x.path,x.bare,[]⟩else []
def Xj(ps:List Int)(n:Int)(r:Rl):List Cl:=(j5 r.rhs [] true).flatMap (tw ps n r)
def je(t:Tm):List Int:=((fu t).filter (fun x=>x.op==5)).map Tm.n
def c8(p:Pg):List Int:=((List.range p.sig.bB.length).map fun n:Nat=>(n:Int)).filter fun n=>(p.rules.flatMap fun r=>je r.rhs).contains n
def jX(p:Pg)(ps:List Int)(k:Nat):List Cl:=(List.range k).flatMap fun n:Nat=>match p.rules[n]? with
 |some r=>Xj ps n r
 |none=>[]
def kL(p:Pg):List Cl:=jX p (c8 p) p.rules.length
theorem rF(p:Pg)(ps:List Int){k:Nat}{r:Rl}(h:p.rules[k]? =some r):jX p ps (k+1)=jX p ps k++Xj ps k r:=by
 unfold jX
 rw[List.range_succ,List.flatMap_append]
 simp[h]
mutual
def HH(ps:List Int)(n:Int)(r:Rl):Tm->List Int->Bool->List Cl
 | .mk op m kids,q,b=>tw ps n r ⟨.mk op m kids,q,b⟩++mf ps n r kids 0 q (gY op b)
def mf(ps:List Int)(n:Int)(r:Rl):List Tm->Int->List Int->Bool->List Cl
 |[],_,_,_=>[]
 |k::l,i,q,b=>HH ps n r k (q++[i]) b++mf ps n r l (i+1) q b
end
theorem lq(ps:List Int)(n:Int)(r:Rl):∀ (l:List Tm),(∀k∈l,∀q b,HH ps n r k q b=(j5 k q b).flatMap (tw ps n r))->∀i q b,mf ps n r l i q b=(gZ l i q b).flatMap (tw ps n r)
 |[],_,i,q,b=>by simp[mf,gZ]
 |k::l,h,i,q,b=>by
  rw[mf,gZ,List.flatMap_append,h k (by simp),lq ps n r l (fun k hk=>h k (by simp[hk]))]
theorem qm(ps:List Int)(n:Int)(r:Rl):∀ (t:Tm) (q:List Int) (b:Bool),HH ps n r t q b=(j5 t q b).flatMap (tw ps n r):=by
 refine Tm.ind fun op m kids ih q b=> ?_
 rw[HH,j5,List.flatMap_cons,lq ps n r kids (fun k hk=>ih k hk)]
theorem Lu(ps:List Int)(n:Int)(r:Rl)(t:Tm)(q:List Int)(b:Bool):HH ps n r t q b=tw ps n r ⟨t,q,b⟩++mf ps n r t.kids 0 q (gY t.op b):=by cases t;rw[HH];rfl
theorem sx(ps:List Int)(n:Int)(r:Rl)(l l':List Tm)(i:Int)(q:List Int)(b:Bool):mf ps n r (l++l') i q b=mf ps n r l i q b++mf ps n r l' (i+l.length) q b:=by
 rw[lq _ _ _ _ (fun k _=>qm ps n r k),lq _ _ _ _ (fun k _=>qm ps n r k),lq _ _ _ _ (fun k _=>qm ps n r k),nk,List.flatMap_append]
theorem VE(ps:List Int)(n:Int)(r:Rl):HH ps n r r.rhs [] true=Xj ps n r:=qm ps n r r.rhs [] true
theorem Cc:∀ {a b:List Int},a.Pairwise (· <·)->b.Pairwise (· <·)->(∀x,x∈a↔x∈b)->a=b
 |[],[],_,_,_=>rfl
 |[],y::b,_,_,h=>absurd ((h y).2 aL) aL
 |x::a,[],_,_,h=>absurd ((h x).1 aL) aL
 |x::a,y::b,ha,hb,h=>by
  rw[List.pairwise_cons]at ha hb
  have e:x=y:=by
   have h1:=(h x).1 aL
   have h2:=(h y).2 aL
   rcases List.mem_cons.1 h1 with g|g
   ·exact g
   ·rcases List.mem_cons.1 h2 with g'|g'
    ·exact g'.symm
    ·have:=hb.1 x g;have:=ha.1 y g';omega
  subst e
  congr 1
  refine Cc ha.2 hb.2 fun z=> ?_
  have:=h z
  simp only[List.mem_cons]at this
  constructor
  ·intro hz
   rcases this.1 (.inr hz)with g|g
   ·subst g;exact absurd (ha.1 z hz) af
   ·exact g
  ·intro hz
   rcases this.2 (.inr hz)with g|g
   ·subst g;exact absurd (hb.1 z hz) af
   ·exact g
end Go.Proofs.YtnkamdiiakdkgaaGreat
section
namespace Go.Proofs.YtnkamdiiakdkgaaGreat
open Go.Sort Go.RowKit
def Cd(P:Program)(g:FuncId):Prop:=∀ (de off cap:Nat) (zs:List Int) (w:World),Holds (Value.int .i64) w de off zs.toArray->de<w.heap.size->zs.length<4611686018427387904->
    Calls P g #[.slice (some ⟨de,off,none⟩) zs.length cap] w fun e w'=>
     e= .returned (.tuple #[])/\∃n os,w'=grow (putRow (Value.int .i64) (Sort.ahead w n) de off (zs.mergeSort fun x y=>decide (x<=y)).toArray) os
def dR(l:List Int):List Int:=l.mergeSort fun x y=>decide (x<=y)
theorem qn{B:Nat->Prop}{w:World}:∀ (zs:List Int) (xs:List Value),fw B w 1 (zs.map (D.int .i64)) xs↔xs=zs.map (Value.int .i64):=by
 have hd:∀ (zs:List Int) (evs:List Value),D.aD B w (zs.map (D.int .i64)) evs↔evs=zs.map (Value.int .i64):=by
  intro zs
  induction zs with
  |nil=>intro evs;simp[D.aD]
  |cons z zs ih=>
   intro evs
   simp only[List.map_cons,D.aD]
   constructor
   ·rintro⟨v,vs,rfl,h1,h2⟩
    rw[(ih vs).1 h2]
    simp only[D.den]at h1
    rw[h1]
   ·intro h
    exact⟨_,_,h,rfl,(ih _).2 rfl⟩
 have hf:∀zs:List Int,(zs.map (Value.int .i64)).flatMap (·.cells.toList)=zs.map (Value.int .i64):=by
  intro zs
  induction zs with
  |nil=>rfl
  |cons z zs ih=>simp only[List.map_cons,List.flatMap_cons,ih];rfl
 intro zs xs
 constructor
 ·rintro⟨evs,h1,h2,h3⟩
  rw[h1,(hd zs evs).1 h3,hf]
 ·intro h
  subst h
  exact⟨_,(hf zs).symm,fun ev db=>by
   obtain⟨z,_,rfl⟩:=List.mem_map.1 db
   rfl,(hd zs _).2 rfl⟩
theorem Lv{P:Program}{g:FuncId}(hE:Enters P g)(hS:Cd P g){o:Nat->ab}{nx id ep:Nat}{ty:TypeId}{zs:List Int}(ho:o id= .arr ep ty 1 (zs.map (D.int .i64)))
 (hn:∀p cap w,Calls P g #[.slice p 0 cap] w fun e w'=>e= .returned (.tuple #[])/\w'=w)
 (hlen:zs.length<4611686018427387904) {K X:V->(Nat->ab)->Nat->Prop} (hK:K (.bU []) (aA o id (.arr ep ty 1 ((dR zs).map (D.int .i64)))) nx):cX P g [.osl id ep] o nx K X:=by
 refine⟨hE,fun M φ w vals hH hd=> ?_⟩
 obtain⟨val,us,kP,⟨v0,v1,v2⟩,dW⟩:=hd
 have dW:us=[]:=dW
 subst dW
 have eJ:val=φ id:=(v2 ep (by show(o id).bY=some ep;rw[ho];rfl)).2 rfl
 have Xi:vals=#[φ id]:=by rw[<- eJ];exact Array.ext' (by simpa using kP)
 subst Xi
 have DE:=hH.ok id
 unfold aN at DE
 rw[show(hp o nx).o id= .arr ep ty 1 (zs.map (D.int .i64))from ho]at DE
 obtain⟨_,xs,df,bG⟩:=DE
 have C0:=(qn zs xs).1 bG
 subst C0
 simp only[List.length_map]at df
 obtain⟨hl,Jp|⟨b,cap,cur,dT,_,hg,iq,xZ,hcs,Lw⟩⟩:=df
 ·obtain⟨h1,h2⟩:=Jp
  have hz:zs=[]:=List.length_eq_zero_iff.1 h2
  subst hz
  rw[h1]
  refine(hn none 0 w).mono ?_
  rintro e w' ⟨rfl,rfl⟩
  have AM:aA o id (.arr ep ty 1 ((dR []).map (D.int .i64)))=o:=by
   funext j
   by_cases e:j=id
   ·subst e;rw[ad,ho,show dR []=[] by simp[dR]]
   ·rw[ag _ _ _ _ e]
  rw[AM]at hK
  exact⟨φ,o,nx, .bU [],hH,Trans.refl _ _ _,⟨#[],rfl,rfl⟩,hK⟩
 ·rw[dT]
  have hb:b<w.heap.size:=(Array.getElem?_eq_some_iff.1 hg).1
  have Pf:∀j,j<zs.length->cur[j]? =some (.int .i64 zs[j]!):=by
   intro j hj
   have h1:(cur.toList.take (zs.length*1))[j]? =(zs.map (Value.int .i64))[j]? :=by rw[Lw]
   rw[List.getElem?_take_of_lt (by omega),List.getElem?_map,List.getElem?_eq_getElem hj]at h1
   simp only[Option.map_some]at h1
   rw[getElem!_pos zs j hj]
   simpa using h1
  refine(hS b 0 cap zs w (fun j hj=> ?_) hb hlen).mono ?_
  ·simp only[List.size_toArray]at hj
   refine⟨?_, ?_⟩
   ·exact YC
   ·unfold World.frozen?
    simp[hg]
  rintro e w' ⟨rfl,n,os,rfl⟩
  have QE:(dR zs).length=zs.length:=List.length_mergeSort zs
  have uQ:∀k,k<w.heap.size->(grow (putRow (Value.int .i64) (Sort.ahead w n) b 0 (dR zs).toArray) os).heap[k]? =(w.heap.modify b (onCells (putCells (Value.int .i64) 0 (dR zs).toArray)))[k]? :=by
   intro k hk
   unfold grow putRow mapBlock Sort.ahead
   simp only
   rw[Array.getElem?_append_left (by simpa using hk)]
  have rX:dB (· =b) w (grow (putRow (Value.int .i64) (Sort.ahead w n) b 0 (dR zs).toArray) os):=by
   refine⟨rfl,rfl,rfl, ?_,fun k hk j9=> ?_⟩
   ·unfold grow putRow mapBlock Sort.ahead;simp
   ·rw[uQ k hk,Array.getElem?_modify,if_neg (fun e=>j9 e.symm)]
  have cB:((hp o nx).o id).live=true:=by show(o id).live=true;rw[ho];rfl
  have yD:de (φ id)=some b:=by rw[dT];rfl
  have Jm:(grow (putRow (Value.int .i64) (Sort.ahead w n) b 0 (dR zs).toArray) os).heap[b]? =some (.cells (putCells (Value.int .i64) 0 (dR zs).toArray cur) ty (0,0)):=by
   rw[uQ b hb,Array.getElem?_modify,if_pos rfl,hg];rfl
  have gK:(hp o nx).put [(id, .arr ep ty 1 ((dR zs).map (D.int .i64)))]=hp (aA o id (.arr ep ty 1 ((dR zs).map (D.int .i64)))) nx:=by
   have dW:id<nx:=v1
   simp only[Hp.put,hp]
   congr 1
   funext j
   simp only[List.map_cons,List.map_nil,List.mem_singleton,eq_iff_iff]
   exact⟨fun h=>h.elim (fun h=>h) (fun e=>e ▸ dW), .inl⟩
  have tO:aN M φ ((hp o nx).put [(id, .arr ep ty 1 ((dR zs).map (D.int .i64)))]) (grow (putRow (Value.int .i64) (Sort.ahead w n) b 0 (dR zs).toArray) os) id:=by
   unfold aN
   rw[show((hp o nx).put [(id, .arr ep ty 1 ((dR zs).map (D.int .i64)))]).o id= .arr ep ty 1 ((dR zs).map (D.int .i64)) by simp]
   refine⟨bF,(dR zs).map (Value.int .i64), ?_,(qn _ _).2 rfl⟩
   simp only[List.length_map,QE]
   refine⟨by simp[QE], .inr ⟨b,cap,_,dT,Nat.zero_le _,Jm,iq,xZ, ?_, ?_⟩⟩
   ·unfold putCells;simpa using hcs
   ·apply List.ext_getElem?
    intro j
    by_cases hj:j<zs.length
    ·rw[List.getElem?_take_of_lt (by omega),List.getElem?_map,List.getElem?_eq_getElem (l:=dR zs) (by omega)]
     have S2:j<cur.size:=af
     unfold putCells
     simp only[Array.getElem?_toList,Array.getElem?_mapIdx,Option.map_some]
     rw[Array.getElem?_eq_getElem S2]
     simp only[Option.map_some,Nat.zero_le,true_and,Nat.zero_add,List.size_toArray,Nat.sub_zero]
     rw[if_pos (by omega)]
     rw[getElem!_pos _ j (by simp;omega)]
     simp
    ·rw[List.getElem?_eq_none (by rw[List.length_take,Nat.mul_one];exact Nat.le_trans (Nat.min_le_left _ _) (Nat.not_lt.1 hj)),List.getElem?_eq_none (by rw[List.length_map,QE];exact Nat.not_lt.1 hj)]
  have RF:=gI hH (id:=id) v1 cB yD rX (.arr ep ty 1 ((dR zs).map (D.int .i64))) Ej Ej tO
  have QF:=ez (φ:=φ) (H:=hp o nx) (id:=id) v1 cB yD rX (.arr ep ty 1 ((dR zs).map (D.int .i64))) Ej Ej
  rw[gK]at RF QF
  exact⟨φ,_,nx, .bU [],RF,QF,⟨#[],rfl,rfl⟩,hK⟩
end Go.Proofs.YtnkamdiiakdkgaaGreat
end
section
namespace Go.Proofs.YtnkamdiiakdkgaaGreat
open Go.Sort Go.RowKit
def nm(P:Program)(g:FuncId):Prop:=∀ (de off cap:Nat) (zs:List Int) (w:World),Holds (Value.int .i64) w de off zs.toArray->zs.length<=9223372036854775807->zs.length<=cap->
    Calls P g #[.slice (some ⟨de,off,none⟩) zs.length cap] w fun e w'=>
     e= .returned (.slice (some ⟨de,off,none⟩) (Lib.compact zs).length cap)/\∃q,w'=putRow (Value.int .i64) (Sort.ahead w q) de off (Lib.compact zs++List.replicate (zs.length - (Lib.compact zs).length) 0).toArray
theorem Lx(zs:List Int):(Lib.compact zs).length<=zs.length:=by
 unfold Lib.compact Lib.compactUpTo
 rw[List.length_map]
 have:=List.length_filter_le (Lib.keeps zs.toArray) (List.range zs.length)
 simpa using this
theorem zq{P:Program}{g:FuncId}(hS:nm P g)(hn:∀p cap w,Calls P g #[.slice p 0 cap] w fun e w'=>e= .returned (.slice p 0 cap)/\w'=w){M:Nat->Prop}{φ:Place}{H:Hp}{w:World}(hH:ax M φ H w)
 {id ep:Nat} {ty:TypeId} {zs:List Int} (v1:H.us id) (ho:H.o id= .arr ep ty 1 (zs.map (D.int .i64))) (hlen:zs.length<=9223372036854775807):
 Calls P g #[φ id] w fun e w'=>∃val aE,e= .returned val/\ax M aE (H.put [(id, .arr (ep+1) ty 1 ((Lib.compact zs).map (D.int .i64)))]) w'/\Trans φ H w aE (H.put [(id, .arr (ep+1) ty 1 ((Lib.compact zs).map (D.int .i64)))]) w'/\
  V.den (ak M aE (H.put [(id, .arr (ep+1) ty 1 ((Lib.compact zs).map (D.int .i64)))])) aE (H.put [(id, .arr (ep+1) ty 1 ((Lib.compact zs).map (D.int .i64)))]) w' (.osl id (ep+1)) val:=by
 have DE:=hH.ok id
 unfold aN at DE
 rw[ho]at DE
 obtain⟨_,xs,df,bG⟩:=DE
 have C0:=(qn zs xs).1 bG
 subst C0
 simp only[List.length_map]at df
 obtain⟨hl,Jp|⟨b,cap,cur,dT,_,hg,iq,xZ,hcs,Lw⟩⟩:=df
 ·obtain⟨h1,h2⟩:=Jp
  have hz:zs=[]:=List.length_eq_zero_iff.1 h2
  subst hz
  rw[h1]
  refine(hn none 0 w).mono ?_
  rintro e w' ⟨rfl,rfl⟩
  have Ly:w'.ownsRow 0 ty 1 (.slice none 0 0) (([]:List Int).map (D.int .i64)).length (([]:List Int).map (Value.int .i64)):=⟨rfl, .inl ⟨rfl,rfl⟩⟩
  have VF:=mF (M:=M) hH (id:=id) (ep:=ep) v1 ho (val:= .slice none 0 0) (es':=([]:List Int).map (D.int .i64)) (dB.refl (fun _=>False) w') (fun _ h=>h.elim) (fun b h=>by simp[de]at h) Ly ((qn _ _).2 rfl)
  exact⟨_,_,rfl,VF.1,VF.2.1,VF.2.2⟩
 ·rw[dT]
  have hb:b<w.heap.size:=(Array.getElem?_eq_some_iff.1 hg).1
  have Pf:∀j,j<zs.length->cur[j]? =some (.int .i64 zs[j]!):=by
   intro j hj
   have h1:(cur.toList.take (zs.length*1))[j]? =(zs.map (Value.int .i64))[j]? :=by rw[Lw]
   rw[List.getElem?_take_of_lt (by omega),List.getElem?_map,List.getElem?_eq_getElem hj]at h1
   simp only[Option.map_some]at h1
   rw[getElem!_pos zs j hj]
   simpa using h1
  refine(hS b 0 cap zs w (fun j hj=> ?_) hlen af).mono ?_
  ·simp only[List.size_toArray]at hj
   refine⟨?_, ?_⟩
   ·exact YC
   ·unfold World.frozen?
    simp[hg]
  rintro e w' ⟨rfl,n,rfl⟩
  have kV:=Lx zs
  generalize yh:Lib.compact zs=rs at kV|-
  have uQ:∀k:Nat,(putRow (Value.int .i64) (Sort.ahead w n) b 0 (rs++List.replicate (zs.length - rs.length) 0).toArray).heap[k]? =(w.heap.modify b (onCells (putCells (Value.int .i64) 0 (rs++List.replicate (zs.length - rs.length) 0).toArray)))[k]? :=by
   intro k
   unfold putRow mapBlock Sort.ahead
   rfl
  have rX:dB (· =b) w (putRow (Value.int .i64) (Sort.ahead w n) b 0 (rs++List.replicate (zs.length - rs.length) 0).toArray):=by
   refine⟨rfl,rfl,rfl, ?_,fun k hk j9=> ?_⟩
   ·unfold putRow mapBlock Sort.ahead;simp
   ·rw[uQ k,Array.getElem?_modify,if_neg (fun e=>j9 e.symm)]
  have yD:de (φ id)=some b:=by rw[dT];rfl
  have Jm:(putRow (Value.int .i64) (Sort.ahead w n) b 0 (rs++List.replicate (zs.length - rs.length) 0).toArray).heap[b]? =some (.cells (putCells (Value.int .i64) 0 (rs++List.replicate (zs.length - rs.length) 0).toArray cur) ty (0,0)):=by
   rw[uQ b,Array.getElem?_modify,if_pos rfl,hg];rfl
  have Ly:(putRow (Value.int .i64) (Sort.ahead w n) b 0 (rs++List.replicate (zs.length - rs.length) 0).toArray).ownsRow 0 ty 1 (.slice (some ⟨b,0,none⟩) rs.length cap) (rs.map (D.int .i64)).length (rs.map (Value.int .i64)):=by
   rw[List.length_map]
   refine⟨aL, .inr ⟨b,cap,_,rfl,Nat.zero_le _,Jm,af,xZ, ?_, ?_⟩⟩
   ·unfold putCells;simpa using hcs
   ·apply List.ext_getElem?
    intro j
    by_cases hj:j<rs.length
    ·rw[List.getElem?_take_of_lt (by omega),List.getElem?_map,List.getElem?_eq_getElem (l:=rs) (by omega)]
     have S2:j<cur.size:=af
     unfold putCells
     simp only[Array.getElem?_toList,Array.getElem?_mapIdx,Option.map_some]
     rw[Array.getElem?_eq_getElem S2]
     simp only[Option.map_some,Nat.zero_le,true_and,Nat.zero_add,List.size_toArray,Nat.sub_zero]
     rw[if_pos (by rw[List.length_append];omega)]
     rw[getElem!_pos _ j (by simp;omega)]
     simp[List.getElem_append_left hj]
    ·rw[List.getElem?_eq_none (by rw[List.length_take,Nat.mul_one];exact Nat.le_trans (Nat.min_le_left _ _) (Nat.not_lt.1 hj)),List.getElem?_eq_none (by rw[List.length_map];exact Nat.not_lt.1 hj)]
  have VF:=mF (M:=M) hH (id:=id) (ep:=ep) v1 ho (val:= .slice (some ⟨b,0,none⟩) rs.length cap) (es':=rs.map (D.int .i64)) rX (fun c hc=>hc ▸ yD) (fun c hc=> .inl (by simp[de]at hc;rw[<- hc];exact yD)) Ly ((qn _ _).2 rfl)
  exact⟨_,_,rfl,VF.1,VF.2.1,VF.2.2⟩
theorem HI{P:Program}{g:FuncId}(hE:Enters P g)(hS:nm P g){o:Nat->ab}{fr id ep:Nat}{ty:TypeId}{zs:List Int}(ho:o id= .arr ep ty 1 (zs.map (D.int .i64)))
 (hn:∀p cap w,Calls P g #[.slice p 0 cap] w fun e w'=>e= .returned (.slice p 0 cap)/\w'=w)
 (hlen:zs.length<=9223372036854775807):yw P g [.osl id ep] [id] o fr (.osl id (ep+1)) [(id, .arr (ep+1) ty 1 ((Lib.compact zs).map (D.int .i64)))]:=by
 refine⟨hE,fun o' us M φ w vals hag cN hH hd=> ?_⟩
 obtain⟨ha,hu⟩:=hag id aL
 have wm:o' id= .arr ep ty 1 (zs.map (D.int .i64)):=ha.trans ho
 obtain⟨val,us',kP,⟨v0,v1,v2⟩,dW⟩:=hd
 have dW:us'=[]:=dW
 subst dW
 have eJ:val=φ id:=(v2 ep (by show(o' id).bY=some ep;rw[wm];rfl)).2 rfl
 have Xi:vals=#[φ id]:=by rw[<- eJ];exact Array.ext' (by simpa using kP)
 subst Xi
 refine(zq hS hn hH hu wm hlen).mono ?_
 rintro e w' ⟨val,aE,rfl,h1,h2,h3⟩
 obtain⟨k1,k2⟩:=iZ h1 (us':=fun j=>us j\/j=fr) (fun j hj=>by
  simp only[Hp.put]at hj
  rcases hj with hj|hj
  ·exact .inl hj
  ·simp at hj;subst hj;exact .inl hu)
 have gK:(⟨((⟨o',us⟩:Hp).put [(id, .arr (ep+1) ty 1 ((Lib.compact zs).map (D.int .i64)))]).o,fun j=>us j\/j=fr⟩:Hp)=⟨put o' [(id, .arr (ep+1) ty 1 ((Lib.compact zs).map (D.int .i64)))],fun j=>us j\/j=fr⟩:=rfl
 rw[gK]at k1 k2
 exact⟨aE,k1,h2.trans k2,_,rfl,V.aM k2 _ _ h3⟩
end Go.Proofs.YtnkamdiiakdkgaaGreat
end
