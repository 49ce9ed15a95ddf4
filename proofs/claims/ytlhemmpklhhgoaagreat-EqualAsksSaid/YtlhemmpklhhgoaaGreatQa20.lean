/-
  EqualAsks: at every call the law answers true, and leaves all memory as it was. Conditions: none.
-/
import Derived.OpenShut
import Derived.Carry
import Derived.Handed
import Derived.JoinedOf
import Derived.ProofKit
import Derived.Test.YtlhemmpklhhgoaaGreatRows
import Derived.Test.YtlhemmpklhhgoaaGreatQa19
set_option linter.unusedSimpArgs false
set_option linter.unusedVariables false
set_option maxHeartbeats 4000000
namespace Go.Proofs.YtlhemmpklhhgoaaGreat
theorem nj(l:List jD)(hl:l.length<=1000000):aV Tryz.prog 73 [.sl (l.map jD.d), .sl (l.map jD.d)] (.ret [.bool true]):=by
 refine aV.aJ mix Yz aG ?_
 rw[c73]
 refine zR ?_
 refine aF (fun k:Nat=>⟨bf [.d (.sl (l.map jD.d)), .d (.sl (l.map jD.d)), .ab, .ab, .ab, .d (.i k)],fun _=> .no,0⟩)
  (fun k=>k<=l.length) (fun k=>l.length - k) 0 (Nat.zero_le _) (bM.d0 _ ?_) (fun k hk=> ?_)
 ·exact dU
 refine Vo ?_
 refine au (fun h2=> ?_) (fun h2=> ?_)
 ·simp at h2
  obtain⟨x,hx⟩:=aD h2
  refine Qs hx ?_
  refine aL (bc rfl) ?_
  refine bJ ?_
  refine aq (k+1) h2 ae (bM.d0 _ ?_)
  exact dU
 ·exact Qt
theorem wg(l:List Nt)(hl:l.length<=1000000)(hf:∀x∈l,x.a.fits/\x.b.fits):aV Tryz.prog 74 [.sl (l.map Nt.d), .sl (l.map Nt.d)] (.ret [.bool true]):=by
 refine aV.aJ mix YA aG ?_
 rw[c74]
 refine zR ?_
 refine aF (fun k:Nat=>⟨bf [.d (.sl (l.map Nt.d)), .d (.sl (l.map Nt.d)), .ab, .ab, .ab, .d (.i k)],fun _=> .no,0⟩)
  (fun k=>k<=l.length) (fun k=>l.length - k) 0 (Nat.zero_le _) (bM.d0 _ ?_) (fun k hk=> ?_)
 ·exact dU
 refine Vo ?_
 refine au (fun h2=> ?_) (fun h2=> ?_)
 ·simp at h2
  obtain⟨x,hx⟩:=aD h2
  have Hc:=hf x (List.mem_of_getElem? hx)
  have s1:=rD x.a Hc.1 x.a Hc.1
  have s2:=rD x.b Hc.2 x.b Hc.2
  rw[ju]at s1 s2
  refine Qs hx ?_
  refine aX s1 rfl ?_
  refine rT hx ?_
  refine aX s2 rfl ?_
  exact Wv
 ·exact Qt
theorem KL(o:Nat->aa)(mj:Bool)(a b:Int):xW Tryz.prog o 77 mj (.d (.agg [.i a, .i b])) (.d (.agg [.i a, .i b]))=some (.d (.bool true)):=by
 have h1:bC Tryz.prog 77=some (.struct [(3,0),(3,1)]):=ai
 have h3:bC Tryz.prog 3=some .int:=ai
 have h5:db Tryz.prog 3=some false:=ai
 have h6:n6 Tryz.prog 100 77 (.agg [.i a, .i b]) (.agg [.i a, .i b])=some true:=by simp[n6,h1,h3,h5,wE,Ls,ij,CI]
 obtain⟨fs,h⟩:∃fs,Tryz.prog.underlying 77=some (.struct fs):=structOf ai
 have h2:Tryz.prog.eqGuardType Tryz.prog.depth 77=false:=ai
 unfold xW
 rw[h]
 dsimp only
 rw[if_pos h2,h6]
 simp
theorem vw(s:gG)(h1:s.sig.cons.length<=1000000)(h2:s.sig.cC.length<=1000000)(h3:s.binds.length<=1000000)(h4:s.aR.length<=1000000)(h5:s.marks.length<=1000000)
 (h6:∀x∈s.binds,x.term.fits) (h7:∀x∈s.aR,x.a.fits/\x.b.fits):aV Tryz.prog 21 [s.d,s.d] (.ret [.bool true]):=by
 refine aV.aJ mix Yr aG ?_
 rw[c21]
 refine zR ?_
 refine aF (fun k:Nat=>⟨bf [.ab, .ab, .ptr 0 0, .ptr 1 0, .ab, .d (.i k)],aA (aA (fun _=> .no) 0 (.row s.row)) 1 (.row s.row),2⟩)
  (fun k=>k<=s.marks.length) (fun k=>s.marks.length - k) 0 (Nat.zero_le _) ?_ (fun k hk=> ?_)
 ·exact Lq
 simp+contextual (disch:=first|omega|simp only[go_sem,false_implies]) only[go_sem,wrap64,if_pos,List.length_map,beq_self_eq_true,Bool.and_self]
 refine au (fun g2=> ?_) (fun g2=> ?_)
 ·simp at g2
  obtain⟨x,hx⟩:=aD g2
  obtain⟨m1,m2⟩:=x
  simp+contextual (disch:=first|omega|simp only[go_sem,false_implies]) only[go_sem,wrap64,if_pos,hx,List.length_map,bne_self_eq_false,KL]
  refine aL (bc rfl) ?_
  refine bJ ?_
  refine aq (k+1) g2 ae ?_
  exact Lq
 ·refine Lc ?_
  refine aj (nj s.sig.cons h1) rfl ?_
  refine Lc ?_
  refine aj (nj s.sig.cC h2) rfl ?_
  refine Lc ?_
  refine aj (vn s.binds h3 h6) rfl ?_
  refine Lc ?_
  refine aj (wg s.aR h4 h7) rfl ?_
  exact Qt
end Go.Proofs.YtlhemmpklhhgoaaGreat
set_option maxHeartbeats 4000000
namespace Go.Proofs.YtlhemmpklhhgoaaGreat
theorem kQ.all {sg:aB}{l:List TB}(h:kQ sg l):∀p∈ah l,sX (ah l) p.2/\p.2.fits:=fun p hp=>by
 obtain⟨x,hx,rfl⟩:=dg hp
 exact⟨h.Qe x hx,Tm.cI x.term (by have:=(cV (h.ok x hx).2).2.1;omega)⟩
theorem zA{sg:aB}{l:List TB}(h:kQ sg l)(s':gG){n:Nt}(na:br sg n.a=true)(nb:br sg n.b=true){bk:Bool}(we:bk=true↔DU (ah l) n):
 aV Tryz.prog 66 [s'.kd (ah l),n.d] (.ret [.bool bk])/\aV Tryz.prog 71 [.sl (l.map TB.d),n.d] (.ret [.bool bk]):=by
 obtain⟨l',ρ,R,hS,Ez⟩:=nJ h.keys h.ok h.Ha
 obtain⟨a1,a2,_⟩:=cV na
 obtain⟨b1,b2,_⟩:=cV nb
 have za:=lO hS (fun p hp=>(h.all p hp).1) a1
 have zb:=lO hS (fun p hp=>(h.all p hp).1) b1
 have fa:=sF hS _ n.a a1 (Nat.le_refl _)
 have fb:=sF hS _ n.b b1 (Nat.le_refl _)
 have fa':=gD fa (Nat.le_max_left _ (R+3+(aZ (ah l') n.b).sz))
 have fb':=gD fb (Nat.le_max_right (R+3+(aZ (ah l') n.a).sz) _)
 obtain⟨f1,u1⟩:=vi hS a1
 obtain⟨f2,u2⟩:=vi hS b1
 have e:ir (aZ (ah l') n.a) (aZ (ah l') n.b)=bk:=by
  rw[Bool.eq_iff_iff,we,fT]
  exact(zp hS a1 b1).symm
 have hl:=h.len
 rw[<- e]
 exact⟨xK s' (fun p hp=>(h.all p hp).2) n (Tm.cI _ ae) (Tm.cI _ ae) fa' fb' (Tm.cI _ ae) (Tm.cI _ ae) ae ae,
  sH ae (fun p hp=>(h.all p hp).2) (Tm.cI _ ae) (Tm.cI _ ae) u1 u2 ae ae⟩
theorem Cg{s:gG}(h:ck s){a c:Tm}(ha:br s.sig a=true)(hc:br s.sig c=true){f:Nat}{b':List (Int×Tm)}(hf:iQ true f a c (ah s.binds)=some (0,b')):∃E,b'=ah (s.binds++E)/\kQ s.sig (s.binds++E):=by
 obtain⟨g,e,b1,h1,h2⟩:=FB h ha hc
 have e1:=gE hf (Nat.le_max_left f g)
 rw[gE h1 (Nat.le_max_right f g)]at e1
 injection e1 with e1
 injection e1 with e1 e2
 subst e2
 rcases h2 with⟨_,E,h3,h4⟩|h|h
 ·exact⟨E,h3,h4⟩
 ·exact absurd (e1.symm.trans h) cE
 ·exact absurd (e1.symm.trans h) cE
def dG(e:Int)(bk:Bool):Int:=if e=0 then(if bk=true then 5 else 0)else e
theorem Hi{s:gG}(h:ck s){a c:Tm}(ha:br s.sig a=true)(hc:br s.sig c=true){f:Nat}{e:Int}{b':List (Int×Tm)}(hf:iQ true f a c (ah s.binds)=some (e,b')){bk:Nt->Bool}(we:e=0->∀n∈s.aR,(bk n=true↔DU b' n)):
 aV Tryz.prog 70 [s.d,a.d,c.d] (.ret [.sl (if dG e (s.aR.any bk)=0 then(wc b').map TB.d else []), .i (dG e (s.aR.any bk))]):=by
 have hI:Inv s.sig true (ah s.binds):=⟨fun p hp=>by obtain⟨x,hx,rfl⟩:=dg hp;exact h.lZ.ok x hx,fun _ p hp=>by obtain⟨x,hx,rfl⟩:=dg hp;exact h.lZ.Qe x hx⟩
 have hA:o7 s.sig (ah s.binds):=⟨h.lZ.keys,fun p hp=>by obtain⟨x,hx,rfl⟩:=dg hp;exact⟨(h.lZ.ok x hx).1,jx (h.lZ.ok x hx).2⟩,h.lZ.Ha⟩
 have vE:=h.Hd
 refine aV.aJ mix acj aG ?_
 rw[c70]
 refine bJ ?_
 refine ba (vu f a c s.binds e b' hf hA hI ha hc) ?_
 by_cases h0:e=0
 ·subst h0
  obtain⟨E,rfl,hB⟩:=Cg h ha hc hf
  rw[nN]
  refine bJ ?_
  refine aF (fun k:Nat=>⟨bf [.ab, .ab, .ab, .ptr 0 0, .ab, .ab, .ab, .ab, .d (.sl ((s.binds++E).map TB.d)), .d (.i 0), .d (.i k)],aA (fun _=> .no) 0 (.row s.row),1⟩)
   (fun k=>k<=s.aR.length/\(s.aR.drop k).any bk=s.aR.any bk) (fun k=>s.aR.length - k) 0 ⟨Nat.zero_le _,rfl⟩ ?_ (fun k hk=> ?_)
  ·refine bM.bH _ ae ae dt (fun j hj=> ?_) ?_
   ·have hj:j<1:=hj
    have:j=0:=ae
    subst this
    exact dH
   ·exact dU
  obtain⟨hk,hd⟩:=hk
  by_cases h6:k<s.aR.length
  ·have Hf:decide ((k:Int)<(s.aR.length:Int))=true:=by simp;omega
   refine rT Hf ?_
   obtain⟨n,hn⟩:=aD h6
   have vC:=List.mem_of_getElem? hn
   have Ke:s.aR.drop k=n::s.aR.drop (k+1):=by
    obtain⟨i1,i2⟩:=List.getElem?_eq_some_iff.1 hn
    exact zU
   rw[Ke,List.any_cons]at hd
   refine zS hn Hf ?_
   refine aj (zA hB s (h.aR n vC).1 (h.aR n vC).2.1 (we rfl n vC)).2 rfl ?_
   cases hbn:bk n with
   |true=>
    rw[hbn,Bool.true_or]at hd
    rw[<- hd]
    simp+contextual (disch:=first|omega|simp only[go_sem,false_implies]) only[go_sem,wrap64,if_pos,dG]
   |false=>
    rw[hbn,Bool.false_or]at hd
    refine bJ ?_
    refine aq (k+1) ⟨h6,hd⟩ ae (bM.bH _ ae ae dt (fun j hj=>rfl) ?_)
    exact dU
  ·have Hf:decide ((k:Int)<(s.aR.length:Int))=false:=by simp;omega
   have h6:k=s.aR.length:=ae
   subst h6
   rw[List.drop_length]at hd
   rw[<- hd]
   simp+contextual (disch:=first|omega|simp only[go_sem,false_implies]) only[go_sem,wrap64,if_pos,List.length_map,Hf,dG,List.any_nil]
 ·have e0:dG e (s.aR.any bk)=e:=by unfold dG;rw[if_neg h0]
  have e1:(e==0)=false:=by rw[beq_eq_false_iff_ne];exact h0
  rw[e0,if_neg h0]
  refine pk e1 ?_
  refine aF (fun k:Nat=>⟨bf [.ab, .ab, .ab, .ptr 0 0, .ab, .ab, .ab, .ab, .d (.sl []), .d (.i e), .d (.i k)],aA (fun _=> .no) 0 (.row s.row),1⟩)
   (fun k=>k=0) (fun k=>0) 0 rfl ?_ (fun k hk=> ?_)
  ·refine bM.bH _ ae ae dt (fun j hj=> ?_) ?_
   ·have hj:j<1:=hj
    have:j=0:=ae
    subst this
    exact dH
   ·exact dU
  subst hk
  by_cases h6:0<s.aR.length
  ·have Hf:decide ((0:Int)<(s.aR.length:Int))=true:=decide_eq_true ae
   exact HI e1 Hf
  ·have Hf:decide ((0:Int)<(s.aR.length:Int))=false:=decide_eq_false ae
   exact HI e1 Hf
end Go.Proofs.YtlhemmpklhhgoaaGreat
set_option maxHeartbeats 4000000
namespace Go.Proofs.YtlhemmpklhhgoaaGreat
end Go.Proofs.YtlhemmpklhhgoaaGreat
set_option maxHeartbeats 8000000
namespace Go.Proofs.YtlhemmpklhhgoaaGreat
theorem Hj{s:gG}(h:ck s){a c:Tm}(ha:br s.sig a=true)(hc:br s.sig c=true){f:Nat}{b':List (Int×Tm)}(hf:iQ true f a c (ah s.binds)=some (0,b')){E:List TB}(hE:b'=ah (s.binds++E)):kQ s.sig (s.binds++E):=by
 obtain⟨E',h1,h2⟩:=Cg h ha hc hf
 have e:s.binds++E=s.binds++E':=by rw[<- nN (s.binds++E), <- hE,h1,nN]
 rw[e];exact h2
theorem KM{s:gG}(h:ck s){a c:Tm}(ha:br s.sig a=true)(hc:br s.sig c=true){f:Nat}{e:Int}{b':List (Int×Tm)}(hf:iQ true f a c (ah s.binds)=some (e,b')){bk:Nt->Bool}(we:e=0->∀n∈s.aR,(bk n=true↔DU b' n)):
 e=0->∀E,b'=ah (s.binds++E)->∀n∈s.aR,aV Tryz.prog 66 [gG.kd ⟨s.sig,s.binds++E,s.aR,s.marks⟩ b',n.d] (.ret [.bool (bk n)]):=fun h0 E hE n hn=>by
 have hB:=Hj h ha hc (h0 ▸ hf) hE
 have hk:=we h0 n hn
 subst hE
 exact(zA hB _ (h.aR n hn).1 (h.aR n hn).2.1 hk).1
end Go.Proofs.YtlhemmpklhhgoaaGreat
set_option maxHeartbeats 8000000
namespace Go.Proofs.YtlhemmpklhhgoaaGreat
section
variable {o:Nat->aa}{x m nx:Nat}{E:List TB}(lx:x<nx)(lm:m<nx)(cL:x≠m)
include lx lm cL
omit lx lm cL in
end
theorem TX{s:aB}{l:List TB}(hl:kO s l):((ah l).map (·.1)).Nodup:=by
 have e2:(ah l).map (·.1)=l.map (·.var):=by unfold ah;rw[List.map_map];rfl
 rw[e2]
 exact(List.pairwise_map.2 hl.srt).imp fun h=>ae
end Go.Proofs.YtlhemmpklhhgoaaGreat
namespace Go.Proofs.YtlhemmpklhhgoaaGreat
theorem Nh{l:List TB}(h:∀x∈l,x.term.zQ):∀p∈ah l,p.2.zQ:=fun p hp=>by
 obtain⟨x,hx,rfl⟩:=List.mem_map.1 hp
 exact h x hx
end Go.Proofs.YtlhemmpklhhgoaaGreat
set_option maxHeartbeats 8000000
namespace Go.Proofs.YtlhemmpklhhgoaaGreat
theorem TY{s:aB}{b:List (Int×Tm)}{l:List TB}{ρ:Int->Nat}{R:Nat}(h:lX s b l ρ R)(hl:kO s l)(hf:∀p∈b,sX b p.2):∀y∈l,y.term.sz<=40:=fun y hm=>by
 have h1:bL (ah l) y.var=some y.term:=(m7 (TX hl)).2 (gY hm)
 cases hx:bL b y.var with
 |none=>rw[(h.zN _).1 hx]at h1;cases h1
 |some x=>
  obtain⟨q1,q2,_⟩:=h.ok _ _ hx
  have e:y.term=aZ (ah l) x:=by rw[<- q2];simp[Lv,h1]
  rw[e]
  exact Kp h q1 (hf _ (cB hx))
theorem FH{s:aB}{b:List (Int×Tm)}{l:List TB}{ρ:Int->Nat}{R:Nat}(h:lX s b l ρ R)(hl:kO s l)(hf:∀p∈b,sX b p.2){t:Tm}(ht:br s t=true):Vs s (aZ (ah l) t)/\(aZ (ah l) t).zQ/\(aZ (ah l) t).sz<=1600:=by
 obtain⟨h1,h2,_⟩:=cV ht
 refine⟨Vs.sub hl.bd t h1,Tm.TP (Nh fun x hx=>Tm.DY _ (by have:=TY h hl hf x hx;omega)) t (zw ht), ?_⟩
 have:=lO h hf h1
 omega
end Go.Proofs.YtlhemmpklhhgoaaGreat
set_option maxHeartbeats 4000000
namespace Go.Proofs.YtlhemmpklhhgoaaGreat
theorem ck.same {s:gG}(h:s.Cp):aV Tryz.prog 21 [s.d,s.d] (.ret [.bool true]):=by
 have h3:=h.bl
 have h4:=h.nl
 have h5:=h.ml
 exact vw s h.lc h.lf ae ae ae (fun x hx=>Tm.cI _ (h.bt x hx)) (fun x hx=>⟨Tm.cI _ (h.nt x hx).1,Tm.cI _ (h.nt x hx).2⟩)
end Go.Proofs.YtlhemmpklhhgoaaGreat
set_option maxHeartbeats 8000000
namespace Go.Proofs.YtlhemmpklhhgoaaGreat
theorem zB{s:aB}{t:Tm}(h:br s t=true):t.Fin:=by
 obtain⟨_,h2,h3⟩:=cV h
 exact⟨Tm.cI t ae,ae⟩
theorem ck.fin {s:gG}(h:ck s)(hf:s.sig.Fits):s.Fin:=by
 have h1:=h.lZ.len
 have h2:=h.Hd
 have h3:=h.TH
 exact⟨hf,ae,ae,ae,fun x hx=>zB (h.lZ.ok x hx).2,fun n hn=>⟨zB (h.aR n hn).1,zB (h.aR n hn).2.1⟩⟩
theorem Hk(s:gG)(hs:s.Fits)(a c:Tm)(ha:a.fits)(hc:c.fits){sm:Bool}(ya:sm=true↔xL s):aV Tryz.prog 13 [s.d,a.d,c.d] (.ret [.bool (sm&&dS a&&dS c)]):=by
 refine aV.aJ mix abS aG ?_
 rw[c13]
 refine bJ ?_
 refine aj (D2 s hs ya) rfl ?_
 cases sm with
 |false=>exact l6
 |true=>
  refine bJ ?_
  refine aj (qj a ha) rfl ?_
  cases h1:dS a with
  |false=>exact l6
  |true=>
   refine bJ ?_
   refine aj (qj c hc) rfl ?_
   exact l6
theorem KN(s:gG)(hs:s.Fin)(a c:Tm)(ha:a.fits)(hc:c.fits){ok:Bool}(aS:ok=true↔ck s/\br s.sig a=true/\br s.sig c=true):aV Tryz.prog 17 [s.d,a.d,c.d] (.ret [.bool ok]):=by
 have no: ¬ (ck s/\br s.sig a=true/\br s.sig c=true)->ok=false:=fun h=>by
  cases ok with
  |false=>rfl
  |true=>exact absurd (aS.1 rfl) h
 obtain⟨so,lS⟩:∃so:Bool,so=true↔ck s:=by
  classical
  exact⟨decide (ck s),aG⟩
 refine aV.aJ mix abW aG ?_
 rw[c17]
 refine bJ ?_
 refine aj (vr s hs lS) rfl ?_
 cases so with
 |false=>
  rw[no fun h=>Bool.false_ne_true (lS.2 h.1)]
  exact l6
 |true=>
  have h:=lS.1 rfl
  have ea:=o8 h.sig a
  have ec:=o8 h.sig c
  refine bJ ?_
  refine aj (iZ s.sig hs.sig a ha) rfl ?_
  cases h1:(ew s.sig a&&dR a)with
  |false=>
   rw[no fun h=>by have:=h.2.1;rw[ea,h1]at this;cases this]
   exact l6
  |true=>
   refine bJ ?_
   refine aj (iZ s.sig hs.sig c hc) rfl ?_
   cases h2:(ew s.sig c&&dR c)with
   |false=>
    rw[no fun h=>by have:=h.2.2;rw[ec,h2]at this;cases this]
    exact l6
   |true=>
    rw[aS.2 ⟨h,ea.trans h1,ec.trans h2⟩]
    exact l6
end Go.Proofs.YtlhemmpklhhgoaaGreat
set_option maxHeartbeats 8000000
namespace Go.Proofs.YtlhemmpklhhgoaaGreat
theorem xN{F:Tm->Int->Option Int}{g:Tm->Tm}{d:Int}:∀ {ks:List Tm} {n r:Int},(∀k∈ks,∀m q,0<=m->F k m=some q->q=gy (g k) m d)->xH F ks n=some r->r=bQ (ks.map g) n d
 |[],n,r,_,h=>by cases h;simp[bQ]
 |k::ks,n,r,hF,h=>by
  simp only[xH]at h
  simp only[List.map_cons,bQ]
  split at h
  ·rename_i h0
   cases h
   rw[if_neg (by omega)]
  ·rename_i h0
   rw[if_pos (by omega)]
   cases e:F k n with
   |none=>rw[e]at h;cases h
   |some q=>
    rw[e]at h
    rw[<- hF k (by simp) n q (by omega) e]
    exact xN (fun y hy=>hF y mg) h
theorem Ch{s:aB}{b:List (Int×Tm)}{l:List TB}{ρ:Int->Nat}{R:Nat}(h:lX s b l ρ R):∀ (f:Nat) (t:Tm) (n:Int) (d:Nat) (r:Int),Vs s t->0<=n->o6 f b t n d=some r->r=gy (aZ (ah l) t) n d
 |0,_,_,_,_,_,_,h=>by cases h
 |f+1,t,n,d,r,ht,hn,hl=>by
  simp only[o6]at hl
  obtain⟨x,a1,a2,a3,a4,_⟩:=h.root ht
  cases ha:jG f b t with
  |none=>rw[ha]at hl;cases hl
  |some y=>
  have e1:=eK a1 (show R+2<=f+(R+2)from ae)
  rw[eK ha (show f<=f+(R+2) by omega)]at e1
  cases e1
  rw[ha]at hl
  rw[<- a3,uQ]
  cases d with
  |zero=>cases hl;rw[if_pos (by omega)]
  |succ d=>
   dsimp only at hl
   have h1:=xN (g:=aZ (ah l)) (d:=d) (fun k hk m q hm hq=>Ch h f k m d q (a2.lW hk) hm hq) hl
   have hk:(aZ (ah l) x).kids=x.kids.map (aZ (ah l)):=by
    by_cases hx:x.op=1
    ·have e:=a2.eta hx
     have hk:x.kids=[]:=by rw[e];rfl
     have hv:aZ (ah l) x=x:=by rw[iw a2 hx,show Lv (ah l) x.n= .mk 1 x.n [] by simp[Lv,(h.zN _).1 (a4 hx)]];exact e.symm
     rw[hv,hk];rfl
    ·rw[iM hx];rfl
   by_cases h0:n<1
   ·rw[if_pos (.inl h0)]
    have:n=0:=ae
    subst this
    rw[h1,lJ (by omega)]
    rfl
   ·rw[if_neg (by omega),hk,h1]
    congr 1
    omega
theorem Ni{s:aB}{b:List (Int×Tm)}{l:List TB}{ρ:Int->Nat}{R:Nat}(h:lX s b l ρ R)(hl:kO s l){t:Tm}(ht:Vs s t){f:Nat}{r:Int}(hr:o6 f b t 40 12=some r):ew s (aZ (ah l) t)=decide (0<=r):=by
 have h1:=Ch h f t 40 12 r ht cE hr
 have h2:=(Vs.sub hl.bd t ht).1
 rw[Bool.eq_iff_iff,decide_eq_true_eq,ew,Bool.and_eq_true,decide_eq_true_eq,h1]
 exact⟨fun h=>h.1,fun h=>⟨h,h2⟩⟩
theorem pn:ve.d= .agg [.i 0, .i 0, .sl []]:=rfl
theorem Nj(s:gG)(hs:s.Fin)(a:Tm)(ha:a.Fin)(h: ¬ (ck s/\br s.sig a=true)):aV Tryz.prog 38 [s.d,a.d] (.ret [ve.d, .i 2]):=by
 refine aV.aJ mix Ys aG ?_
 rw[c38]
 refine ma ?_
 refine cz (tw s hs a a ha ha _ _ dt _ _ (fun h1 h2 h3=>absurd ⟨h1,h2⟩ h) (fun _ o' nx' id m i1 i0 i2 i3 i4=> ?_))
 have e2:o' 2= .row [.d (.i 0), .d (.i 0), .aM]:=(i3 _ ae).trans dH
 simp+contextual (disch:=first|omega|simp only[go_sem,false_implies]) only[go_sem,wrap64,if_pos,Nat.add_assoc,Nat.left_eq_add,Nat.add_eq_left,Nat.add_left_cancel_iff,e2,pn]
theorem Ci(s:gG)(hs:s.Fin)(a:Tm)(ha:a.Fin)(h:ck s)(va:br s.sig a=true){l':List TB}{ρ:Int->Nat}{R:Nat}(hS:lX s.sig (ah s.binds) l' ρ R)(hl:kO s.sig l'){f:Nat}{r:Int}(hr:o6 f (ah s.binds) a 40 12=some r):
 aV Tryz.prog 38 [s.d,a.d] (.ret [(if r<0 then ve else aZ (ah l') a).d, .i (if r<0 then 3 else 0)]):=by
 have cD:∀p∈ah s.binds,sX (ah s.binds) p.2:=fun p hp=>(h.lZ.all p hp).1
 have DA:∀p∈ah s.binds,p.2.fits:=fun p hp=>(h.lZ.all p hp).2
 have oa:=FH hS hl cD va
 have fa:=sF hS _ a (cV va).1 (Nat.le_refl _)
 refine aV.aJ mix Ys aG ?_
 rw[c38]
 refine ma ?_
 refine cz (tw s hs a a ha ha _ _ dt _ _ (fun h1 h2 h3 o' nx' id i1 i2 i3 i4=> ?_) (fun hn=>absurd ⟨h,va,va⟩ hn))
 have e1:o' 1= .row a.row:=(i3 _ ae).trans dH
 have e2:o' 2= .row [.d (.i 0), .d (.i 0), .aM]:=(i3 _ ae).trans dH
 have aw:id<nx':=Good.lt i2 H9
 have w1:∀k,id≠nx'+k:=fun k=>ae
 have w2:∀k,(1:Nat)≠nx'+k:=fun k=>ae
 have w3:∀k,(2:Nat)≠nx'+k:=fun k=>ae
 have d2:(2:Nat)≠id:=fun e=>by subst e;rw[e2]at i4;cases i4
 refine Qq e1 e2 i4 w1 w2 w3 ?_
 refine aj (DO f a 40 12 r ha.fits DA ae ae hr) rfl ?_
 by_cases h0:r<0
 ·have tU:decide (r<0)=true:=decide_eq_true h0
  rw[if_pos h0,if_pos h0]
  simp+contextual (disch:=first|omega|simp only[go_sem,false_implies]) only[go_sem,wrap64,if_pos,Nat.add_assoc,Nat.left_eq_add,Nat.add_eq_left,Nat.add_left_cancel_iff,e1,e2,i4,w1,w2,w3,tU,pn]
 ·have tU:decide (r<0)=false:=decide_eq_false h0
  rw[if_neg h0,if_neg h0]
  refine Nz e1 e2 i4 w1 w2 w3 tU ?_
  refine ba (DS DA _ a _ ha.fits fa ae) ?_
  simp+contextual (disch:=first|omega|simp only[go_sem,false_implies]) only[go_sem,wrap64,if_pos,Nat.add_assoc,Nat.left_eq_add,Nat.add_eq_left,Nat.add_left_cancel_iff,e1,e2,i4,w1,w2,w3,d2]
def HE(bA:Bool)(w:Int):Int:=if bA=true then 1 else if w=0 then 3 else if w=5 then 2 else 0
def HG(bA:Bool)(w:Int):Int:=if bA=true then 0 else if w=3 then 3 else 0
theorem TZ(s:gG)(hs:s.Fin)(a c:Tm)(ha:a.Fin)(hc:c.Fin)(h: ¬ (ck s/\br s.sig a=true/\br s.sig c=true)):aV Tryz.prog 35 [s.d,a.d,c.d] (.ret [.i 0, .i 2]):=by
 refine aV.aJ mix Sr aG ?_
 rw[c35]
 refine ma ?_
 refine cz (tw s hs a c ha hc _ _ dt _ _ (fun h1 h2 h3=>absurd ⟨h1,h2,h3⟩ h) (fun _ o' nx' id m i1 i0 i2 i3 i4=> ?_))
 simp+contextual (disch:=first|omega|simp only[go_sem,false_implies]) only[go_sem,wrap64,if_pos,Nat.add_assoc,Nat.left_eq_add,Nat.add_eq_left,Nat.add_left_cancel_iff]
theorem Nk(s:gG)(hs:s.Fin)(a c:Tm)(ha:a.Fin)(hc:c.Fin)(h:ck s)(va:br s.sig a=true)(vc:br s.sig c=true){f:Nat}{e:Int}{b':List (Int×Tm)}(hf:iQ true f a c (ah s.binds)=some (e,b'))(he:e=0\/e=5\/e=3){bk:Nt->Bool}(we:e=0->∀n∈s.aR,(bk n=true↔DU b' n)){bA:Bool}(Vi:bA=true↔DU (ah s.binds) ⟨a,c⟩):
 aV Tryz.prog 35 [s.d,a.d,c.d] (.ret [.i (HE bA (dG e (s.aR.any bk))), .i (HG bA (dG e (s.aR.any bk)))]):=by
 refine aV.aJ mix Sr aG ?_
 rw[c35]
 refine ma ?_
 refine cz (tw s hs a c ha hc _ _ dt _ _ (fun h1 h2 h3 o' nx' id i1 i2 i3 i4=> ?_) (fun hn=>absurd ⟨h,va,vc⟩ hn))
 have e1:o' 1= .row a.row:=(i3 _ ae).trans dH
 have e2:o' 2= .row c.row:=(i3 _ ae).trans dH
 have aw:id<nx':=Good.lt i2 H9
 have w1:∀k,id≠nx'+k:=fun k=>ae
 have w2:∀k,(1:Nat)≠nx'+k:=fun k=>ae
 have w3:∀k,(2:Nat)≠nx'+k:=fun k=>ae
 have hg:=i2
 refine Qq e1 e2 i4 w1 w2 w3 ?_
 refine aj (zA h.lZ s (n:=⟨a,c⟩) va vc Vi).1 rfl ?_
 cases bA with
 |true=>exact HD
 |false=>
  refine Qq e1 e2 i4 w1 w2 w3 ?_
  refine cz (TW h va vc hf _ _ ?_ QA bk (KM h va vc hf we) _ _ (fun h5 o2 n2 g1 g2 g3=> ?_) (fun h0 hb o2 n2 g1 g2 g3=> ?_) (fun h0 E hE hb o2 n2 vb mid g1 g2 g3 g4 g7 g8=> ?_))
  ·exact dt
  ·have q1:dG e (s.aR.any bk)=e:=by unfold dG;rw[if_neg (by omega)]
   rw[q1]
   rcases h5 with rfl|rfl
   ·exact HD
   ·exact HD
  ·have q1:dG e (s.aR.any bk)=5:=by unfold dG;rw[if_pos h0,if_pos hb]
   rw[q1]
   exact HD
  ·have q1:dG e (s.aR.any bk)=0:=by unfold dG;rw[if_pos h0,if_neg (by rw[hb];exact Bool.false_ne_true)]
   rw[q1]
   exact HD
theorem KO{s:gG}(h:ck s){a c:Tm}(va:br s.sig a=true)(vc:br s.sig c=true){f:Nat}{e:Int}{b':List (Int×Tm)}(hf:iQ true f a c (ah s.binds)=some (e,b')){bk:Nt->Bool}(we:e=0->∀n∈s.aR,(bk n=true↔DU b' n)){bA:Bool}(Vi:bA=true↔DU (ah s.binds) ⟨a,c⟩)(hw:dG e (s.aR.any bk)=0\/dG e (s.aR.any bk)=5\/dG e (s.aR.any bk)=3):
 aV Tryz.prog 41 [s.d,a.d,c.d] (.ret [.i (HE bA (dG e (s.aR.any bk))), .i (HG bA (dG e (s.aR.any bk)))]):=by
 refine aV.aJ mix ab2 aG ?_
 rw[c41]
 refine bJ ?_
 refine aj (zA h.lZ s (n:=⟨a,c⟩) va vc Vi).2 rfl ?_
 cases bA with
 |true=>exact Lf
 |false=>
  refine bJ ?_
  refine ba (Hi h va vc hf we) ?_
  generalize dG e (s.aR.any bk)=w at hw|-
  rcases hw with rfl|rfl|rfl
  ·exact Lf
  ·exact Lf
  ·exact Lf
theorem Cj(hkn:aV Tryz.prog 14 [] (.ret [.bool true]))(s:gG)(hs:s.Fits)(a:Tm)(ha:a.fits)(c:Tm)(hc:c.fits):aV Tryz.prog 8 [s.d,a.d,c.d] (.ret [.bool true]):=by
 obtain⟨sm,ya⟩:∃sm:Bool,sm=true↔xL s:=by
  classical
  exact⟨decide (xL s),aG⟩
 refine aV.aJ mix fn8 aG ?_
 rw[c8]
 refine bJ ?_
 refine aj (Hk s hs a c ha hc ya) rfl ?_
 cases hsa:(sm&&dS a&&dS c)with
 |false=>
  exact zw9
 |true=>
  simp only[Bool.and_eq_true]at hsa
  obtain⟨⟨pg,Ct⟩,Cu⟩:=hsa
  have il:=TS hs (ya.1 pg)
  have fin:∀t:Tm,t.fits->dS t=true->t.Fin:=fun t h1 h2=>⟨h1,by have:=((uX t).1 h2).2;omega⟩
  have wB:=fin a ha Ct
  have hfc:=fin c hc Cu
  obtain⟨ok,aS⟩:∃ok:Bool,ok=true↔ck s/\br s.sig a=true/\br s.sig c=true:=by
   classical
   exact⟨decide (ck s/\br s.sig a=true/\br s.sig c=true),aG⟩
  obtain⟨so,lS⟩:∃so:Bool,so=true↔ck s:=by
   classical
   exact⟨decide (ck s),aG⟩
  have FI:=KN s il a c ha hc aS
  have aaz:=vr s il lS
  have eA:=iZ s.sig hs.sig a ha
  have z0:=rD ve NN ve NN
  rw[ju,pn]at z0
  have wk:ck s->br s.sig a=true->∃l' ρ R f r,lX s.sig (ah s.binds) l' ρ R/\kO s.sig l'/\o6 f (ah s.binds) a 40 12=some r:=fun h va=>by
   obtain⟨l',ρ,R,hS,hl⟩:=nJ h.lZ.keys h.lZ.ok h.lZ.Ha
   obtain⟨r,hr⟩:=Ac hS 12 a 40 (cV va).1
   exact⟨l',ρ,R,_,r,hS,hl,hr⟩
  refine bJ ?_
  cases ok with
  |false=>
   have hn: ¬ (ck s/\br s.sig a=true/\br s.sig c=true):=fun h=>Bool.false_ne_true (aS.2 h)
   refine ba (TZ s il a c wB hfc hn) ?_
   refine bJ ?_
   by_cases rm:ck s/\br s.sig a=true
   ·obtain⟨l',ρ,R,f,r,hS,hl,hr⟩:=wk rm.1 rm.2
    have hv:(ew s.sig a&&dR a)=true:=(o8 rm.1.sig a).symm.trans rm.2
    have acL:so=true:=lS.2 rm.1
    subst acL
    rw[hv]at eA
    refine ba (Ci s il a wB rm.1 rm.2 hS hl hr) ?_
    refine bJ ?_
    refine aj FI rfl ?_
    refine bJ ?_
    refine aj aaz rfl ?_
    refine bJ ?_
    refine aj eA rfl ?_
    exact zw9
   ·refine ba (Nj s il a wB rm) ?_
    refine Vr ?_
    refine aj FI rfl ?_
    refine bJ ?_
    refine aj aaz rfl ?_
    cases so with
    |false=>
     exact QM
    |true=>
     have h:=lS.1 rfl
     have hv:(ew s.sig a&&dR a)=false:=by
      rw[Bool.eq_false_iff]
      exact fun hv=>rm ⟨h,(o8 h.sig a).trans hv⟩
     rw[hv]at eA
     refine bJ ?_
     refine aj eA rfl ?_
     exact QM
  |true=>
   obtain⟨h,va,vc⟩:=aS.1 rfl
   obtain⟨f,e,b',hf,Om⟩:=FB h va vc
   have he:e=0\/e=5\/e=3:=by
    rcases Om with⟨h,_⟩|h|h
    ·exact .inl h
    ·exact .inr (.inl h)
    ·exact .inr (.inr h)
   obtain⟨bk,we⟩:∃bk:Nt->Bool,∀n,bk n=true↔DU b' n:=by
    classical
    exact⟨fun n=>decide (DU b' n),fun n=>aG⟩
   obtain⟨bA,Vi⟩:∃bA:Bool,bA=true↔DU (ah s.binds) ⟨a,c⟩:=by
    classical
    exact⟨decide (DU (ah s.binds) ⟨a,c⟩),aG⟩
   obtain⟨l',ρ,R,f2,r,hS,hl,hr⟩:=wk h va
   have hw:dG e (s.aR.any bk)=0\/dG e (s.aR.any bk)=5\/dG e (s.aR.any bk)=3:=by
    unfold dG
    split
    ·split
     ·exact .inr (.inl rfl)
     ·exact .inl rfl
    ·rcases he with h|h|h
     ·exact .inl h
     ·exact .inr (.inl h)
     ·exact .inr (.inr h)
   have t1:=Nk s il a c wB hfc h va vc hf he (bk:=bk) (fun _ n _=>we n) Vi
   have t2:=KO h va vc hf (bk:=bk) (fun _ n _=>we n) Vi hw
   have t3:=Ci s il a wB h va hS hl hr
   have cD:∀p∈ah s.binds,sX (ah s.binds) p.2:=fun p hp=>(h.lZ.all p hp).1
   have DA:∀p∈ah s.binds,p.2.fits:=fun p hp=>(h.lZ.all p hp).2
   have oa:=FH hS hl cD va
   obtain⟨g1,u1⟩:=vi hS (cV va).1
   have hlen:=h.lZ.len
   have t4:=rQ ae DA ha u1 ae
   have t5:=JL s.sig hs.sig _ (Tm.cI (aZ (ah l') a) ae)
   rw[Ni hS hl (cV va).1 hr]at t5
   have t6:=rD _ (Tm.cI (aZ (ah l') a) ae) _ (Tm.cI (aZ (ah l') a) ae)
   rw[ju]at t6
   generalize aZ (ah l') a=x at t3 t4 t5 t6
   generalize HE bA (dG e (s.aR.any bk))=w1 at t1 t2
   generalize HG bA (dG e (s.aR.any bk))=w2 at t1 t2
   refine ba t1 ?_
   refine bJ ?_
   refine ba t3 ?_
   by_cases h0:r<0
   ·rw[if_pos h0,if_pos h0]
    rw[show decide (0<=r)=false from decide_eq_false (by omega)]at t5
    refine Vr ?_
    refine aj FI rfl ?_
    refine bJ ?_
    refine ba t2 ?_
    refine Vq ?_
    refine ba t4 ?_
    refine bJ ?_
    refine aj t5 rfl ?_
    exact QM
   ·rw[if_neg h0,if_neg h0]
    rw[show decide (0<=r)=true from decide_eq_true (by omega)]at t5
    refine bJ ?_
    refine aj FI rfl ?_
    refine bJ ?_
    refine ba t2 ?_
    refine Vq ?_
    refine ba t4 ?_
    refine bJ ?_
    refine aj t5 rfl ?_
    refine bJ ?_
    refine aj t6 rfl ?_
    exact zw9
end Go.Proofs.YtlhemmpklhhgoaaGreat
section
namespace Go.Proofs.YtlhemmpklhhgoaaGreat
open Go.ChangeShapes Go.WideShapes Go.RowKit
def vz(P:Program)(rec:TypeId->Option (List TypeId)):Nat->List Field->Option (List TypeId)
 |_,[]=>some []
 |off,f::fs=>if f.offset=off then match rec f.type with
  |some l=>if P.cellsOf f.type=l.length then(vz P rec (off+l.length) fs).map (l++·)else none
  |none=>none else none
def l0(P:Program):Nat->TypeId->Option (List TypeId)
 |0,_=>none
 |n+1,t=>match P.underlying t with
  |some .bool|some (.int _)|some .string|some (.slice _)=>some [t]
  |some (.struct fs)=>vz P (l0 P n) 0 fs.toList
  |some (.array k e)=>match l0 P n e with
   |some l=>if P.cellsOf e=l.length then some (List.replicate k l).flatten else none
   |none=>none
  |_=>none
def isAgg(P:Program)(t:TypeId):Bool:=match P.underlying t with
 |some (.struct _)|some (.array _ _)=>true
 |_=>false
mutual
def D.iy (P:Program):D->TypeId->Prop
 | .int k n,t=>P.underlying t=some (.int k)/\(Lit.int k n).wf=true
 | .bool _,t=>P.underlying t=some .bool
 | .str l,t=>P.underlying t=some .string/\l.length<=maxLen
 | .sl es,t=>∃e,P.underlying t=some (.slice e)/\es.length<=maxLen/\D.Hl P es e
 | .agg cs,t=>isAgg P t=true/\∃ls,l0 P 20 t=some ls/\D.iz P cs ls
 |_,_=>False
def D.Hl (P:Program):List D->TypeId->Prop
 |[],_=>True
 |x::l,e=>D.iy P x e/\D.Hl P l e
def D.iz (P:Program):List D->List TypeId->Prop
 |[],ts=>ts=[]
 |x::l,ts=>∃t r,ts=t::r/\D.iy P x t/\D.iz P l r
end
def tx(P:Program)(T:List TypeId):Bool:=T.all fun t=>match l0 P 20 t with
 |some l=>decide (l.length=P.cellsOf t)&&decide (0<l.length)&&l.all fun u=>match P.underlying u with
  |some (.slice e)=>T.contains e
  |_=>true
 |none=>false
theorem qG{P:Program}:∀ {xs ys:List D} {l r:List TypeId},D.iz P xs l->D.iz P ys r->D.iz P (xs++ys) (l++r)
 |[],_,_,_,h,h'=>by simp only[D.iz]at h;subst h;exact h'
 |x::xs,_,_,_,h,h'=>by
  obtain⟨t,r,rfl,h1,h2⟩:=h
  exact⟨t,_,rfl,h1,qG h2 h'⟩
theorem bg{B:Nat->Prop}{w:World}:∀ {xs ys:List D} {l r:List Value},D.az B w xs l->D.az B w ys r->D.az B w (xs++ys) (l++r)
 |[],_,_,_,h,h'=>by simp only[D.az]at h;subst h;exact h'
 |x::xs,_,_,_,h,h'=>by
  obtain⟨t,r,rfl,h1,h2⟩:=h
  exact⟨t,_,rfl,h1,bg h2 h'⟩
theorem Flat.append {l r:List Value}(h:Flat l)(h':Flat r):Flat (l++r):=fun u hu=>(List.mem_append.1 hu).elim (h u) (h' u)
abbrev T0:Nat->Prop:=fun _=>False
section
variable {H:Type}{enc:TypeId×Value->H}{P:Program}{W:World}{T:List TypeId}{b0:Nat}
def dh(P:Program)(W:World)(l:List TypeId)(cs:List Value):Prop:=∃xs,D.iz P xs l/\D.az T0 W xs cs/\Flat cs
theorem dh.append {l r:List TypeId}{cs ds:List Value}(h:dh P W l cs)(h':dh P W r ds):dh P W (l++r) (cs++ds):=by
 obtain⟨xs,a1,a2,a3⟩:=h
 obtain⟨ys,b1,b2,b3⟩:=h'
 exact⟨xs++ys,qG a1 b1,bg a2 b2,a3.append b3⟩
theorem dh.length {l:List TypeId}{cs:List Value}(h:dh P W l cs):cs.length=l.length:=by
 obtain⟨xs,a1,a2,_⟩:=h
 rw[D.ay _ _ a2]
 clear a2
 induction xs generalizing l with
 |nil=>simp only[D.iz]at a1;simp[a1]
 |cons x xs ih=>obtain⟨t,r,rfl,_,h⟩:=a1;simp[ih h]
theorem dh.nil:dh P W [] []:=⟨[],rfl,rfl,fun _ h=>by cases h⟩
theorem Ck{α:Type}(cs:List α)(o k:Nat):cs.drop o=(cs.drop o).take k++cs.drop (o+k):=by
 rw[<- List.drop_drop];exact(List.take_append_drop k _).symm
theorem qH{rec:TypeId->Option (List TypeId)}{cs:List Value}{rd:TypeId->List Value->Prop}
 (bw:∀t l vs,rec t=some l->(∀u∈l,∀e,P.underlying u=some (.slice e)->e∈T)->P.cellsOf t=l.length->rd t vs->dh P W l vs):
 ∀ (fs:List Field) (off:Nat) (l:List TypeId),vz P rec off fs=some l->(∀u∈l,∀e,P.underlying u=some (.slice e)->e∈T)->(∀f∈fs,rd f.type ((cs.drop f.offset).take (P.cellsOf f.type)))->
   off+l.length=cs.length->dh P W l (cs.drop off)
 |[],off,l,h,_,_,hl=>by
  simp only[vz,Option.some.injEq]at h
  subst h
  have:cs.drop off=[]:=List.drop_eq_nil_of_le (by simp at hl;omega)
  rw[this];exact dh.nil
 |f::fs,off,l,h,hT,hr,hl=>by
  simp only[vz]at h
  split at h
  ·rename_i ho
   split at h
   ·rename_i l1 h1
    split at h
    ·rename_i hc
     simp only[Option.map_eq_some_iff]at h
     obtain⟨r,h2,rfl⟩:=h
     have hd:=hr f aG
     rw[ho,hc]at hd
     rw[Ck cs off l1.length]
     simp only[List.length_append]at hl
     exact(bw f.type l1 _ h1 (fun u hu=>hT u (by simp[hu])) hc hd).append (qH bw fs _ r h2 (fun u hu=>hT u (by simp[hu])) (fun f hf=>hr f (by simp[hf])) ae)
    ·cases h
   ·cases h
  ·cases h
theorem sI{l:List TypeId}{cs:List Value}:∀ (k i:Nat),(∀j,j<k->dh P W l ((cs.drop ((i+j)*l.length)).take l.length))->(i+k)*l.length=cs.length->dh P W (List.replicate k l).flatten (cs.drop (i*l.length))
 |0,i,_,hl=>by
  have:cs.drop (i*l.length)=[]:=List.drop_eq_nil_of_le (by simp at hl;omega)
  rw[this];exact dh.nil
 |k+1,i,h,hl=>by
  rw[List.replicate_succ,List.flatten_cons,Ck cs (i*l.length) l.length]
  refine(by simpa using h 0 ae:dh P W l _).append ?_
  rw[show i*l.length+l.length=(i+1)*l.length by rw[Nat.add_mul];omega]
  refine sI k (i+1) (fun j hj=> ?_) (by rw[<- hl];congr 1;omega)
  have:=h (j+1) ae
  rwa [show i+(j+1)=i+1+j by omega]at this
theorem Cl{e:TypeId}{l:List TypeId}{cs:List Value}(hl:l0 P 20 e=some l)(h:dh P W l cs):∃ (ev:Value) (x:D),ev.cells.toList=cs/\D.iy P x e/\D.den T0 W x ev/\(isAgg P e=true->ev= .agg cs.toArray)/\(isAgg P e=false->cs=[ev]/\ev.oneCell'=true):=by
 obtain⟨xs,h1,h2,h3⟩:=h
 cases ha:isAgg P e with
 |true=>exact⟨.agg cs.toArray, .agg xs,by simp[Value.cells],⟨ha,l,hl,h1⟩,⟨_,rfl,by simpa using h2,by simpa using h3⟩,fun _=>rfl,(fun h=>by cases h)⟩
 |false=>
  have:l=[e]:=by
   unfold l0 at hl
   unfold isAgg at ha
   split at hl<;>simp_all
  subst this
  obtain⟨t,r,e1,h4,h5⟩:∃x r,xs=x::r/\D.iy P x e/\D.iz P r []:=by
   cases xs with
   |nil=>simp[D.iz]at h1
   |cons x r=>obtain⟨t,r',e1,h4,h5⟩:=h1;injection e1 with e1 e2;subst e1;subst e2;exact⟨x,r,rfl,h4,h5⟩
  subst e1
  have:r=[]:=by cases r with
   |nil=>rfl
   |cons y r=>obtain⟨_,_,e,_⟩:=h5;cases e
  subst this
  obtain⟨u,us,rfl,h6,h7⟩:=h2
  simp only[D.az]at h7
  subst h7
  have ho:=h3 u aG
  refine⟨u,t, ?_,h4,h6,(fun h=>by cases h),fun _=>⟨rfl,ho⟩⟩
  cases u<;>simp_all[Value.oneCell',Value.cells]
theorem Cm(hp:tx P T=true){t:TypeId}(ht:t∈T):∃l,l0 P 20 t=some l/\l.length=P.cellsOf t/\0<l.length/\∀u∈l,∀e,P.underlying u=some (.slice e)->e∈T:=by
 have:=List.all_eq_true.1 hp t ht
 split at this
 ·rename_i l hl
  simp only[Bool.and_eq_true,decide_eq_true_eq,List.all_eq_true]at this
  refine⟨l,hl,this.1.1,this.1.2,fun u hu e he=> ?_⟩
  have:=this.2 u hu
  rw[he]at this
  simpa using this
 ·cases this
theorem D3(hp:tx P T=true):∀ (n m:Nat) (t:TypeId) (l:List TypeId) (cs:List Value) (x:DataW H×List MemPlace),l0 P m t=some l->(∀u∈l,∀e,P.underlying u=some (.slice e)->e∈T)->
 P.cellsOf t=l.length->DataW.trod enc P W 0 (fun _=>true) true n t cs=some x->dh P W l cs:=by
 intro n
 induction n with
 |zero=>intro m t l cs x _ _ _ h;simp[DataW.trod]at h
 |succ n ih=>
  intro m t l cs x hl hT hc h
  cases m with
  |zero=>simp[l0]at hl
  |succ m=>
  unfold l0 at hl
  split at hl
  ·rename_i hu
   injection hl with hl;subst hl
   obtain⟨b,rfl,_⟩:=DataW.trod_bool hu h
   exact⟨[.bool b],⟨t,[],rfl,hu,rfl⟩,⟨_,_,rfl,rfl,rfl⟩,by simp[Flat,Value.oneCell']⟩
  ·rename_i k hu
   injection hl with hl;subst hl
   obtain⟨b,rfl,_,hw⟩:=DataW.trod_int hu h
   exact⟨[.int k b],⟨t,[],rfl,⟨hu,hw⟩,rfl⟩,⟨_,_,rfl,rfl,rfl⟩,by simp[Flat,Value.oneCell']⟩
  ·rename_i hu
   injection hl with hl;subst hl
   obtain⟨s,rfl,_,hw⟩:=DataW.trod_string hu h
   exact⟨[.str s.data.toList],⟨t,[],rfl,⟨hu,by simpa using hw⟩,rfl⟩,⟨_,_,rfl,⟨s,rfl,rfl⟩,rfl⟩,by simp[Flat,Value.oneCell']⟩
  ·rename_i e hu
   injection hl with hl;subst hl
   rcases DataW.trod_slice hu h with⟨rfl,_⟩|⟨a,len,cap,elems,rest,n',hn,rfl,_,_,h2,h3,h4,h5,h6,_⟩
   ·exact⟨[.sl []],⟨t,[],rfl,⟨e,hu,aG,trivial⟩,rfl⟩,⟨_,_,rfl,⟨none,0,0,rfl,rfl,aG,fun _=>rfl,0,(fun a ha=>by cases ha)⟩,rfl⟩,by simp[Flat,Value.oneCell']⟩
   ·injection hn with hn;subst hn
    obtain⟨l',g1,g2,g3,g4⟩:=Cm hp (hT t aG e hu)
    have at':∀i,i<len->∃ev:Value,∃y:D,ev.cells.size=P.cellsOf e/\gh T0 W (a.add (i*P.cellsOf e)) ev.cells/\D.den T0 W y ev/\D.iy P y e:=by
     intro i hi
     have:=h5 i hi
     rw[List.getElem?_eq_getElem (by omega)]at this
     obtain⟨ci,k1,k2⟩:=Option.bind_eq_some_iff.1 this
     obtain⟨_,k3,k4⟩:=World.cells?_some k1
     have k5:=ih 20 e l' ci _ g1 g4 g2.symm k2
     obtain⟨ev,y,q1,q2,q3,_,_⟩:=Cl g1 k5
     have q4:ev.cells=ci.toArray:=by rw[<- q1]
     refine⟨ev,y,by rw[q4];simp[k5.length,g2],fun j u hj=>⟨?_,fun h=>h⟩,q3,q2⟩
     rw[q4]at hj
     have Hs:ci[j]? =some u:=by simpa using hj
     have bW:j<P.cellsOf e:=by rw[<- g2, <- k5.length];exact(List.getElem?_eq_some_iff.1 Hs).1
     rw[k4 j bW];exact Hs
    have list:∀k i,i+k=len->∃es,es.length=k/\D.Hl P es e/\D.elems T0 W (P.cellsOf e) a i es:=by
     intro k
     induction k with
     |zero=>intro i _;exact⟨[],rfl,trivial,trivial⟩
     |succ k DJ=>
      intro i hi
      obtain⟨es,e1,e2,e3⟩:=DJ (i+1) ae
      obtain⟨ev,y,y1,y2,y3,y4⟩:=at' i ae
      exact⟨y::es,by simp[e1],⟨y4,e2⟩,⟨ev,y1,y2,y3⟩,e3⟩
    obtain⟨es,e1,e2,e3⟩:=list len 0 ae
    have aaA:cap≠0->a.spot=none:=by
     intro j9
     have Qk:∀z,(W.cells? 0 (a.add (0*P.cellsOf e)) (P.cellsOf e)).bind (DataW.trod enc P W 0 (fun _=>true) true n e)=some z->a.spot=none:=by
      intro z hz
      obtain⟨ci,k1,k2⟩:=Option.bind_eq_some_iff.1 hz
      obtain⟨_,k3,k4⟩:=World.cells?_some k1
      have k5:=k4 0 ae
      rw[List.getElem?_eq_getElem (by omega)]at k5
      simpa[Addr.add]using World.cell?_spot k5
     by_cases hlen:0<len
     ·have:=h5 0 hlen
      rw[List.getElem?_eq_getElem (by omega)]at this
      exact Qk _ this
     ·obtain⟨h7,h8⟩:=h6 rfl
      have:=h8 0 ae
      rw[List.getElem?_eq_getElem (by omega),show(len+0)=0 by omega]at this
      exact Qk _ this
    exact⟨[.sl es],⟨t,[],rfl,⟨e,hu,ae,e2⟩,rfl⟩,⟨_,_,rfl,⟨some a,len,cap,rfl,e1.symm,h2,(fun h=>by cases h),P.cellsOf e,(fun a' Kd=>by injection Kd with Kd;subst Kd;exact⟨aaA,e3⟩)⟩,rfl⟩,by simp[Flat,Value.oneCell']⟩
  ·rename_i fs hu
   obtain⟨xs,n',hn,_,h2,h3,h4⟩:=DataW.trod_struct hu h
   injection hn with hn;subst hn
   have:=qH (P:=P) (W:=W) (T:=T) (cs:=cs) (rd:=fun t vs=>∃y,DataW.trod enc P W 0 (fun _=>true) true n t vs=some y) (rec:=l0 P m) (fun t l vs q1 q2 q3 ⟨y,q4⟩=>ih m t l vs y q1 q2 q3 q4) fs.toList 0 l hl hT ?_ ae
   ·simpa using this
   ·intro f hf
    obtain⟨i,hi,hfi⟩:=List.getElem_of_mem hf
    have:=h4 i f (by simp at hi;simp[<- hfi,Array.getElem?_eq_getElem hi])
    rw[List.getElem?_eq_getElem (by simp at hi;omega)]at this
    exact⟨_,this⟩
  ·rename_i k e hu
   split at hl
   ·rename_i l' Ez
    split at hl
    ·rename_i hce
     injection hl with hl;subst hl
     obtain⟨xs,n',hn,_,h2,h3,h4⟩:=DataW.trod_array hu h
     injection hn with hn;subst hn
     have hlen:cs.length=k*l'.length:=by rw[h2,hc];simp
     have hT':0<k->∀u∈l',∀e,P.underlying u=some (.slice e)->e∈T:=fun hk u hu=>hT u (List.mem_flatten.2 ⟨l',List.mem_replicate.2 ⟨ae,rfl⟩,hu⟩)
     have:=sI (P:=P) (W:=W) (l:=l') (cs:=cs) k 0 (fun j hj=> ?_) (by rw[hlen];simp)
     ·simpa using this
     ·have:=h4 j hj
      rw[hce,List.getElem?_eq_getElem (by omega)]at this
      rw[Nat.zero_add]
      exact ih m e l' _ _ Ez (hT' ae) hce this
    ·cases hl
   ·cases hl
  ·cases hl
theorem xO(hp:tx P T=true):∀ (ts:List TypeId) (vs:List Value) (ds:List (DataW H)) (p:List MemPlace),(∀t∈ts,t∈T)->DataW.TrodAll enc P W 0 (fun _=>true) true ts vs ds p->
 (∀ (j:Nat) t v,ts[j]? =some t->vs[j]? =some v->Value.okWide P W .any b0 t v)->∃xs,D.iz P xs ts/\D.az T0 W xs vs
 |[],vs,ds,p,_,h,_=>by
  obtain⟨rfl,rfl,rfl⟩:=trodAll_nil h
  exact⟨[],rfl,rfl⟩
 |t::ts,vs,ds,p,hT,h,hv=>by
  obtain⟨v,vs',d,Xc,p1,q1,rfl,rfl,rfl,⟨n,h1⟩,h2⟩:=trodAll_cons h
  obtain⟨xs,a1,a2⟩:=xO hp ts vs' Xc q1 (fun t ht=>hT t (by simp[ht])) h2 (fun j t v h1 h2=>hv (j+1) t v (by simpa using h1) wx)
  obtain⟨l,g1,g2,g3,g4⟩:=Cm hp (hT t aG)
  obtain⟨ev,x,q1,q2,q3,q4,q5⟩:=Cl g1 (D3 hp n 20 t l _ _ g1 g4 g2.symm h1)
  have aS:=hv 0 t v rfl rfl
  have:ev=v:=by
   cases ha:isAgg P t with
   |true=>
    have:∃cs,v= .agg cs:=by
     unfold isAgg at ha
     unfold Value.okWide at aS
     split at ha
     ·rename_i hu;rw[hu]at aS;obtain⟨cs,rfl,_⟩:=aS;exact⟨cs,rfl⟩
     ·rename_i hu;rw[hu]at aS;obtain⟨cs,rfl,_⟩:=aS;exact⟨cs,rfl⟩
     ·cases ha
    obtain⟨cs,rfl⟩:=this
    rw[q4 ha]
    simp[Value.cells]
   |false=>
    obtain⟨q6,q7⟩:=q5 ha
    cases v with
    |agg cs=>
     exfalso
     unfold isAgg at ha
     unfold Value.okWide at aS
     split at aS
     ·rename_i hu;rw[hu]at ha;cases ha
     ·rename_i hu;rw[hu]at ha;cases ha
     ·unfold Cell.okWide at aS
      split at aS
      case h_8=>
       unfold Cell.ok at aS
       split at aS<;>first|exact aS|contradiction
      all_goals contradiction
    |_=>simp only[Value.cells,List.cons.injEq,and_true]at q6;exact q6.symm
  subst this
  exact⟨x::xs,⟨t,ts,rfl,q2,a1⟩,⟨_,_,rfl,q3,a2⟩⟩
theorem eh.below {w w':World}(h:eh (fun _=>False) w w'):Below w.heap.size w w':=⟨h.os,h.tape,h.output,h.size,fun k hk=>h.block k hk (fun h=>h)⟩
theorem xP(hl:laidOutB P=true){W':World}{sp:Nat->Bool}:∀ {ts:List TypeId} {vs:List Value} {ds:List (DataW H)} {p:List MemPlace},(∀t∈ts,P.readableRec t=true/\t<P.types.size)->DataW.TrodAll enc P W 0 (fun _=>true) true ts vs ds p->
 (∀x∈p,W.sameAt W' x/\sp x.block=true)->DataW.TrodAll enc P W' 0 sp true ts vs ds p
 |[],vs,ds,p,_,h,_=>by
  obtain⟨rfl,rfl,rfl⟩:=trodAll_nil h
  exact trodAll_mk0
 |t::ts,vs,ds,p,hr,h,hs=>by
  obtain⟨v,vs',d,Xc,p1,q1,rfl,rfl,rfl,h1,h2⟩:=trodAll_cons h
  exact⟨p1,q1,WideElems.Trod_stays hl (hr t aG).1 (hr t aG).2 h1 (fun x hx=>(hs x nY).1) (fun x hx=>(hs x nY).2),xP hl (fun t ht=>hr t (by simp[ht])) h2 (fun x hx=>hs x nY),rfl⟩
theorem KQ{sp:Nat->Bool}:∀ {ts:List TypeId} {vs:List Value} {ds:List (DataW H)} {ps:List MemPlace},DataW.TrodAll enc P W 0 sp true ts vs ds ps->ds.length=ts.length
 |[],_,_,_,h=>by obtain⟨_,rfl,_⟩:=trodAll_nil h;rfl
 |_::_,_,_,_,h=>by
  obtain⟨_,_,_,_,_,_,_,rfl,_,_,h2⟩:=trodAll_cons h
  simp[KQ h2]
theorem zD{f:FuncId}{fn:Func}{s:ChangeSpec}{tb:TypeId}{fresh handsOn again:Bool}(AR:fn.resultTypes=#[tb])(HA:P.underlying tb=some .bool)(Ql:s.vars=[])
 (KT:∀ds:List (DataW H),ds.length=fn.params.toList.length->s.fn H ds={results:=[.lit (.bool true)],args:=ds}) (hp:tx P T=true) (hT:∀t∈fn.params.toList,t∈T) (hl:laidOutB P=true)
 (hr:∀t∈fn.params.toList,P.readableRec t=true/\t<P.types.size) (law:∀xs,D.iz P xs fn.params.toList->aV P f xs (.ret [.bool true]))
 (base:Nat) (args:Array Value) (ds gs:List (DataW H)) (before:List MemPlace)
 (eA:∀ (j:Nat) t v,fn.params[j]? =some t->args[j]? =some v->Value.okWide P W .any base t v) (hW:DataW.Whole enc P fn.params.toList s.vars false W args.toList ds gs before):
 Calls P f args W fun e W'=>∃v,e= .returned v/\s.post enc P fn false fresh handsOn again W args v W':=by
 have hW':=hW
 obtain⟨p,q,hA,hV,rfl,hfz,AL⟩:=hW
 rw[Ql]at hV
 obtain⟨rfl,rfl⟩:=trodVars_none hV
 obtain⟨xs,a1,a2⟩:=xO (b0:=base) hp fn.params.toList args.toList ds p hT hA (fun j t v h1 h2=>eA j t v (by simpa using h1) wx)
 refine((law xs a1).2 T0 W args (fun _ h=>h.elim) a2).mono fun e W' ⟨hk,ho⟩=> ?_
 have hb:=hk.below
 cases e with
 |panicked ch=>exact ho.elim
 |outgrown=>exact ho.elim
 |returned v=>
  simp only[R.is,D.den]at ho
  subst ho
  refine⟨_,rfl, ?_⟩
  have hlen:ds.length=fn.params.toList.length:=(KQ hA)
  have hold:∀x∈p,x.block<W.heap.size:=fun x hx=>by simpa using hW'.lt x wy
  have dn:∀sp:Nat->Bool,(∀x∈p,sp x.block=true)->DataW.TrodAll enc P W' 0 sp true fn.params.toList args.toList ds p:=fun sp Og=>xP hl hr hA fun x hx=>⟨hb.same (hold x hx),Og x hx⟩
  have Qm:∀ (b:Nat) (sp:Nat->Bool) (hd:Bool),DataW.TrodAll enc P W' b sp hd fn.resultTypes.toList ((Value.bool true).resultList fn.resultTypes.size) [.lit (.bool true)] []:=fun b sp hd=>by
   rw[AR]
   exact trodAll_cons_mk (p:=[]) (p':=[]) ⟨1,by simp[DataW.trod,Value.cells,HA]⟩ trodAll_mk0
  have KU:∀sp:Nat->Bool,DataW.TrodVars enc P W' sp s.vars [] []:=fun sp=>by rw[Ql];rfl
  refine⟨ds,[],p++[],[],p,[],hW', ?_, ?_, ?_,World.keptBut_mono (fun _ h=>h.elim) (hb.frame (fun _=>False)),fun _=>⟨?_,[.lit (.bool true)]++ds,[],([]++p)++[],⟨[]++p,[],trodAll_append (dn _ fun _ _=>rfl) (Qm 0 (fun _=>true) true),KU _,rfl, ?_,(fun h=>by cases h)⟩,fun x hx _=>by simpa using hx⟩⟩
  ·rw[List.append_nil,KT ds hlen];exact Qm _ _ _
  ·rw[List.append_nil,KT ds hlen];exact dn _ fun x hx=>by simpa using hold x hx
  ·rw[List.append_nil,KT ds hlen];exact KU _
  ·intro j t r h1 h2
   rw[AR]at h1 h2
   match j,h1,h2 with
   |0,h1,h2=>
    simp[Value.resultList]at h1 h2
    subst h1;subst h2
    simp[Value.okWide,HA,Cell.okWide,Cell.ok]
  ·intro b off hx
   rw[hb.frozen (by simpa[MemPlace.block]using hold _ (by simpa using hx))]
   exact hfz b off wy
end
section
variable {P:Program}{t e:TypeId}{x:D}
theorem Cn{k:IntKind}(ht:P.underlying t=some (.int k))(h:D.iy P x t):∃n,x= .int k n/\(Lit.int k n).wf=true:=by
 cases x<;>simp only[D.iy]at h
 case int k' n=>
  rw[ht]at h
  obtain⟨h1,h2⟩:=h
  injection h1 with h1;injection h1 with h1;subst h1
  exact⟨n,rfl,h2⟩
 case bool=>rw[ht]at h;cases h
 case str=>rw[ht]at h;cases h.1
 case sl=>obtain⟨e,h,_⟩:=h;rw[ht]at h;cases h
 case agg=>have:=h.1;unfold isAgg at this;rw[ht]at this;cases this
theorem KW(ht:P.underlying t=some .string)(h:D.iy P x t):∃l,x= .str l/\l.length<=maxLen:=by
 cases x<;>simp only[D.iy]at h
 case int k' n=>rw[ht]at h;cases h.1
 case bool b=>rw[ht]at h;cases h
 case str l=>exact⟨l,rfl,h.2⟩
 case sl=>obtain⟨e,h,_⟩:=h;rw[ht]at h;cases h
 case agg=>have:=h.1;unfold isAgg at this;rw[ht]at this;cases this
theorem jW(ht:P.underlying t=some (.slice e))(h:D.iy P x t):∃es,x= .sl es/\es.length<=maxLen/\D.Hl P es e:=by
 cases x<;>simp only[D.iy]at h
 case int k' n=>rw[ht]at h;cases h.1
 case bool b=>rw[ht]at h;cases h
 case str l=>rw[ht]at h;cases h.1
 case sl es=>
  obtain⟨e',h,h2,h3⟩:=h
  rw[ht]at h;injection h with h;injection h with h;subst h
  exact⟨es,rfl,h2,h3⟩
 case agg=>have:=h.1;unfold isAgg at this;rw[ht]at this;cases this
theorem kU{ls:List TypeId}(ha:isAgg P t=true)(hl:l0 P 20 t=some ls)(h:D.iy P x t):∃cs,x= .agg cs/\D.iz P cs ls:=by
 have no:∀u,P.underlying t=some u->(∀fs,u≠ .struct fs)->(∀k e,u≠ .array k e)->False:=by
  intro u hu h1 h2
  unfold isAgg at ha
  rw[hu]at ha
  split at ha
  ·rename_i e;injection e with e;exact h1 _ e
  ·rename_i e;injection e with e;exact h2 _ _ e
  ·cases ha
 cases x<;>simp only[D.iy]at h
 case int k' n=>exact(no _ h.1 (fun _ h=>by cases h) (fun _ _ h=>by cases h)).elim
 case bool b=>exact(no _ h (fun _ h=>by cases h) (fun _ _ h=>by cases h)).elim
 case str l=>exact(no _ h.1 (fun _ h=>by cases h) (fun _ _ h=>by cases h)).elim
 case sl es=>obtain⟨e',h,_⟩:=h;exact(no _ h (fun _ h=>by cases h) (fun _ _ h=>by cases h)).elim
 case agg cs=>
  obtain⟨_,ls',h1,h2⟩:=h
  rw[hl]at h1;injection h1 with h1;subst h1
  exact⟨cs,rfl,h2⟩
theorem aT{t:TypeId}{ts:List TypeId}{cs:List D}(h:D.iz P cs (t::ts)):∃x xs,cs=x::xs/\D.iy P x t/\D.iz P xs ts:=by
 cases cs with
 |nil=>simp[D.iz]at h
 |cons x xs=>obtain⟨_,_,e,h1,h2⟩:=h;injection e with e1 e2;subst e1;subst e2;exact⟨x,xs,rfl,h1,h2⟩
theorem gZ{cs:List D}(h:D.iz P cs []):cs=[]:=by
 cases cs with
 |nil=>rfl
 |cons x xs=>obtain⟨_,_,e,_⟩:=h;cases e
theorem iA{α:Type}{f:α->D}{q:α->Prop}(hf:∀x,D.iy P x e->∃a,x=f a/\q a):∀ (es:List D),D.Hl P es e->∃l:List α,es=l.map f/\∀a∈l,q a
 |[],_=>⟨[],rfl,fun _ h=>by cases h⟩
 |x::es,h=>by
  obtain⟨a,rfl,h1⟩:=hf x h.1
  obtain⟨l,rfl,h2⟩:=iA hf es h.2
  exact⟨a::l,rfl,fun b hb=>(List.mem_cons.1 hb).elim (fun e=>e ▸ h1) (h2 b)⟩
end
end Go.Proofs.YtlhemmpklhhgoaaGreat
end
section
namespace Go.Proofs.YtlhemmpklhhgoaaGreat
open Go.ChangeShapes Go.WideShapes Go.RowKit
theorem kA:maxLen<=9223372036854775807:=cE
theorem sJ{x:D}(h:D.iy Tryz.prog x 3):∃n:Int,x= .i n:=by
 obtain⟨n,h,_⟩:=Cn undT_3 h
 exact⟨n,h⟩
theorem Nl{x:D}(h:D.iy Tryz.prog x 30):∃n:Int,x= .i n:=by
 obtain⟨n,h,_⟩:=Cn undT_30 h
 exact⟨n,h⟩
theorem aaB{x:D}(h:D.iy Tryz.prog x 124):∃r:jD,x=r.d/\r.name.length<=9223372036854775807:=by
 obtain⟨cs,rfl,hh⟩:=kU ai (ls:=[9,3]) ai h
 clear h;have h:=hh;clear hh
 obtain⟨a,cs,rfl,ha,h⟩:=aT h
 obtain⟨b,cs,rfl,hb,h⟩:=aT h
 have:=gZ h;subst this
 obtain⟨l,rfl,hl⟩:=KW ai ha
 obtain⟨n,rfl⟩:=sJ hb
 exact⟨⟨l,n⟩,rfl,by have:=kA;simp only;omega⟩
theorem KY:∀ (n:Nat) (x:D),SizeOf.sizeOf x<=n->D.iy Tryz.prog x 33->∃t:Tm,x=t.d/\t.fits:=by
 intro n
 induction n with
 |zero=>intro x hx _;cases x<;>simp at hx
 |succ n ih=>
  intro x hx h
  obtain⟨cs,rfl,hh⟩:=kU ai (ls:=[30,3,31]) ai h
  clear h;have h:=hh;clear hh
  obtain⟨a,cs,rfl,ha,h⟩:=aT h
  obtain⟨b,cs,rfl,hb,h⟩:=aT h
  obtain⟨c,cs,rfl,hc,h⟩:=aT h
  have:=gZ h;subst this
  obtain⟨o,rfl⟩:=Nl ha
  obtain⟨m,rfl⟩:=sJ hb
  obtain⟨es,rfl,h1,h2⟩:=jW undT_31 hc
  have Ev:SizeOf.sizeOf es<=n:=by simp at hx;omega
  have:∀es:List D,SizeOf.sizeOf es<=n->D.Hl Tryz.prog es 33->∃l:List Tm,es=l.map Tm.d/\∀k∈l,k.fits:=by
   intro es
   induction es with
   |nil=>intro _ _;exact⟨[],rfl,fun _ h=>by cases h⟩
   |cons y es ihe=>
    intro hs h
    simp at hs
    obtain⟨t,rfl,ht⟩:=ih y ae h.1
    obtain⟨l,rfl,hl⟩:=ihe ae h.2
    exact⟨t::l,rfl,fun b hb=>(List.mem_cons.1 hb).elim (fun e=>e ▸ ht) (hl b)⟩
  obtain⟨l,rfl,hl⟩:=this es Ev h2
  refine⟨.mk o m l,by rw[Tm.Mc], ?_⟩
  rw[Tm.bF]
  exact NG
theorem Nn{x:D}(h:D.iy Tryz.prog x 33):∃t:Tm,x=t.d/\t.fits:=KY _ x (Nat.le_refl _) h
end Go.Proofs.YtlhemmpklhhgoaaGreat
end
section
namespace Go.Proofs.YtlhemmpklhhgoaaGreat
open Go.ChangeShapes Go.WideShapes Go.RowKit
theorem acM{x:D}(h:D.iy Tryz.prog x 59):∃b:TB,x=b.d/\b.term.fits:=by
 obtain⟨cs,rfl,hh⟩:=kU ai (ls:=[3,30,3,31]) ai h
 clear h;have h:=hh;clear hh
 obtain⟨v,cs,rfl,hv,h⟩:=aT h
 obtain⟨a,cs,rfl,ha,h⟩:=aT h
 obtain⟨b,cs,rfl,hb,h⟩:=aT h
 obtain⟨c,cs,rfl,hc,h⟩:=aT h
 have:=gZ h;subst this
 obtain⟨k,rfl⟩:=sJ hv
 obtain⟨o,rfl⟩:=Nl ha
 obtain⟨m,rfl⟩:=sJ hb
 obtain⟨es,rfl,h1,h2⟩:=jW undT_31 hc
 obtain⟨l,rfl,hl⟩:=iA (fun x h=>Nn h) es h2
 refine⟨⟨k, .mk o m l⟩,rfl, ?_⟩
 rw[Tm.bF]
 exact NG
theorem Np{x:D}(h:D.iy Tryz.prog x 25):∃l:List TB,x= .sl (l.map TB.d)/\(l.length<=9223372036854775807/\∀b∈l,b.term.fits):=by
 obtain⟨es,rfl,h1,h2⟩:=jW undT_25 h
 obtain⟨l,rfl,hl⟩:=iA (fun x h=>acM h) es h2
 exact⟨l,rfl,by have:=kA;simp at h1;omega,hl⟩
end Go.Proofs.YtlhemmpklhhgoaaGreat
end
section
namespace Go.Proofs.YtlhemmpklhhgoaaGreat
open Go.ChangeShapes Go.WideShapes Go.RowKit
theorem KZ{x:D}(h:D.iy Tryz.prog x 31):∃l:List Tm,x= .sl (l.map Tm.d)/\l.length<=9223372036854775807/\∀t∈l,t.fits:=by
 obtain⟨es,rfl,h1,h2⟩:=jW undT_31 h
 obtain⟨l,rfl,hl⟩:=iA (fun x h=>Nn h) es h2
 have:=kA
 exact⟨l,rfl,by simp at h1;omega,hl⟩
theorem acN{x:D}(h:D.iy Tryz.prog x 101):∃n:Nt,x=n.d/\n.a.fits/\n.b.fits:=by
 obtain⟨cs,rfl,hh⟩:=kU ai (ls:=[30,3,31,30,3,31]) ai h
 clear h;have h:=hh;clear hh
 obtain⟨a,cs,rfl,ha,h⟩:=aT h
 obtain⟨b,cs,rfl,hb,h⟩:=aT h
 obtain⟨c,cs,rfl,hc,h⟩:=aT h
 obtain⟨d,cs,rfl,hd,h⟩:=aT h
 obtain⟨e,cs,rfl,he,h⟩:=aT h
 obtain⟨f,cs,rfl,hf,h⟩:=aT h
 have:=gZ h;subst this
 obtain⟨o1,rfl⟩:=Nl ha
 obtain⟨n1,rfl⟩:=sJ hb
 obtain⟨k1,rfl,l1,l2⟩:=KZ hc
 obtain⟨o2,rfl⟩:=Nl hd
 obtain⟨n2,rfl⟩:=sJ he
 obtain⟨k2,rfl,l3,l4⟩:=KZ hf
 exact⟨⟨.mk o1 n1 k1, .mk o2 n2 k2⟩,rfl,(Tm.bF _).2 ⟨l1,l2⟩,(Tm.bF _).2 ⟨l3,l4⟩⟩
theorem acO{x:D}(h:D.iy Tryz.prog x 77):∃m:Int×Int,x=Vc m/\True:=by
 obtain⟨cs,rfl,hh⟩:=kU ai (ls:=[3,3]) ai h
 clear h;have h:=hh;clear hh
 obtain⟨a,cs,rfl,ha,h⟩:=aT h
 obtain⟨b,cs,rfl,hb,h⟩:=aT h
 have:=gZ h;subst this
 obtain⟨n1,rfl⟩:=sJ ha
 obtain⟨n2,rfl⟩:=sJ hb
 exact⟨(n1,n2),rfl,trivial⟩
theorem aaC{x:D}(h:D.iy Tryz.prog x 29):∃s:gG,x=s.d/\s.Fits:=by
 obtain⟨cs,rfl,hh⟩:=kU ai (ls:=[22,22,25,26,27]) ai h
 clear h;have h:=hh;clear hh
 obtain⟨a,cs,rfl,ha,h⟩:=aT h
 obtain⟨b,cs,rfl,hb,h⟩:=aT h
 obtain⟨c,cs,rfl,hc,h⟩:=aT h
 obtain⟨d,cs,rfl,hd,h⟩:=aT h
 obtain⟨e,cs,rfl,he,h⟩:=aT h
 have:=gZ h;subst this
 obtain⟨es,rfl,h1,h2⟩:=jW undT_22 ha
 obtain⟨l,rfl,hl⟩:=iA (fun x h=>aaB h) es h2
 obtain⟨es',rfl,h3,h4⟩:=jW undT_22 hb
 obtain⟨l',rfl,Ez⟩:=iA (fun x h=>aaB h) es' h4
 obtain⟨bs,rfl,Ex,hb2⟩:=Np hc
 obtain⟨es2,rfl,h5,h6⟩:=jW (e:=101) ai hd
 obtain⟨q,rfl,hq⟩:=iA (fun x h=>acN h) es2 h6
 obtain⟨es3,rfl,h7,h8⟩:=jW (e:=77) ai he
 obtain⟨ms,rfl,_⟩:=iA (fun x h=>acO h) es3 h8
 have:=kA
 exact⟨⟨⟨l,l'⟩,bs,q,ms⟩,rfl,⟨⟨by simp at h1;simp only;omega,by simp at h3;simp only;omega,hl,Ez⟩,Ex,by simp at h5;simp only;omega,by simp at h7;simp only;omega,hb2,hq⟩⟩
end Go.Proofs.YtlhemmpklhhgoaaGreat
end
section
namespace Go.Proofs.YtlhemmpklhhgoaaGreat
open Go
def T1:Nat->Bool:=fun g=> !([159,172,173,174,187,135,162,175,176,177,178,179,180,182,183,188,191,192,201,149,164,165,167,111,136,100,79,63,64,112,104,69]:List Nat).contains g
@[reducible] def zC:D:= .sl [.agg [.str [70,97,108,115,101], .i 0], .agg [.str [84,114,117,101], .i 0], .agg [.str [90], .i 0], .agg [.str [83], .i 1], .agg [.str [78,105,108], .i 0], .agg [.str [67,111,110,115], .i 2]]
@[reducible] def zF:D:= .sl [.agg [.str [97,112,112], .i 2], .agg [.str [111,110,101], .i 0]]
def sK:qd Tryz.prog:=qd.of T1 [] (fun _ h=>by cases h)
end Go.Proofs.YtlhemmpklhhgoaaGreat
end
section
namespace Go.Proofs.YtlhemmpklhhgoaaGreat
open Go
theorem K0:nR Tryz.prog bI sK 5000 119 [.agg [zC,zF]]=some (.ret [.i 0]):=ai
theorem T2:aV Tryz.prog 119 [.agg [zC,zF]] (.ret [.i 0]):=aV.gA mix gB K0
theorem Nq:nR Tryz.prog bI sK 5000 129 [.agg [zC,zF], .agg [.i 1, .i 0, .sl []]]=some (.ret [.bool true, .bool false, .i 0]):=ai
theorem aaD:aV Tryz.prog 129 [.agg [zC,zF], .agg [.i 1, .i 0, .sl []]] (.ret [.bool true, .bool false, .i 0]):=aV.gA mix gB Nq
theorem Nr:nR Tryz.prog bI sK 5000 129 [.agg [zC,zF], .agg [.i 1, .i 2, .sl []]]=some (.ret [.bool true, .bool false, .i 0]):=ai
theorem aaE:aV Tryz.prog 129 [.agg [zC,zF], .agg [.i 1, .i 2, .sl []]] (.ret [.bool true, .bool false, .i 0]):=aV.gA mix gB Nr
theorem Ns:nR Tryz.prog bI sK 5000 129 [.agg [zC,zF], .agg [.i 3, .i 5, .sl [.agg [.i 1, .i 0, .sl []], .agg [.i 1, .i 1, .sl []]]]]=some (.ret [.bool true, .bool false, .i 0]):=ai
theorem aaF:aV Tryz.prog 129 [.agg [zC,zF], .agg [.i 3, .i 5, .sl [.agg [.i 1, .i 0, .sl []], .agg [.i 1, .i 1, .sl []]]]] (.ret [.bool true, .bool false, .i 0]):=aV.gA mix gB Ns
theorem Nu:nR Tryz.prog bI sK 5000 129 [.agg [zC,zF], .agg [.i 3, .i 5, .sl [.agg [.i 1, .i 2, .sl []], .agg [.i 3, .i 5, .sl [.agg [.i 1, .i 0, .sl []], .agg [.i 3, .i 4, .sl []]]]]]]=some (.ret [.bool true, .bool false, .i 0]):=ai
theorem aaG:aV Tryz.prog 129 [.agg [zC,zF], .agg [.i 3, .i 5, .sl [.agg [.i 1, .i 2, .sl []], .agg [.i 3, .i 5, .sl [.agg [.i 1, .i 0, .sl []], .agg [.i 3, .i 4, .sl []]]]]]] (.ret [.bool true, .bool false, .i 0]):=aV.gA mix gB Nu
theorem Nv:nR Tryz.prog bI sK 5000 129 [.agg [zC,zF], .agg [.i 3, .i 5, .sl [.agg [.i 1, .i 0, .sl []], .agg [.i 3, .i 4, .sl []]]]]=some (.ret [.bool true, .bool false, .i 0]):=ai
theorem aaH:aV Tryz.prog 129 [.agg [zC,zF], .agg [.i 3, .i 5, .sl [.agg [.i 1, .i 0, .sl []], .agg [.i 3, .i 4, .sl []]]]] (.ret [.bool true, .bool false, .i 0]):=aV.gA mix gB Nv
theorem Nw:nR Tryz.prog bI sK 5000 129 [.agg [zC,zF], .agg [.i 3, .i 3, .sl [.agg [.i 1, .i 3, .sl []]]]]=some (.ret [.bool true, .bool false, .i 0]):=ai
theorem aaI:aV Tryz.prog 129 [.agg [zC,zF], .agg [.i 3, .i 3, .sl [.agg [.i 1, .i 3, .sl []]]]] (.ret [.bool true, .bool false, .i 0]):=aV.gA mix gB Nw
theorem Nx:nR Tryz.prog bI sK 5000 129 [.agg [zC,zF], .agg [.i 3, .i 3, .sl [.agg [.i 3, .i 2, .sl []]]]]=some (.ret [.bool true, .bool true, .i 0]):=ai
theorem aaJ:aV Tryz.prog 129 [.agg [zC,zF], .agg [.i 3, .i 3, .sl [.agg [.i 3, .i 2, .sl []]]]] (.ret [.bool true, .bool true, .i 0]):=aV.gA mix gB Nx
def Co:qd Tryz.prog:=qd.of T1 [(119,[.agg [zC,zF]], .ret [.i 0]),(129,[.agg [zC,zF], .agg [.i 1, .i 0, .sl []]], .ret [.bool true, .bool false, .i 0]),(129,[.agg [zC,zF], .agg [.i 1, .i 2, .sl []]], .ret [.bool true, .bool false, .i 0]),(129,[.agg [zC,zF], .agg [.i 3, .i 5, .sl [.agg [.i 1, .i 0, .sl []], .agg [.i 1, .i 1, .sl []]]]], .ret [.bool true, .bool false, .i 0]),(129,[.agg [zC,zF], .agg [.i 3, .i 5, .sl [.agg [.i 1, .i 2, .sl []], .agg [.i 3, .i 5, .sl [.agg [.i 1, .i 0, .sl []], .agg [.i 3, .i 4, .sl []]]]]]], .ret [.bool true, .bool false, .i 0]),(129,[.agg [zC,zF], .agg [.i 3, .i 5, .sl [.agg [.i 1, .i 0, .sl []], .agg [.i 3, .i 4, .sl []]]]], .ret [.bool true, .bool false, .i 0]),(129,[.agg [zC,zF], .agg [.i 3, .i 3, .sl [.agg [.i 1, .i 3, .sl []]]]], .ret [.bool true, .bool false, .i 0]),(129,[.agg [zC,zF], .agg [.i 3, .i 3, .sl [.agg [.i 3, .i 2, .sl []]]]], .ret [.bool true, .bool true, .i 0])] (fun x h=>by
 simp only[List.mem_cons,List.not_mem_nil,or_false]at h
 rcases h with rfl|rfl|rfl|rfl|rfl|rfl|rfl|rfl
 ·exact T2
 ·exact aaD
 ·exact aaE
 ·exact aaF
 ·exact aaG
 ·exact aaH
 ·exact aaI
 ·exact aaJ)
end Go.Proofs.YtlhemmpklhhgoaaGreat
end
section
namespace Go.Proofs.YtlhemmpklhhgoaaGreat
open Go
theorem T3:nR Tryz.prog bI Co 5000 15 [.agg [zC,zF, .sl [], .sl [], .sl []], .agg [.i 3, .i 5, .sl [.agg [.i 1, .i 0, .sl []], .agg [.i 1, .i 1, .sl []]]], .agg [.i 3, .i 5, .sl [.agg [.i 1, .i 2, .sl []], .agg [.i 3, .i 5, .sl [.agg [.i 1, .i 0, .sl []], .agg [.i 3, .i 4, .sl []]]]]]]=some (.ret [.agg [zC,zF, .sl [.agg [.i 2, .i 1, .i 0, .sl []], .agg [.i 1, .i 3, .i 5, .sl [.agg [.i 1, .i 0, .sl []], .agg [.i 3, .i 4, .sl []]]]], .sl [], .sl []], .i 0]):=ai
theorem acP:aV Tryz.prog 15 [.agg [zC,zF, .sl [], .sl [], .sl []], .agg [.i 3, .i 5, .sl [.agg [.i 1, .i 0, .sl []], .agg [.i 1, .i 1, .sl []]]], .agg [.i 3, .i 5, .sl [.agg [.i 1, .i 2, .sl []], .agg [.i 3, .i 5, .sl [.agg [.i 1, .i 0, .sl []], .agg [.i 3, .i 4, .sl []]]]]]] (.ret [.agg [zC,zF, .sl [.agg [.i 2, .i 1, .i 0, .sl []], .agg [.i 1, .i 3, .i 5, .sl [.agg [.i 1, .i 0, .sl []], .agg [.i 3, .i 4, .sl []]]]], .sl [], .sl []], .i 0]):=aV.gA mix gB T3
end Go.Proofs.YtlhemmpklhhgoaaGreat
end
section
namespace Go.Proofs.YtlhemmpklhhgoaaGreat
open Go
theorem T4:nR Tryz.prog bI Co 5000 16 [.agg [zC,zF, .sl [.agg [.i 2, .i 1, .i 0, .sl []], .agg [.i 1, .i 3, .i 5, .sl [.agg [.i 1, .i 0, .sl []], .agg [.i 3, .i 4, .sl []]]]], .sl [], .sl []], .agg [.i 3, .i 3, .sl [.agg [.i 1, .i 3, .sl []]]], .agg [.i 1, .i 2, .sl []]]=some (.ret [.agg [zC,zF, .sl [.agg [.i 2, .i 1, .i 0, .sl []], .agg [.i 1, .i 3, .i 5, .sl [.agg [.i 1, .i 0, .sl []], .agg [.i 3, .i 4, .sl []]]]], .sl [.agg [.i 3, .i 3, .sl [.agg [.i 1, .i 3, .sl []]], .i 1, .i 2, .sl []]], .sl []], .i 0]):=ai
theorem acQ:aV Tryz.prog 16 [.agg [zC,zF, .sl [.agg [.i 2, .i 1, .i 0, .sl []], .agg [.i 1, .i 3, .i 5, .sl [.agg [.i 1, .i 0, .sl []], .agg [.i 3, .i 4, .sl []]]]], .sl [], .sl []], .agg [.i 3, .i 3, .sl [.agg [.i 1, .i 3, .sl []]]], .agg [.i 1, .i 2, .sl []]] (.ret [.agg [zC,zF, .sl [.agg [.i 2, .i 1, .i 0, .sl []], .agg [.i 1, .i 3, .i 5, .sl [.agg [.i 1, .i 0, .sl []], .agg [.i 3, .i 4, .sl []]]]], .sl [.agg [.i 3, .i 3, .sl [.agg [.i 1, .i 3, .sl []]], .i 1, .i 2, .sl []]], .sl []], .i 0]):=aV.gA mix gB T4
end Go.Proofs.YtlhemmpklhhgoaaGreat
end
section
namespace Go.Proofs.YtlhemmpklhhgoaaGreat
open Go
theorem T5:nR Tryz.prog bI Co 5000 15 [.agg [zC,zF, .sl [.agg [.i 2, .i 1, .i 0, .sl []], .agg [.i 1, .i 3, .i 5, .sl [.agg [.i 1, .i 0, .sl []], .agg [.i 3, .i 4, .sl []]]]], .sl [.agg [.i 3, .i 3, .sl [.agg [.i 1, .i 3, .sl []]], .i 1, .i 2, .sl []]], .sl []], .agg [.i 1, .i 0, .sl []], .agg [.i 3, .i 3, .sl [.agg [.i 1, .i 3, .sl []]]]]=some (.ret [.agg [.sl [], .sl [], .sl [], .sl [], .sl []], .i 5]):=ai
theorem acR:aV Tryz.prog 15 [.agg [zC,zF, .sl [.agg [.i 2, .i 1, .i 0, .sl []], .agg [.i 1, .i 3, .i 5, .sl [.agg [.i 1, .i 0, .sl []], .agg [.i 3, .i 4, .sl []]]]], .sl [.agg [.i 3, .i 3, .sl [.agg [.i 1, .i 3, .sl []]], .i 1, .i 2, .sl []]], .sl []], .agg [.i 1, .i 0, .sl []], .agg [.i 3, .i 3, .sl [.agg [.i 1, .i 3, .sl []]]]] (.ret [.agg [.sl [], .sl [], .sl [], .sl [], .sl []], .i 5]):=aV.gA mix gB T5
end Go.Proofs.YtlhemmpklhhgoaaGreat
end
section
namespace Go.Proofs.YtlhemmpklhhgoaaGreat
open Go
theorem T6:nR Tryz.prog bI Co 5000 24 [.agg [zC,zF, .sl [.agg [.i 2, .i 1, .i 0, .sl []], .agg [.i 1, .i 3, .i 5, .sl [.agg [.i 1, .i 0, .sl []], .agg [.i 3, .i 4, .sl []]]]], .sl [.agg [.i 3, .i 3, .sl [.agg [.i 1, .i 3, .sl []]], .i 1, .i 2, .sl []]], .sl []]]=some (.ret [.agg [.sl [.agg [.i 1, .i 3, .i 5, .sl [.agg [.i 1, .i 0, .sl []], .agg [.i 3, .i 4, .sl []]]], .agg [.i 2, .i 1, .i 0, .sl []]], .sl [.sl [.agg [.i 0, .i 3, .i 3, .sl [.agg [.i 1, .i 3, .sl []]]]]]], .i 0]):=ai
theorem acS:aV Tryz.prog 24 [.agg [zC,zF, .sl [.agg [.i 2, .i 1, .i 0, .sl []], .agg [.i 1, .i 3, .i 5, .sl [.agg [.i 1, .i 0, .sl []], .agg [.i 3, .i 4, .sl []]]]], .sl [.agg [.i 3, .i 3, .sl [.agg [.i 1, .i 3, .sl []]], .i 1, .i 2, .sl []]], .sl []]] (.ret [.agg [.sl [.agg [.i 1, .i 3, .i 5, .sl [.agg [.i 1, .i 0, .sl []], .agg [.i 3, .i 4, .sl []]]], .agg [.i 2, .i 1, .i 0, .sl []]], .sl [.sl [.agg [.i 0, .i 3, .i 3, .sl [.agg [.i 1, .i 3, .sl []]]]]]], .i 0]):=aV.gA mix gB T6
end Go.Proofs.YtlhemmpklhhgoaaGreat
end
section
namespace Go.Proofs.YtlhemmpklhhgoaaGreat
open Go
theorem T7:nR Tryz.prog bI Co 5000 35 [.agg [zC,zF, .sl [.agg [.i 2, .i 1, .i 0, .sl []], .agg [.i 1, .i 3, .i 5, .sl [.agg [.i 1, .i 0, .sl []], .agg [.i 3, .i 4, .sl []]]]], .sl [.agg [.i 3, .i 3, .sl [.agg [.i 1, .i 3, .sl []]], .i 1, .i 2, .sl []]], .sl []], .agg [.i 1, .i 0, .sl []], .agg [.i 3, .i 3, .sl [.agg [.i 3, .i 2, .sl []]]]]=some (.ret [.i 3, .i 0]):=ai
theorem acT:aV Tryz.prog 35 [.agg [zC,zF, .sl [.agg [.i 2, .i 1, .i 0, .sl []], .agg [.i 1, .i 3, .i 5, .sl [.agg [.i 1, .i 0, .sl []], .agg [.i 3, .i 4, .sl []]]]], .sl [.agg [.i 3, .i 3, .sl [.agg [.i 1, .i 3, .sl []]], .i 1, .i 2, .sl []]], .sl []], .agg [.i 1, .i 0, .sl []], .agg [.i 3, .i 3, .sl [.agg [.i 3, .i 2, .sl []]]]] (.ret [.i 3, .i 0]):=aV.gA mix gB T7
end Go.Proofs.YtlhemmpklhhgoaaGreat
end
section
namespace Go.Proofs.YtlhemmpklhhgoaaGreat
open Go
def aaK:qd Tryz.prog:=qd.of T1 [(15,[.agg [zC,zF, .sl [], .sl [], .sl []], .agg [.i 3, .i 5, .sl [.agg [.i 1, .i 0, .sl []], .agg [.i 1, .i 1, .sl []]]], .agg [.i 3, .i 5, .sl [.agg [.i 1, .i 2, .sl []], .agg [.i 3, .i 5, .sl [.agg [.i 1, .i 0, .sl []], .agg [.i 3, .i 4, .sl []]]]]]], .ret [.agg [zC,zF, .sl [.agg [.i 2, .i 1, .i 0, .sl []], .agg [.i 1, .i 3, .i 5, .sl [.agg [.i 1, .i 0, .sl []], .agg [.i 3, .i 4, .sl []]]]], .sl [], .sl []], .i 0]),(16,[.agg [zC,zF, .sl [.agg [.i 2, .i 1, .i 0, .sl []], .agg [.i 1, .i 3, .i 5, .sl [.agg [.i 1, .i 0, .sl []], .agg [.i 3, .i 4, .sl []]]]], .sl [], .sl []], .agg [.i 3, .i 3, .sl [.agg [.i 1, .i 3, .sl []]]], .agg [.i 1, .i 2, .sl []]], .ret [.agg [zC,zF, .sl [.agg [.i 2, .i 1, .i 0, .sl []], .agg [.i 1, .i 3, .i 5, .sl [.agg [.i 1, .i 0, .sl []], .agg [.i 3, .i 4, .sl []]]]], .sl [.agg [.i 3, .i 3, .sl [.agg [.i 1, .i 3, .sl []]], .i 1, .i 2, .sl []]], .sl []], .i 0]),(15,[.agg [zC,zF, .sl [.agg [.i 2, .i 1, .i 0, .sl []], .agg [.i 1, .i 3, .i 5, .sl [.agg [.i 1, .i 0, .sl []], .agg [.i 3, .i 4, .sl []]]]], .sl [.agg [.i 3, .i 3, .sl [.agg [.i 1, .i 3, .sl []]], .i 1, .i 2, .sl []]], .sl []], .agg [.i 1, .i 0, .sl []], .agg [.i 3, .i 3, .sl [.agg [.i 1, .i 3, .sl []]]]], .ret [.agg [.sl [], .sl [], .sl [], .sl [], .sl []], .i 5]),(24,[.agg [zC,zF, .sl [.agg [.i 2, .i 1, .i 0, .sl []], .agg [.i 1, .i 3, .i 5, .sl [.agg [.i 1, .i 0, .sl []], .agg [.i 3, .i 4, .sl []]]]], .sl [.agg [.i 3, .i 3, .sl [.agg [.i 1, .i 3, .sl []]], .i 1, .i 2, .sl []]], .sl []]], .ret [.agg [.sl [.agg [.i 1, .i 3, .i 5, .sl [.agg [.i 1, .i 0, .sl []], .agg [.i 3, .i 4, .sl []]]], .agg [.i 2, .i 1, .i 0, .sl []]], .sl [.sl [.agg [.i 0, .i 3, .i 3, .sl [.agg [.i 1, .i 3, .sl []]]]]]], .i 0]),(35,[.agg [zC,zF, .sl [.agg [.i 2, .i 1, .i 0, .sl []], .agg [.i 1, .i 3, .i 5, .sl [.agg [.i 1, .i 0, .sl []], .agg [.i 3, .i 4, .sl []]]]], .sl [.agg [.i 3, .i 3, .sl [.agg [.i 1, .i 3, .sl []]], .i 1, .i 2, .sl []]], .sl []], .agg [.i 1, .i 0, .sl []], .agg [.i 3, .i 3, .sl [.agg [.i 3, .i 2, .sl []]]]], .ret [.i 3, .i 0])] (fun x h=>by
 simp only[List.mem_cons,List.not_mem_nil,or_false]at h
 rcases h with rfl|rfl|rfl|rfl|rfl
 ·exact acP
 ·exact acQ
 ·exact acR
 ·exact acS
 ·exact acT)
theorem Cq:nR Tryz.prog bI aaK 5000 14 []=some (.ret [.bool true]):=ai
theorem Ny:aV Tryz.prog 14 [] (.ret [.bool true]):=aV.gA mix gB Cq
end Go.Proofs.YtlhemmpklhhgoaaGreat
end
section
namespace Go.Proofs.YtlhemmpklhhgoaaGreat
open Go.ChangeShapes Go.WideShapes Go.RowKit
set_option maxRecDepth 100000 in
theorem rS(os:Os)(started:os.Started)(H:Type)(enc:TypeId×Value->H):
 ReturnsInHanded {} Tryz.checked os 8 .any (Rows.equalAsksSpec.pre6 enc Tryz.prog Tryz.f8 Rows.equalAsksRow.domain false) (Rows.equalAsksSpec.post enc Tryz.prog Tryz.f8 Rows.equalAsksRow.apart Rows.equalAsksRow.fresh Rows.equalAsksRow.handsOn Rows.equalAsksRow.again):=by
 refine returnsInHanded_of_change (C:=Tryz.checked) ai started ai Tryz.func8
  (ChangeSpec.witness6 (enc:=enc) (C:=Tryz.checked) false ⟨#[],#[.agg #[.slice none 0 0, .slice none 0 0, .slice none 0 0, .slice none 0 0, .slice none 0 0], .agg #[.int .i64 0, .int .i64 0, .slice none 0 0], .agg #[.int .i64 0, .int .i64 0, .slice none 0 0]],[]⟩ 8 ai ai ai ai) ?_
 intro W base args ds gs before eA hW _ _
 refine zD (T:=[29,24,22,124,9,3,25,59,31,33,30,26,101,27,77]) (tb:=4) ai ai rfl (fun ds h=>by match ds,h with|[_,_,_],_=>rfl) ai (by intro t ht;rw[Tryz.params8]at ht;simp at ht;rcases ht with rfl|rfl<;>simp) ai (by intro t ht;rw[Tryz.params8]at ht;simp at ht;rcases ht with rfl|rfl<;>exact⟨ai,of_decide_eq_true ai⟩)
  (fun xs hx=> ?_) base args ds gs before eA hW
 rw[Tryz.params8]at hx
 obtain⟨x0,xs,rfl,hx0,hx⟩:=aT hx
 obtain⟨x1,xs,rfl,hx1,hx⟩:=aT hx
 obtain⟨x2,xs,rfl,hx2,hx⟩:=aT hx
 have:=gZ hx;subst this
 obtain⟨q0,rfl,hq0⟩:=aaC hx0
 obtain⟨t1,rfl,zH⟩:=Nn hx1
 obtain⟨t2,rfl,ht2⟩:=Nn hx2
 exact Cj Ny q0 hq0 t1 zH t2 ht2
theorem equalAsks_holds:Rows.EqualAsksSaid:=
 OpenClaim.holds_of_wide 8 Tryz.f8 rfl rfl rfl rfl rfl rfl rfl ⟨rfl,rfl,rfl,rfl,rfl⟩ rfl rfl rfl rfl rfl ai Tryz.func8 ai
  (of_decide_eq_true ai) (by unfold Func.isWrapper;first|(rw[if_pos (by decide+kernel)];kernel_rfl)|(rw[if_neg (by decide+kernel)];exact⟨rfl,rfl⟩))
  (fun os started H enc _=>rS os started H enc)
end Go.Proofs.YtlhemmpklhhgoaaGreat
end
