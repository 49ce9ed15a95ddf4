/-
  A PART. Conditions: none.
-/
import Derived.Shelf.Spec.SlicesInsert
import Derived.Lib.AppendZerosOnto
import Derived.Laws.NewBlocks
import Derived.Test.YtlhemmpklhhgoaaGreatQf21
set_option linter.unusedSimpArgs false
set_option linter.unusedVariables false
set_option maxHeartbeats 8000000
namespace Go.Proofs.YtlhemmpklhhgoaaGreat
theorem SZ(l:List Nt)(hl:l.length<=9223372036854775807){g p:Nat}{R:aa}(br:Nt->Bool)(hb:∀x∈l,∀ (o:Nat->aa) (nx:Nat),Good o nx->o p=R->∀ (K X:V->(Nat->aa)->Nat->Prop),(∀ (o':Nat->aa) (nx':Nat),nx<=nx'->Good o' nx'->(∀j,j<nx->o' j=o j)->K (.d (.bool (br x))) o' nx')->bJ Tryz.prog g [.d x.d, .ptr p 0] o nx K X)
 (o:Nat->aa) (nx:Nat) (hg:Good o nx) (hp:o p=R) (lp:p<nx) (K X:V->(Nat->aa)->Nat->Prop)
 (hK:∀ (o':Nat->aa) (nx':Nat),nx<=nx'->Good o' nx'->(∀j,j<nx->o' j=o j)->K (.d (.bool (l.any br))) o' nx'):
 bJ Tryz.prog 88 [.d (.sl (l.map Nt.d)), .func (.func g) [] [.ptr p 0]] o nx K X:=by
 refine bJ.aH mix YP aF ?_
 rw[c88]
 refine gB ?_
 have key:∀ (K X:V->(Nat->aa)->Nat->Prop),(∀r:Int,decide (0<=r)=l.any br->∀ (o':Nat->aa) (nx':Nat),nx+3<=nx'->Good o' nx'->(∀j,j<nx->o' j=o j)->K (.d (.i r)) o' nx')->
  bJ Tryz.prog 126 [.d (.sl (l.map Nt.d)), .func (.func g) [] [.ptr p 0]] o (nx+3) K X:=by
  intro K X hK
  refine bJ.aH mix Od aF ?_
  rw[RV]
  refine LR ?_
  refine aC (fun i:Nat=>⟨aY [.d (.sl (l.map Nt.d)), .func (.func g) [] [.ptr p 0], .ai, .ai, .ai, .ai, .ai, .d (.i l.length), .d (.i i)],o,nx+3⟩)
   (fun i=>i<=l.length/\l.any br=(l.drop i).any br) (fun i=>l.length - i) 0 ⟨Nat.zero_le _,rfl⟩ ?_ ?_
  ·exact QL
  rintro k ⟨Qj,zi⟩
  refine LR ?_
  refine ak (fun h1=> ?_) (fun h1=> ?_)
  ·have h1:k<l.length:=by simp at h1;omega
   obtain⟨x,hx⟩:=aA h1
   have cj:=List.mem_of_getElem? hx
   have hd:l.drop k=x::l.drop (k+1):=by
    exact W8
   rw[hd,List.any_cons]at zi
   refine dQ hx ?_
   refine aT (hb x cj _ _ (hg.mono ad) hp _ _ (fun o2 n2 m1 m2 m3=> ?_))
   cases yI:br x with
   |true=>
    exact QO
   |false=>
    exact zw3
  ·have h1:k=l.length:=by simp at h1;omega
   exact HW
 exact QJ
def AR(P:List TB)(a c:Tm):Bool:=iH (aO (ag P) a) (aO (ag P) c)
theorem pI{P:List TB}{a c:Tm}:AR P a c=true↔aO (ag P) a=aO (ag P) c:=ek _ _
def WJ(P:List TB)(s:b9):Bool:=(s.binds.all fun x=>AR P (qY x) x.term)&& !(s.aD.any fun n=>AR P n.a n.b)
theorem S0{P:List TB}{s:b9}:WJ P s=true↔Slv (ag P) s:=by
 unfold WJ Slv Sat
 rw[Bool.and_eq_true,List.all_eq_true,Bool.not_eq_true',List.any_eq_false]
 refine and_congr ⟨fun h p hp=> ?_,fun h x hx=> ?_⟩ ⟨fun h n hn=> ?_,fun h n hn=> ?_⟩
 ·obtain⟨x,hx,rfl⟩:=cz hp
  have:=pI.1 (h x hx)
  unfold qY at this
  rwa [dJ]at this
 ·rw[pI]
  unfold qY
  rw[dJ]
  exact h _ (fe hx)
 ·exact fun e=>h n hn (pI.2 e)
 ·exact fun e=>h n hn (pI.1 e)
theorem yp{s:b9}(h:bn s){P:List TB}(hP:AQ P):a7 Tryz.prog 31 [s.d, .sl (P.map TB.d)] (.ret [.bool (WJ P s)]):=by
 have rA:=h.gA.len
 have uL:=h.sI
 have wJ:=hP.len
 refine a7.aH mix ag9 aF ?_
 rw[c31]
 refine ra ?_
 refine aC (fun k:Nat=>⟨aY [.ai, .ai, .ptr 0 0, .ptr 1 0, .ai, .ai, .ai, .ai, .d (.sl (s.binds.map TB.d)), .d (.i s.binds.length), .d (.i k)],aw (aw (fun _=> .no) 0 (.row s.row)) 1 (.row [.d (.sl (P.map TB.d))]),2⟩)
  (fun k=>k<=s.binds.length/\(s.binds.all fun x=>AR P (qY x) x.term)=((s.binds.drop k).all fun x=>AR P (qY x) x.term)) (fun k=>s.binds.length - k) 0 ⟨Nat.zero_le _,rfl⟩ ?_ (fun k hk=> ?_)
 ·refine bM.bQ _ ad ad dx (fun j hj=>rfl) ?_
  exact dU
 obtain⟨hk,ha⟩:=hk
 refine ra ?_
 refine ak (fun h6=> ?_) (fun h6=> ?_)
 ·replace h6:k<s.binds.length:=by simp at h6;omega
  obtain⟨x,hx⟩:=aA h6
  have cj:=List.mem_of_getElem? hx
  obtain⟨hr,hv⟩:=h.gA.ok x cj
  have ES:s.binds.drop k=x::s.binds.drop (k+1):=by
   exact W8
  rw[ES,List.all_cons]at ha
  have cs:a7 Tryz.prog 36 [.sl (P.map TB.d),(qY x).d,x.term.d] (.ret [.bool (AR P (qY x) x.term)]):=sV ad hP.eP (qY x) x.term (Vs.var hr) (sP _) (bc hv).1 (js hv)
  refine eC hx ?_
  refine aZ (MH _) ?_
  refine eC hx ?_
  refine bf cs rfl ?_
  refine eC hx ?_
  refine aL (bN rfl) ?_
  cases hs:AR P (qY x) x.term with
  |false=>
   rw[hs,Bool.false_and]at ha
   have:WJ P s=false:=by unfold WJ;rw[ha];rfl
   exact FK
  |true=>
   rw[hs,Bool.true_and]at ha
   refine cS ?_
   refine aj (k+1) ⟨h6,ha⟩ ad (bM.bQ _ ad ad dx (fun j hj=> ?_) ?_)
   ·have hj:j<2:=hj
    rcases(by omega:j=0\/j=1)with rfl|rfl
    ·exact bp
    ·exact bp
   ·exact dU
 ·replace h6:k=s.binds.length:=by simp at h6;omega
  subst h6
  rw[List.drop_length]at ha
  have RC:WJ P s= !(s.aD.any fun n=>AR P n.a n.b):=by unfold WJ;rw[ha];rfl
  rw[RC]
  refine ra ?_
  refine aT (SZ s.aD ad (R:= .row [.d (.sl (P.map TB.d))]) (fun n=>AR P n.a n.b) (fun n hn o nx hg hp K X hK=> ?_) _ _ ?_ ?_ ?_ _ _ fun o' nx' g2 g3 g4=> ?_)
  ·obtain⟨na,nb,_⟩:=h.aD n hn
   have lp:1<nx:=hg.lt CJ
   have w1:∀k,(1:Nat)≠nx+k:=fun k=>ad
   have w2:(1:Nat)≠nx:=ad
   have cs:a7 Tryz.prog 36 [.sl (P.map TB.d),n.a.d,n.b.d] (.ret [.bool (AR P n.a n.b)]):=sV ad hP.eP n.a n.b (bc na).1 (js na) (bc nb).1 (js nb)
   refine bJ.aH mix ahF aF ?_
   rw[c89]
   refine c9 (ae hp (ae w1 w2)) ?_
   refine ax cs rfl ?_
   refine c9 (ae hp (ae w1 w2)) ?_
   exact abD
  ·exact dx
  ·exact bp
  ·omega
  ·exact qo
theorem JJ{F:Tm->Int->Option Int}:∀ {ks:List Tm} {n r:Int},AD F ks n=some r->0<=r->∀k∈ks,∃m q,F k m=some q/\0<=q
 |[],_,_,_,_,k,hk=>by cases hk
 |k::ks,n,r,h,hr,y,hy=>by
  simp only[AD]at h
  split at h
  ·cases h;omega
  ·cases e:F k n with
   |none=>rw[e]at h;cases h
   |some q=>
    rw[e]at h
    have hq:0<=q:=by
     rcases Int.lt_or_le q 0 with hq|hq
     ·have:=Jm hq h;omega
     ·exact hq
    rcases List.mem_cons.1 hy with rfl|hy
    ·exact⟨n,q,e,hq⟩
    ·exact JJ h hr y hy
theorem JK{s:az}{b:List (Int×Tm)}{l:List TB}{ρ:Int->Nat}{R:Nat}(h:kp s b l ρ R):∀ (f:Nat) (t:Tm) (n:Int) (d:Nat) (r:Int),Vs s t->tc f b t n d=some r->0<=r->(aO (ag l) t).lL<=d
 |0,_,_,_,_,_,h,_=>by cases h
 |f+1,t,n,d,r,ht,hl,hr=>by
  simp only[tc]at hl
  obtain⟨x,a1,a2,a3,a4,_⟩:=h.root ht
  cases ha:lU f b t with
  |none=>rw[ha]at hl;cases hl
  |some y=>
  have e1:=fO a1 (show R+2<=f+(R+2)from ad)
  rw[fO ha (show f<=f+(R+2) by omega)]at e1
  cases e1
  rw[ha]at hl
  cases d with
  |zero=>cases hl;omega
  |succ d=>
   dsimp only at hl
   have h1:=JJ hl hr
   rw[<- a3]
   by_cases hx:x.op=1
   ·have e:=a2.eta hx
    have hk:x.kids=[]:=by rw[e];rfl
    have hv:aO (ag l) x=x:=by rw[dW a2 hx,show Lv (ag l) x.n= .mk 1 x.n [] by simp[Lv,(h.vX _).1 (a4 hx)]];exact e.symm
    rw[hv,Tm.iO,hk]
    simp[Tm.gH]
   ·rw[eo hx,Tm.iO]
    have:=(lO (x.kids.map (aO (ag l))) d).2 fun k hk=>by
     obtain⟨y,hy,rfl⟩:=List.mem_map.1 hk
     obtain⟨m,q,g1,g2⟩:=h1 y hy
     exact JK h f y m d q (a2.lu hy) g1 g2
    show 1+Tm.gH (x.kids.map (aO (ag l)))<=d+1
    omega
theorem S1{s:az}{θ:List (Int×Tm)}:∀t:Tm,Vs s t->t.lL<=(aO θ t).lL:=by
 refine Tm.eM fun t ih ht=> ?_
 by_cases h1:t.op=1
 ·rw[ht.eta h1,Tm.iO,Tm.iO (aO _ _)]
  simp[Tm.kids,Tm.gH]
 ·rw[eo h1,Tm.iO,Tm.iO (.mk _ _ _)]
  show 1+Tm.gH t.kids<=1+Tm.gH (t.kids.map (aO θ))
  have:=(lO t.kids (Tm.gH (t.kids.map (aO θ)))).2 fun k hk=>Nat.le_trans (ih k hk (ht.lu hk)) (Tm.xi (List.mem_map.2 ⟨k,hk,rfl⟩))
  omega
theorem AS{s:az}{f:Nat}:∀ (ps cs:List Tm) (l l':List TB),bH (da f) ps cs l=some (l',true)->ps.length=cs.length->dK s l->(∀t∈ps,Vs s t)->(∀t∈cs,Vs s t)->mm l l'/\ps.map (aO (ag l'))=cs.map (aO (ag l'))
 |[],cs,l,l',h,hn,hl,_,_=>by
  have:cs=[]:=List.length_eq_zero_iff.1 hn.symm
  subst this
  simp only[bH]at h
  injection h with h;injection h with h
  subst h
  exact⟨mm.refl hl,rfl⟩
 |a::ps,[],l,l',h,hn,_,_,_=>by cases hn
 |a::ps,c::cs,l,l',h,hn,hl,ha,hc=>by
  have va:=ha a aF
  have vc:=hc c aF
  simp only[bH]at h
  cases hq:da f a c l with
  |none=>rw[hq]at h;cases h
  |some q=>
  obtain⟨l1,ok⟩:=q
  rw[hq]at h
  cases ok with
  |false=>simp only at h;injection h with h;injection h with _ h;cases h
  |true=>
   simp only at h
   obtain⟨g1,g2⟩:=gU f a c l l1 hq hl va vc
   obtain⟨k1,k2⟩:=AS ps cs l1 l' h (by simpa using hn) g1 (fun t ht=>ha t nL) (fun t ht=>hc t nL)
   refine⟨mm.trans hl g2 k1 fun v hv=>hl.vX hv, ?_⟩
   rw[List.map_cons,List.map_cons,k2, <- k1.sub va, <- k1.sub vc,sQ f a c l l1 hq hl va vc]
theorem WK{s:az}{l:List TB}(h:dK s l){x:TB}(hx:x∈l):bR (ag l) x.var=some x.term/\Lv (ag l) x.var=x.term:=by
 have h1:=(fN (yh h)).2 (fe hx)
 exact⟨h1,by simp[Lv,h1]⟩
theorem Co{s:az}{l:List TB}(h:dK s l){θ:List (Int×Tm)}:Sat θ (ag l)↔mn θ l:=by
 obtain⟨ρ,R,hS⟩:=JE h
 exact⟨Cn hS,JI hS fun p hp=>by obtain⟨x,hx,rfl⟩:=cz hp;exact(h.ok x hx).1⟩
theorem yq{s:b9}(h:bn s){l:List TB}(hl:qZ s l){θ:List (Int×Tm)}(hs:Sat θ (ag s.binds)):mn θ l:=by
 obtain⟨f,hf⟩:=hl.uni
 obtain⟨hv,ht⟩:=E8 h
 refine(yl (Ho s) (Hq s) [] (l,true) hf dK.nil hv ht (fun _ h=>by cases h) mn.nil ?_).2.1
 unfold Ho Hq
 rw[List.map_map,List.map_map]
 refine List.map_congr_left fun x hx=> ?_
 show aO θ (.mk 1 x.var [])=aO θ x.term
 rw[dJ]
 exact hs _ (fe hx)
theorem afu{s:b9}(h:bn s){l:List TB}(hl:qZ s l){x:TB}(hx:x∈s.binds):aO (ag l) (qY x)=aO (ag l) x.term:=by
 obtain⟨f,hf⟩:=hl.uni
 obtain⟨hv,ht⟩:=E8 h
 have h1:=(AS (Ho s) (Hq s) [] l hf (by simp[Ho,Hq]) dK.nil (fun t h=>(hv t h).1) fun t h=>(ht t h).1).2
 unfold Ho Hq at h1
 rw[List.map_map,List.map_map]at h1
 exact List.map_inj_left.1 h1 x hx
theorem Hs{s:b9}(h:bn s){l:List TB}(hl:qZ s l){θ:List (Int×Tm)}(hg:mn θ l):Sat θ (ag s.binds):=fun p hp=>by
 obtain⟨x,hx,rfl⟩:=cz hp
 have h1:=afu h hl hx
 have v1:Vs s.sig (qY x):=Vs.var (h.gA.ok x hx).1
 have v2:=(bc (h.gA.ok x hx).2).1
 have e1:=mn.sub hg v1
 have e2:=mn.sub hg v2
 have e3:aO θ (qY x)=Lv θ x.var:=dJ
 show Lv θ x.var=aO θ x.term
 rw[<- e3, <- e1, <- e2,h1]
theorem aam{s:b9}(h:bn s){l:List TB}(hl:qZ s l){θ:List (Int×Tm)}:Sat θ (ag s.binds)↔Sat θ (ag l):=by
 rw[Co hl.zd]
 exact⟨yq h hl,Hs h hl⟩
theorem PI{s:b9}(h:bn s){l:List TB}(hl:qZ s l):∀x∈l,dI x.term=true:=fun x hx=>by
 obtain⟨l0,ρ,R,hS,Xz⟩:=jr h.gA.keys h.gA.ok h.gA.Fu
 have h0:Sat (ag l0) (ag s.binds):=fun p hp=>by
  obtain⟨q1,q2,q3⟩:=hS.ok p.1 p.2 ((fN h.gA.keys).2 hp)
  exact q2
 have hg:=yq h hl h0
 obtain⟨hr,hv⟩:=hl.zd.ok x hx
 have e:=hg x.var hr
 rw[(WK hl.zd hx).2]at e
 have a1:=PB (θ:=ag l0) _ hv
 have a2:=S1 (θ:=ag l0) _ hv
 rw[e]at a1 a2
 rw[xN]
 cases hk:bR (ag s.binds) x.var with
 |some t=>
  obtain⟨q1,q2,_⟩:=hS.ok _ _ hk
  obtain⟨y,hy,ey⟩:=cz (cm hk)
  have hf:=h.gA.Su y hy
  have e1:y.term=t:=(congrArg Prod.snd ey).symm
  rw[e1]at hf
  have b1:=G6 hS q1 hf
  obtain⟨f,r,c1,c2⟩:=hf
  have b2:=JK hS f t 40 12 r q1 c1 c2
  rw[q2]at a1 a2
  omega
 |none=>
  have e2:Lv (ag l0) x.var= .mk 1 x.var []:=by simp[Lv,(hS.vX _).1 hk]
  rw[e2]at a1 a2
  have b1:(Tm.mk 1 x.var []).sz=1:=by rw[Tm.iN];rfl
  have b2:(Tm.mk 1 x.var []).lL=1:=by rw[Tm.iO];rfl
  omega
theorem wg{ru:Nt->List TB×Bool}{ns:List Nt}{L:List TB}:L∈gJ ru ns↔∃n∈ns,(ru n).2=true/\(ru n).1=L:=by
 unfold gJ
 rw[List.mem_map]
 constructor
 ·rintro⟨n,hn,rfl⟩
  rw[List.mem_filter]at hn
  exact⟨n,hn.1,hn.2,rfl⟩
 ·rintro⟨n,hn,h1,h2⟩
  exact⟨n,List.mem_filter.2 ⟨hn,h1⟩,h2⟩
theorem Cq{s:b9}(h:bn s){l:List TB}(hl:qZ s l){ru:Nt->List TB×Bool}(ze:∀n∈s.aD,∃f,da f (aO (ag l) n.a) (aO (ag l) n.b) []=some (ru n)){n:Nt}(hn:n∈s.aD)(h2:(ru n).2=true):
 dK s.sig (ru n).1/\aO (ag (ru n).1) (aO (ag l) n.a)=aO (ag (ru n).1) (aO (ag l) n.b):=by
 obtain⟨f,hf⟩:=ze n hn
 have e:ru n=((ru n).1,true):=by rw[<- h2]
 rw[e]at hf
 have va:=Vs.sub hl.zd.bd n.a (bc (h.aD n hn).1).1
 have vb:=Vs.sub hl.zd.bd n.b (bc (h.aD n hn).2.1).1
 exact⟨(gU f _ _ [] _ hf dK.nil va vb).1,sQ f _ _ [] _ hf dK.nil va vb⟩
theorem aan{s:b9}(h:bn s){l:List TB}(hl:qZ s l){ru:Nt->List TB×Bool}(ze:∀n∈s.aD,∃f,da f (aO (ag l) n.a) (aO (ag l) n.b) []=some (ru n)):∀L∈gJ ru s.aD,L.length≠0/\L.length<=20/\dK s.sig L:=fun L hL=>by
 obtain⟨n,hn,h2,rfl⟩:=wg.1 hL
 obtain⟨k1,k2⟩:=Cq h hl ze hn h2
 refine⟨fun h0=> ?_,k1.len,k1⟩
 have h0:=List.length_eq_zero_iff.1 h0
 rw[h0]at k2
 have va:=(bc (h.aD n hn).1).1
 have vb:=(bc (h.aD n hn).2.1).1
 rw[sD (s:=s.sig) (b:=ag []) _ (Vs.sub hl.zd.bd n.a va) (fun _ _=>rfl),sD (s:=s.sig) (b:=ag []) _ (Vs.sub hl.zd.bd n.b vb) (fun _ _=>rfl)]at k2
 obtain⟨l0,ρ,R,hS,Xz⟩:=jr h.gA.keys h.gA.ok h.gA.Fu
 have hg:=yq h hl (θ:=ag l0) fun p hp=>(hS.ok p.1 p.2 ((fN h.gA.keys).2 hp)).2.1
 exact(h.aD n hn).2.2 ((wb hS va vb).2 (by rw[<- mn.sub hg va, <- mn.sub hg vb,k2]))
theorem aao{s:b9}(h:bn s){l:List TB}(hl:qZ s l){ru:Nt->List TB×Bool}(ze:∀n∈s.aD,∃f,da f (aO (ag l) n.a) (aO (ag l) n.b) []=some (ru n)){θ:List (Int×Tm)}:Slv θ s↔Sat θ (ag l)/\∀L∈gJ ru s.aD, ¬Sat θ (ag L):=by
 unfold Slv
 rw[aam h hl]
 refine and_congr_right fun hs=> ?_
 have hg:=(Co hl.zd).1 hs
 constructor
 ·intro h1 L hL hS
  obtain⟨n,hn,h2,rfl⟩:=wg.1 hL
  obtain⟨k1,k2⟩:=Cq h hl ze hn h2
  have va:=(bc (h.aD n hn).1).1
  have vb:=(bc (h.aD n hn).2.1).1
  have hgL:=(Co k1).1 hS
  refine h1 n hn ?_
  rw[<- mn.sub hg va, <- mn.sub hg vb, <- mn.sub hgL (Vs.sub hl.zd.bd n.a va), <- mn.sub hgL (Vs.sub hl.zd.bd n.b vb),k2]
 ·intro h1 n hn he
  have va:=(bc (h.aD n hn).1).1
  have vb:=(bc (h.aD n hn).2.1).1
  obtain⟨f,hf⟩:=ze n hn
  have:=pH f _ _ [] (ru n) hf dK.nil (Vs.sub hl.zd.bd n.a va) (Vs.sub hl.zd.bd n.b vb) (θ:=θ) mn.nil (by rw[mn.sub hg va,mn.sub hg vb];exact he)
  have hL:(ru n).1∈gJ ru s.aD:=wg.2 ⟨n,hn,this.1,rfl⟩
  exact h1 _ hL ((Co (Cq h hl ze hn this.1).1).2 this.2)
def EqB(s:b9)(own:List Sy):Prop:=∀θ,Sat θ (ag s.binds)↔∀x∈own,x.no=false->aO θ x.a=aO θ x.b
theorem S2{s T:b9}{own:List Sy}(h:bn s){x:Sy}(hx:x.Ok s.sig)(sd:SdP s x T 0)(he:EqB s own):EqB T (own++[x]):=fun θ=>by
 have key:Sat θ (ag T.binds)↔Sat θ (ag s.binds)/\(x.no=false->aO θ x.a=aO θ x.b):=by
  rcases sd.sem with⟨hn,f,e1,b',bk,hq,AJ,e,hT⟩|⟨hn,bA,l,ρ,R,f,r,WE,hS,hl,hr,e,hT⟩
  ·have hT:=hT rfl
   obtain⟨rfl,hb⟩:=tellE_0 e.symm
   obtain⟨E,hE,hB⟩:=sO h hx.va hx.vb hq
   have eb:ag T.binds=b':=by rw[hT];exact Jo b'
   rw[eb]
   constructor
   ·intro k1
    have k3:Sat θ (ag s.binds):=fun p hp=>k1 p (by rw[hE,ew];exact List.mem_append_left _ hp)
    exact⟨k3,fun _=>((Fa h hx.va hx.vb hq k3).1 rfl).1 k1⟩
   ·rintro⟨k1,k3⟩
    exact((Fa h hx.va hx.vb hq k1).1 rfl).2 (k3 hn)
  ·have hb:T.binds=s.binds:=by
    rw[hT]
    unfold jW at e
    unfold lS
    split at e
    ·exact absurd e bF
    ·rename_i h1
     split at e
     ·rename_i h2
      split at e
      ·exact absurd e bF
      ·rename_i h3
       rw[if_neg h1,if_pos h2,if_neg h3]
       rfl
     ·rename_i h2
      rw[if_neg h1,if_neg h2]
   rw[hb,hn]
   simp
 rw[key,he θ]
 constructor
 ·rintro⟨h1,h2⟩ y hy
  rcases List.mem_append.1 hy with hy|hy
  ·exact h1 y hy
  ·rw[List.mem_singleton.1 hy];exact h2
 ·intro h1
  exact⟨fun y hy=>h1 y (List.mem_append_left _ hy),h1 x aF⟩
theorem wh:∀ (l:List Sy) {s:b9} {own:List Sy},bn s->s.sig.Fits->(∀x∈l,x.Ok s.sig)->EqB s own->EqB (sU s l).1 (own++(sU s l).2)
 |[],s,own,_,_,_,he=>by simpa[sU]using he
 |x::l,s,own,h,hf,hx,he=>by
  have hs:=PG h hf (hx x aF)
  simp only[sU]
  by_cases h0:(SS s x).2=0
  ·rw[if_pos h0]
   obtain⟨k1,k2,k3,_⟩:=hs.ok h0
   rw[h0]at hs
   have:=wh l k1 (by rw[k2];exact hf) (fun y hy=>by rw[k2];exact hx y jX) (S2 h (hx x aF) hs he)
   simpa using this
  ·rw[if_neg h0]
   exact wh l h hf (fun y hy=>hx y jX) he
theorem Cr:∀ (l:List Sy) (s:b9),(sU s l).2.Sublist l
 |[],s=>by simp[sU]
 |x::l,s=>by
  simp only[sU]
  split
  ·exact(Cr l _).cons_cons x
  ·exact(Cr l s).cons x
def nJ(l:List TB):Prop:=∀v u,Lv (ag l) v= .mk 1 u []->u<=v
theorem nJ.nil:nJ []:=fun v u h=>by
 have:Lv (ag []) v= .mk 1 v []:=rfl
 rw[this]at h
 injection h with _ h
 omega
theorem PJ{n:Int}{t x:Tm}{u:Int}{s:az}(hx:Vs s x)(h:aO (vB n t) x= .mk 1 u []):(x= .mk 1 n []/\t= .mk 1 u [])\/x= .mk 1 u []:=by
 by_cases h1:x.op=1
 ·have e:=hx.eta h1
  rw[dW hx h1]at h
  by_cases hn:n=x.n
  ·left
   rw[e]
   refine⟨by rw[hn], ?_⟩
   rw[<- h, <- hn]
   simp[Lv,bR]
  ·right
   rw[<- h]
   simp[Lv,bR,hn]
   exact e
 ·rw[eo h1]at h
  injection h with h2
  exact absurd h2 h1
theorem nJ.Hn {s:az}{l:List TB}(h:nJ l)(hl:dK s l){n:Int}{t:Tm}(hn:bR (ag l) n=none)(ht:∀u,t= .mk 1 u []->u<=n):nJ (iP l n t):=fun v u hv=>by
 rw[jq hn]at hv
 split at hv
 ·rename_i e
  subst e
  exact ht u hv
 ·rename_i fS
  cases hk:bR (ag l) v with
  |none=>
   have e1:Lv (ag l) v= .mk 1 v []:=by simp[Lv,hk]
   rw[e1,dJ]at hv
   have:Lv (vB n t) v= .mk 1 v []:=by
    have ah3: ¬n=v:=fun e=>fS e.symm
    simp[Lv,bR,ah3]
   rw[this]at hv
   injection hv with _ hv
   omega
  |some x=>
   have e1:Lv (ag l) v=x:=by simp[Lv,hk]
   rw[e1]at hv
   obtain⟨y,hy,ey⟩:=cz (cm hk)
   have hx:Vs s x:=by
    have:=(hl.ok y hy).2
    rwa [show y.term=x from(congrArg Prod.snd ey).symm]at this
   rcases PJ hx hv with⟨e2,e3⟩|e2
   ·have a1:=h v n (e1.trans e2)
    have a2:=ht u e3
    omega
   ·exact h v u (e1.trans e2)
theorem JL{s:az}:∀ (f:Nat) (a c:Tm) (l l':List TB),da f a c l=some (l',true)->dK s l->Vs s a->Vs s c->nJ l->nJ l'
 |0,_,_,_,_,h,_,_,_,_=>by cases h
 |f+1,a,c,l,l',h,hl,ha,hc,hm=>by
  have va:=Vs.sub hl.bd a ha
  have vc:=Vs.sub hl.bd c hc
  have na:=hl.EF ha
  have nc:=hl.EF hc
  simp only[da]at h
  generalize aO (ag l) a=a0 at*
  generalize aO (ag l) c=c0 at*
  split at h
  ·injection h with h;injection h with h;subst h;exact hm
  ·split at h
   ·rename_i h1
    injection h with h;injection h with h;subst h
    obtain⟨r1,u1,e1⟩:=na h1.1
    obtain⟨r2,u2,e2⟩:=nc h1.2
    have wM:bR (ag l) (max a0.n c0.n)=none:=by rcases Int.le_total a0.n c0.n with h|h<;>simp[Int.max_def]<;>split<;>assumption
    refine hm.Hn hl wM fun u hu=> ?_
    injection hu with _ hu
    omega
   ·split at h
    ·rename_i h1 h2
     injection h with h;injection h with h;subst h
     obtain⟨r1,u1,e1⟩:=na h2
     refine hm.Hn hl u1 fun u hu=>absurd ?_ (fun e:c0.op=1=>h1 ⟨h2,e⟩)
     rw[hu];rfl
    ·split at h
     ·rename_i h1 h2 h3
      injection h with h;injection h with h;subst h
      obtain⟨r2,u2,e2⟩:=nc h3
      refine hm.Hn hl u2 fun u hu=>absurd ?_ h2
      rw[hu];rfl
     ·rename_i h1 h2 h3
      split at h
      ·injection h with h;injection h with _ h;cases h
      ·have key:∀ (ks cK:List Tm) (l:List TB),(∀k∈ks,Vs s k)->(∀k∈cK,Vs s k)->dK s l->nJ l->bH (da f) ks cK l=some (l',true)->nJ l':=by
        intro ks
        induction ks with
        |nil=>intro cK l _ _ hl hm h;simp only[bH]at h;injection h with h;injection h with h;subst h;exact hm
        |cons k ks vC=>
         intro cK l h1 h2 hl hm h
         cases cK with
         |nil=>simp only[bH]at h;injection h with h;injection h with h;subst h;exact hm
         |cons k' cK=>
          have v1:=h1 k aF
          have v2:=h2 k' aF
          simp only[bH]at h
          split at h
          ·rename_i l1 e
           have g1:=(gU f k k' l l1 e hl v1 v2).1
           exact vC cK l1 (fun x hx=>h1 x pN) (fun x hx=>h2 x pN) g1 (JL f k k' l l1 e hl v1 v2 hm) h
          ·injection h with h;injection h with _ h;cases h
          ·cases h
       exact key a0.kids c0.kids l (fun k hk=>va.lu hk) (fun k hk=>vc.lu hk) hl hm h
theorem yr{s:az}{f:Nat}:∀ (ps cs:List Tm) (l l':List TB),bH (da f) ps cs l=some (l',true)->dK s l->(∀t∈ps,Vs s t)->(∀t∈cs,Vs s t)->nJ l->nJ l'
 |[],cs,l,l',h,_,_,_,hm=>by
  exact Uk
 |a::ps,[],l,l',h,_,_,_,hm=>by
  exact Uk
 |a::ps,c::cs,l,l',h,hl,ha,hc,hm=>by
  have va:=ha a aF
  have vc:=hc c aF
  simp only[bH]at h
  cases hq:da f a c l with
  |none=>rw[hq]at h;cases h
  |some q=>
  obtain⟨l1,ok⟩:=q
  rw[hq]at h
  cases ok with
  |false=>simp only at h;injection h with h;injection h with _ h;cases h
  |true=>
   simp only at h
   exact yr ps cs l1 l' h (gU f a c l l1 hq hl va vc).1 (fun t ht=>ha t nL) (fun t ht=>hc t nL) (JL f a c l l1 hq hl va vc hm)
theorem PK{s:az}{l l':List TB}(hl:dK s l)(vK:dK s l')(hm:nJ l)(hm':nJ l')(h1:mn (ag l) l'){u:Int}(hu:0<=u/\u<20)(h:bR (ag l) u=none):Lv (ag l') u= .mk 1 u []:=by
 have e:=h1 u hu
 have e0:Lv (ag l) u= .mk 1 u []:=by simp[Lv,h]
 rw[e0]at e
 have vz:=Vs.Lv vK.bd hu
 by_cases hz:(Lv (ag l') u).op=1
 ·have ez:=vz.eta hz
  rw[ez,dJ]at e
  have a1:=hm _ _ e
  have a2:=hm' _ _ ez
  rw[ez]
  congr 1
  omega
 ·rw[eo hz]at e
  injection e with e2
  exact absurd e2 hz
theorem aap{s:az}{l l':List TB}(hl:dK s l)(vK:dK s l')(hm:nJ l)(hm':nJ l')(h1:mn (ag l) l')(h2:mn (ag l') l){v:Int}(hv:0<=v/\v<20):Lv (ag l) v=Lv (ag l') v:=by
 have vx:=Vs.Lv hl.bd hv
 rw[<- h2 v hv]
 have:aO (ag l') (Lv (ag l) v)=aO (ag []) (Lv (ag l) v):=EE _ vx fun u hu=>by
  rw[PK hl vK hm hm' h1 (vx.range hu) (hl.Jc hu)]
  rfl
 rw[this,sD (s:=s) _ vx fun _ _=>rfl]
theorem JM:∀ {l l':List TB},l.Pairwise (fun x y=>x.var<y.var)->l'.Pairwise (fun x y=>x.var<y.var)->(∀x,x∈l↔x∈l')->l=l'
 |[],[],_,_,_=>rfl
 |[],y::_,_,_,h=>absurd ((h y).2 aF) aF
 |x::_,[],_,_,h=>absurd ((h x).1 aF) aF
 |x::l,y::l',h1,h2,h=>by
  have p1:=List.pairwise_cons.1 h1
  have p2:=List.pairwise_cons.1 h2
  have Wt:x=y:=by
   rcases List.mem_cons.1 ((h x).1 aF)with e|hx
   ·exact e
   rcases List.mem_cons.1 ((h y).2 aF)with e|hy
   ·exact e.symm
   have a1:=p2.1 x hx
   have a2:=p1.1 y hy
   omega
  subst Wt
  congr 1
  refine JM p1.2 p2.2 fun z=>⟨fun hz=> ?_,fun hz=> ?_⟩
  ·rcases List.mem_cons.1 ((h z).1 pX)with e|Dc
   ·subst e;have:=p1.1 z hz;omega
   ·exact Dc
  ·rcases List.mem_cons.1 ((h z).2 pX)with e|Dc
   ·subst e;have:=p2.1 z hz;omega
   ·exact Dc
theorem JN{s:az}{l l':List TB}(hl:dK s l)(vK:dK s l')(h:∀v,0<=v/\v<20->Lv (ag l) v=Lv (ag l') v){x:TB}(hx:x∈l):x∈l':=by
 obtain⟨k1,k2⟩:=WK hl hx
 have e:=h x.var (hl.ok x hx).1
 rw[k2]at e
 cases hk:bR (ag l') x.var with
 |none=>
  have e0:x.term= .mk 1 x.var []:=by rw[e];simp[Lv,hk]
  have:=hl.idem x hx x.var (by rw[e0];exact(iy rfl).2 rfl)
  rw[this]at k1
  cases k1
 |some y=>
  have e0:x.term=y:=by rw[e];simp[Lv,hk]
  obtain⟨z,hz,ez⟩:=cz (cm hk)
  injection ez with e1 e2
  have:x=z:=by
   cases x;cases z
   simp only at e0 e1 e2
   subst e0;subst e1;subst e2
   rfl
  rw[this];exact hz
theorem S3{s t:b9}(hs:bn s)(ht:bn t)(sn:t.sig=s.sig){l l':List TB}(hl:qZ s l)(vK:qZ t l')(h:∀θ,Sat θ (ag s.binds)↔Sat θ (ag t.binds)):l=l':=by
 have s1:=hl.zd
 have s2:=vK.zd
 rw[sn]at s2
 have m1:nJ l:=by
  obtain⟨f,hf⟩:=hl.uni
  obtain⟨hv,hc⟩:=E8 hs
  exact yr _ _ [] l hf dK.nil (fun t h=>(hv t h).1) (fun t h=>(hc t h).1) nJ.nil
 have m2:nJ l':=by
  obtain⟨f,hf⟩:=vK.uni
  obtain⟨hv,hc⟩:=E8 ht
  exact yr _ _ [] l' hf dK.nil (fun t h=>(hv t h).1) (fun t h=>(hc t h).1) nJ.nil
 have self:∀ {q:az} {l:List TB},dK q l->mn (ag l) l:=fun {q l} hq v hv=>by
  have:=hq.afh (Vs.var hv)
  rwa [dJ]at this
 have g1:mn (ag l) l':=yq ht vK ((h _).1 (Hs hs hl (self s1)))
 have g2:mn (ag l') l:=yq hs hl ((h _).2 (Hs ht vK (self s2)))
 have e:∀v,0<=v/\v<20->Lv (ag l) v=Lv (ag l') v:=fun v hv=>aap s1 s2 m1 m2 g1 g2 hv
 exact JM s1.ZW s2.ZW fun x=>⟨JN s1 s2 e,JN s2 s1 fun v hv=>(e v hv).symm⟩
theorem Ry.back {P:Program}{g:FuncId}{args:List V}{o:Nat->aa}{nx:Nat}{x:D}(h:Ry P g args o (.d x))(hg:Good o nx){K X:V->(Nat->aa)->Nat->Prop}(hK:K (.d x) o nx):bJ P g args o nx K X:=by
 have h1:=h nx hg (fun v o' nx'=>v= .d x/\nx<=nx'/\Good o' nx'/\∀id,id<nx->o' id=o id) (fun _ _ _=>False) (fun o' nx' a b c=>⟨rfl,a,b,c⟩)
 refine⟨h1.1,fun M φ w vals hH hd=>(h1.2 M φ w vals hH hd).mono ?_⟩
 rintro e w' ⟨aI,o',nx',v,k1,k2,k3⟩
 cases e with
 |panicked ch=>obtain⟨val,a,b,c⟩:=k3;exact c.elim
 |outgrown=>exact k3.elim
 |returned val=>
  obtain⟨k3,rfl,a,b,c⟩:=k3
  have hle:bM nx ⟨aY [.d x],o',nx'⟩ ⟨aY [.d x],o,nx⟩:=by
   refine bM.bQ _ (Nat.le_refl _) a hg c ?_
   exact dU
  obtain⟨Gb,h1,h2,h3,h4,h5,h6⟩:=hle M aI w' (fun i=>if i=0 then val else undef) k1 (fun i=>by
   cases i with
   |zero=>exact k3
   |succ i=>exact trivial)
  refine⟨Gb,o,nx, .d x,h1,⟨k2.cP,fun k hk=>k2.grow k (h3 k hk),⟨fun id hu=>hu,fun id hu hr=> ?_,fun id e' hu he=> ?_⟩⟩,h2 0,hK⟩
  ·obtain⟨g1,g2⟩:=h5 id hu hr
   obtain⟨g3,g4⟩:=k2.rel.row id hu g1
   exact⟨g3,g2.trans g4⟩
  ·obtain⟨e,g1,g2,g3⟩:=h6 id e' hu he
   obtain⟨e0,j1,j2,j3⟩:=k2.rel.ep id e hu g1
   refine⟨e0,j1,Nat.le_trans j2 g2,fun heq=> ?_⟩
   have a1:e0=e:=ad
   have a2:e=e':=ad
   exact(g3 a2).trans (j3 a1)
theorem JO(l:List TB)(hl:l.length<=9223372036854775807){g p:Nat}{R:aa}(br:TB->Bool)(hb:∀x∈l,∀ (o:Nat->aa) (nx:Nat),Good o nx->o p=R->∀ (K X:V->(Nat->aa)->Nat->Prop),(∀ (o':Nat->aa) (nx':Nat),nx<=nx'->Good o' nx'->(∀j,j<nx->o' j=o j)->K (.d (.bool (br x))) o' nx')->bJ Tryz.prog g [.d x.d, .ptr p 0] o nx K X)
 (o:Nat->aa) (nx:Nat) (hg:Good o nx) (hp:o p=R) (lp:p<nx) (K X:V->(Nat->aa)->Nat->Prop)
 (hK:∀ (o':Nat->aa) (nx':Nat),nx<=nx'->Good o' nx'->(∀j,j<nx->o' j=o j)->K (.d (.bool (l.any br))) o' nx'):
 bJ Tryz.prog 56 [.d (.sl (l.map TB.d)), .func (.func g) [] [.ptr p 0]] o nx K X:=by
 refine bJ.aH mix ahp aF ?_
 rw[c56]
 refine gB ?_
 have key:∀ (K X:V->(Nat->aa)->Nat->Prop),(∀r:Int,decide (0<=r)=l.any br->∀ (o':Nat->aa) (nx':Nat),nx+3<=nx'->Good o' nx'->(∀j,j<nx->o' j=o j)->K (.d (.i r)) o' nx')->
  bJ Tryz.prog 96 [.d (.sl (l.map TB.d)), .func (.func g) [] [.ptr p 0]] o (nx+3) K X:=by
  intro K X hK
  refine bJ.aH mix ahK aF ?_
  rw[c96]
  refine LR ?_
  refine aC (fun i:Nat=>⟨aY [.d (.sl (l.map TB.d)), .func (.func g) [] [.ptr p 0], .ai, .ai, .ai, .ai, .ai, .d (.i l.length), .d (.i i)],o,nx+3⟩)
   (fun i=>i<=l.length/\l.any br=(l.drop i).any br) (fun i=>l.length - i) 0 ⟨Nat.zero_le _,rfl⟩ ?_ ?_
  ·exact QL
  rintro k ⟨Qj,zi⟩
  refine LR ?_
  refine ak (fun h1=> ?_) (fun h1=> ?_)
  ·have h1:k<l.length:=by simp at h1;omega
   obtain⟨x,hx⟩:=aA h1
   have cj:=List.mem_of_getElem? hx
   have hd:l.drop k=x::l.drop (k+1):=by
    exact W8
   rw[hd,List.any_cons]at zi
   refine dQ hx ?_
   refine aT (hb x cj _ _ (hg.mono ad) hp _ _ (fun o2 n2 m1 m2 m3=> ?_))
   cases yI:br x with
   |true=>
    exact QO
   |false=>
    exact zw3
  ·have h1:k=l.length:=by simp at h1;omega
   exact HW
 exact QJ
theorem S4(l:List (List TB))(hl:l.length<=9223372036854775807){g:Nat}(br:List TB->Bool)(hb:∀x∈l,∀ (o:Nat->aa) (nx:Nat),Good o nx->∀ (K X:V->(Nat->aa)->Nat->Prop),(∀ (o':Nat->aa) (nx':Nat),nx<=nx'->Good o' nx'->(∀j,j<nx->o' j=o j)->K (.d (.bool (br x))) o' nx')->bJ Tryz.prog g [.d (CH x)] o nx K X)
 (o:Nat->aa) (nx:Nat) (hg:Good o nx) (K X:V->(Nat->aa)->Nat->Prop)
 (hK:∀ (o':Nat->aa) (nx':Nat),nx<=nx'->Good o' nx'->(∀j,j<nx->o' j=o j)->K (.d (.bool (l.any br))) o' nx'):
 bJ Tryz.prog 54 [.d (.sl (l.map CH)), .func (.func g) [] []] o nx K X:=by
 refine bJ.aH mix ahn aF ?_
 rw[c54]
 refine gB ?_
 have key:∀ (K X:V->(Nat->aa)->Nat->Prop),(∀r:Int,decide (0<=r)=l.any br->∀ (o':Nat->aa) (nx':Nat),nx+3<=nx'->Good o' nx'->(∀j,j<nx->o' j=o j)->K (.d (.i r)) o' nx')->
  bJ Tryz.prog 95 [.d (.sl (l.map CH)), .func (.func g) [] []] o (nx+3) K X:=by
  intro K X hK
  refine bJ.aH mix ahJ aF ?_
  rw[c95]
  refine LR ?_
  refine aC (fun i:Nat=>⟨aY [.d (.sl (l.map CH)), .func (.func g) [] [], .ai, .ai, .ai, .ai, .ai, .d (.i l.length), .d (.i i)],o,nx+3⟩)
   (fun i=>i<=l.length/\l.any br=(l.drop i).any br) (fun i=>l.length - i) 0 ⟨Nat.zero_le _,rfl⟩ ?_ ?_
  ·exact QL
  rintro k ⟨Qj,zi⟩
  refine LR ?_
  refine ak (fun h1=> ?_) (fun h1=> ?_)
  ·have h1:k<l.length:=by simp at h1;omega
   obtain⟨x,hx⟩:=aA h1
   have cj:=List.mem_of_getElem? hx
   have hd:l.drop k=x::l.drop (k+1):=by
    exact W8
   rw[hd,List.any_cons]at zi
   refine dQ hx ?_
   refine bI (hb x cj _ _ ?_ _ _ (fun o2 n2 m1 m2 m3=> ?_))
   ·exact hg.mono ad
   cases yI:br x with
   |true=>
    exact QO
   |false=>
    exact zw3
  ·have h1:k=l.length:=by simp at h1;omega
   exact HW
 exact QJ
def S5(L:List TB):Bool:=decide ((L.length:Int)=0)||decide ((L.length:Int)>20)
theorem ah4(L:List TB)(hL:L.length<=9223372036854775807)(o:Nat->aa)(nx:Nat)(hg:Good o nx)(K X:V->(Nat->aa)->Nat->Prop)
 (hK:∀ (o':Nat->aa) (nx':Nat),nx<=nx'->Good o' nx'->(∀j,j<nx->o' j=o j)->K (.d (.bool (S5 L))) o' nx'):
 bJ Tryz.prog 55 [.d (CH L)] o nx K X:=by
 refine bJ.aH mix aho aF ?_
 rw[c55]
 have e:CH L= .sl (L.map TB.d):=rfl
 rw[e]
 refine LR ?_
 by_cases h0:L.length=0
 ·have h1:((L.length:Int)==0)=true:=by rw[beq_iff_eq];omega
  have h2:S5 L=true:=by unfold S5;rw[decide_eq_true (by omega)];rfl
  exact Ul
 ·have h1:((L.length:Int)==0)=false:=by rw[beq_eq_false_iff_ne];omega
  have h2:S5 L=decide ((L.length:Int)>20):=by unfold S5;rw[decide_eq_false (by omega)];rfl
  exact Ul
theorem afv{s:az}{P:List TB}(hP:AQ P){x:TB}(hr:0<=x.var/\x.var<20)(hv:Vs s x.term)(hf:x.term.eP){p:Nat}(o:Nat->aa)(nx:Nat)(hg:Good o nx)(hp:o p= .row [.d (.sl (P.map TB.d))])(K X:V->(Nat->aa)->Nat->Prop)
 (hK:∀ (o':Nat->aa) (nx':Nat),nx<=nx'->Good o' nx'->(∀j,j<nx->o' j=o j)->K (.d (.bool (!AR P (qY x) x.term))) o' nx'):
 bJ Tryz.prog 57 [.d x.d, .ptr p 0] o nx K X:=by
 have wJ:=hP.len
 have lp:p<nx:=hg.lt CJ
 have w1:∀k,p≠nx+k:=fun k=>ad
 have w2:p≠nx:=ad
 have cs:a7 Tryz.prog 36 [.sl (P.map TB.d),(qY x).d,x.term.d] (.ret [.bool (AR P (qY x) x.term)]):=sV ad hP.eP (qY x) x.term (Vs.var hr) (sP _) hv hf
 refine bJ.aH mix ahq aF ?_
 rw[c57]
 exact ach
theorem afw{s:az}{P:List TB}(hP:AQ P){x:TB}(hr:0<=x.var/\x.var<20)(hv:Vs s x.term)(hf:x.term.eP){p:Nat}(o:Nat->aa)(nx:Nat)(hg:Good o nx)(hp:o p= .row [.d (.sl (P.map TB.d))])(K X:V->(Nat->aa)->Nat->Prop)
 (hK:∀ (o':Nat->aa) (nx':Nat),nx<=nx'->Good o' nx'->(∀j,j<nx->o' j=o j)->K (.d (.bool (!AR P (qY x) x.term))) o' nx'):
 bJ Tryz.prog 58 [.d x.d, .ptr p 0] o nx K X:=by
 have wJ:=hP.len
 have lp:p<nx:=hg.lt CJ
 have w1:∀k,p≠nx+k:=fun k=>ad
 have w2:p≠nx:=ad
 have cs:a7 Tryz.prog 36 [.sl (P.map TB.d),(qY x).d,x.term.d] (.ret [.bool (AR P (qY x) x.term)]):=sV ad hP.eP (qY x) x.term (Vs.var hr) (sP _) hv hf
 refine bJ.aH mix ahr aF ?_
 rw[c58]
 exact ach
end Go.Proofs.YtlhemmpklhhgoaaGreat
section
namespace Go.Proofs.YtlhemmpklhhgoaaGreat
open Go.Shelf Go.RowKit Go.Lib
theorem lT{P:Program}(w:World)(dT sT ty elem:TypeId)(b o aaq ah5:Nat)(a:Addr)(aar ah6:Nat)(cs:List Value){q:TypeInfo}
 (hu:P.underlying dT=some (.slice elem)) (hq:P.info? elem=some q) (hn:cs.length=Nat.min aar aaq*q.size)
 (XA:∀j v,cs[j]? =some v->w.cell? (a.add j)=some v) (hc:∀j,j<cs.length->(w.cell? ⟨b,o+j,none⟩).isSome=true) (hf:∀j,j<cs.length->w.frozen? ⟨b,o+j,none⟩=false) (h1:∀v∈cs,v.oneCell'=true):
 (Builtin.copy_ #[dT,sT] ty #[.slice (some ⟨b,o,none⟩) aaq ah5, .slice (some a) aar ah6]).run P w= .ok (goInt (Nat.min aar aaq)) (w.setCells b o cs):=by
 have hl:=run_loadCells_list (P:=P) w a cs XA
 have kC:=run_storeCells_cells (P:=P) b o cs 0 w (by simpa using hc) (by simpa using hf) h1
 simp[Builtin.copy_,run_underlying hu,Builtin.lenOf,Builtin.firstCells,sizeOf,typeInfo,hq, <- hn,hl,kC]
theorem gK(b:Nat)(e:TypeId)(fz:Nat×Nat):∀ (vs:List Value) (o:Nat) (w:World) (cur:Array Value),w.heap[b]? =some (.cells cur e fz)->o+vs.length<=cur.size->
 ∃PM:Array Value,(w.setCells b o vs).heap[b]? =some (.cells PM e fz)/\PM.size=cur.size/\∀k,PM[k]? =if o<=k/\k<o+vs.length then vs[k - o]? else cur[k]?
 |[],o,w,cur,h,_=>⟨cur,h,rfl,fun k=>by rw[if_neg (by simp)]⟩
 |v::r,o,w,cur,h,hl=>by
  have h1:(w.setCell ⟨b,o,none⟩ v).heap[b]? =some (.cells (cur.setIfInBounds o v) e fz):=by
   unfold World.setCell
   simp[Array.getElem?_modify,h]
  obtain⟨PM,g1,g2,g3⟩:=gK b e fz r (o+1) _ _ h1 (by simp at hl|-;omega)
  refine⟨PM,g1,by rw[g2];simp,fun k=> ?_⟩
  rw[g3,Array.getElem?_setIfInBounds]
  simp only[List.length_cons]at hl|-
  by_cases hk:k=o
  ·subst hk
   rw[if_neg (by omega),if_pos rfl,if_pos (by omega),if_pos (by omega)]
   simp
  ·by_cases h2:o+1<=k/\k<o+1+r.length
   ·rw[if_pos h2,if_pos (by omega),show k - o=(k - (o+1))+1 by omega]
    rfl
   ·rw[if_neg h2,if_neg (fun e=>hk e.symm),if_neg (by omega)]
theorem gL(b:Nat):∀ (vs:List Value) (o:Nat) (w:World),dZ (· =b) w (w.setCells b o vs)
 |[],_,w=>dZ.refl _ _
 |v::r,o,w=>by
  have h:=gL b r (o+1) (w.setCell ⟨b,o,none⟩ v)
  have hs:(w.setCell ⟨b,o,none⟩ v).heap.size=w.heap.size:=by unfold World.setCell;simp
  refine⟨h.os.trans rfl,h.tape.trans rfl,h.output.trans rfl,by rw[<- hs];exact h.size,fun k hk fS=> ?_⟩
  refine(h.block k (by rw[hs];exact hk) fS).trans ?_
  unfold World.setCell
  simp only[Array.getElem?_modify]
  rw[if_neg (fun e=>fS e.symm)]
theorem Fb{B:Nat->Prop}{w:World}{sz:Nat}{es:List D}{xs:List Value}(h:dG B w sz es xs):Flat xs:=by
 obtain⟨evs,rfl,h2,h3⟩:=h
 intro u hu
 obtain⟨ev,h4,h5⟩:=List.mem_flatMap.1 hu
 obtain⟨i,hi⟩:=List.mem_iff_getElem?.1 h4
 have hl:=D.aE _ _ h3
 have cD:i<es.length:=by rw[<- hl];exact(List.getElem?_eq_some_iff.1 hi).1
 obtain⟨v',oe,Kp⟩:=D.dA _ _ i es[i] h3 (by simp[cD])
 rw[hi]at oe;injection oe with oe;subst oe
 exact(D.eV _ _ Kp).2 u h5
theorem PN{B:Nat->Prop}{w:World}(i:Nat){x:D}{ev:Value}(hx:D.den B w x ev):∀ {es:List D} {evs:List Value},D.aG B w es evs->D.aG B w (es.take i++[x]++es.drop i) (evs.take i++[ev]++evs.drop i):=by
 intro es evs h
 have h1:∀ (k:Nat) {es:List D} {evs:List Value},D.aG B w es evs->D.aG B w (es.take k) (evs.take k)/\D.aG B w (es.drop k) (evs.drop k):=by
  intro k
  induction k with
  |zero=>intro es evs h;exact⟨by simp[D.aG],by simpa using h⟩
  |succ k ih=>
   intro es evs h
   cases es with
   |nil=>simp only[D.aG]at h;subst h;exact⟨by simp[D.aG],by simp[D.aG]⟩
   |cons e es=>
    simp only[D.aG]at h
    obtain⟨v,vs,rfl,h2,h3⟩:=h
    have:=ih h3
    refine⟨?_,by simpa using this.2⟩
    simp only[List.take_succ_cons,D.aG]
    exact⟨_,_,rfl,h2,this.1⟩
 exact D.bg _ _ _ _ (D.bg _ _ _ _ (h1 i h).1 (by simp only[D.aG];exact⟨_,_,rfl,hx,rfl⟩)) (h1 i h).2
theorem Cs{sz:Nat}:∀ (i:Nat) (evs:List Value),(∀ev∈evs,ev.cells.size=sz)->(evs.flatMap (·.cells.toList)).take (i*sz)=(evs.take i).flatMap (·.cells.toList)/\(evs.flatMap (·.cells.toList)).drop (i*sz)=(evs.drop i).flatMap (·.cells.toList)
 |0,evs,_=>aF
 |i+1,[],_=>aF
 |i+1,ev::evs,h=>by
  have hl:ev.cells.toList.length=sz:=by simpa using h ev aF
  have ih:=Cs i evs fun v hv=>h v (by simp[hv])
  have he:(i+1)*sz=ev.cells.toList.length+i*sz:=by rw[hl,Nat.add_mul,Nat.one_mul,Nat.add_comm]
  simp only[List.flatMap_cons,List.take_succ_cons,List.drop_succ_cons]
  rw[he,List.take_length_add_append,List.drop_length_add_append,ih.1,ih.2]
  exact⟨rfl,rfl⟩
theorem S6{B:Nat->Prop}{w:World}{sz:Nat}{es:List D}{x:D}{xs vs:List Value}(i:Nat)(h:dG B w sz es xs)(hx:dG B w sz [x] vs):dG B w sz (es.take i++[x]++es.drop i) (xs.take (i*sz)++vs++xs.drop (i*sz)):=by
 obtain⟨evs,rfl,h2,h3⟩:=h
 obtain⟨xvs,rfl,g2,g3⟩:=hx
 simp only[D.aG]at g3
 obtain⟨ev,_,rfl,g3,rfl⟩:=g3
 refine⟨evs.take i++[ev]++evs.drop i, ?_,fun v hv=> ?_,PN i g3 h3⟩
 ·rw[(Cs i evs h2).1,(Cs i evs h2).2]
  simp
 ·rcases List.mem_append.1 hv with hv|hv
  ·rcases List.mem_append.1 hv with hv|hv
   ·exact h2 v (List.mem_of_mem_take hv)
   ·exact g2 v hv
  ·exact h2 v (List.mem_of_mem_drop hv)
set_option maxHeartbeats 4000000 in
set_option maxRecDepth 100000 in
theorem LN(b n c i vb vc:Nat)(cs vs:List Value)(w:World)(hi:i<n)(qe:n+1<=c)(afx:c<=9223372036854775807)(MK:vb≠b)
 (pg:cs.length=n*7) (rG:vs.length=7)
 (Qp:∀j v,cs[j]? =some v->w.cell? ⟨b,j,none⟩=some v) (LW:∀j,j<(n+1)*7->(w.cell? ⟨b,j,none⟩).isSome=true) (hfz:∀j,j<(n+1)*7->w.frozen? ⟨b,j,none⟩=false)
 (vV:∀j v,vs[j]? =some v->w.cell? ⟨vb,j,none⟩=some v) (h1c:∀v∈cs,v.oneCell'=true) (h1v:∀v∈vs,v.oneCell'=true)
 (tA tB:TypeId) (kA kB:Nat) (hsa:w.shape? vb=some (tA,kA)) (hsb:w.shape? b=some (tB,kB)) (hkB:kB≠0) (Fo:w.frozen? ⟨vb,0,none⟩=false) (Q9:w.frozen? ⟨vb,kA,none⟩=false):
 Calls Tryz.prog 59 #[.slice (some ⟨b,0,none⟩) n c, .int .i64 i, .slice (some ⟨vb,0,none⟩) 1 vc] w fun e w'=>
  e= .returned (.slice (some ⟨b,0,none⟩) (n+1) c)/\w'=(w.drew.setCells b ((i+1)*7) (cs.drop (i*7))).setCells b (i*7) vs:=by
 have t0:=Tryz.underlying0;have t3:=Tryz.underlying3;have t4:=Tryz.underlying4;have t22:=Tryz.underlying48
 have a0:=Tryz.isAgg0;have a3:=Tryz.isAgg3;have a4:=Tryz.isAgg4;have a22:=Tryz.isAgg48
 have z0:=Tryz.sizeOf0;have z3:=Tryz.sizeOf3;have z4:=Tryz.sizeOf4;have z22:=Tryz.sizeOf48;have z53:=Tryz.sizeOf53
 have v0:=Tryz.zeroValue0;have v3:=Tryz.zeroValue3;have v4:=Tryz.zeroValue4;have v22:=Tryz.zeroValue48
 have u0:=run_underlying t0;have u3:=run_underlying t3;have u4:=run_underlying t4;have u22:=run_underlying t22
 obtain⟨q,hq,hqs⟩:∃q,Tryz.prog.info? 53=some q/\q.size=7:=⟨_,rfl,aJ⟩
 have L6: ¬ ((i:Int)=(n:Int)):=ad
 have hov:∀lb cb,(callFunc 97 #[.slice (some ⟨vb,0,none⟩) 1 vc, .slice (some ⟨b,(i+1)*7,none⟩) lb cb]).run Tryz.prog w= .ok (.value (.bool false)) w:=fun lb cb=>by
  rw[run_callFunc_extern Tryz.func97 (by kernel_rfl) (by kernel_rfl) (by kernel_rfl) (e:=Extern.SlicesOverlaps.overlaps #[48,48] #[4]) (by kernel_rfl),
   Lib.run_overlaps_apart w 48 4 53 t22 7 z53 ⟨vb,0,none⟩ ⟨b,(i+1)*7,none⟩ 1 vc lb cb MK tA tB kA kB hsa hsb hkB Fo Q9]
  rfl
 have Kd:(cs.drop (i*7)).length=(n - i)*7:=by rw[List.length_drop,pg,Nat.sub_mul]
 have afy:∀ty dl dc sl sc,dl=n - i->sl=n+1 - i->(Builtin.copy_ #[48,48] ty #[.slice (some ⟨b,(i+1)*7,none⟩) dl dc, .slice (some ⟨b,i*7,none⟩) sl sc]).run Tryz.prog w.drew= .ok (goInt (n - i:Nat)) (w.drew.setCells b ((i+1)*7) (cs.drop (i*7))):=fun ty dl dc sl sc e1 e2=>by
  have hm:Nat.min sl dl=n - i:=by simp only[Nat.min_def];split<;>omega
  have:=lT (P:=Tryz.prog) w.drew 48 48 ty 53 b ((i+1)*7) dl dc ⟨b,i*7,none⟩ sl sc (cs.drop (i*7)) t22 hq (by rw[Kd,hm,hqs])
   (fun j v hj=>by rw[Addr.add_lit];exact Qp (i*7+j) v (by rwa [List.getElem?_drop]at hj))
   (fun j hj=>LW _ HS) (fun j hj=>hfz _ HS) (fun v hv=>h1c v (List.mem_of_mem_drop hv))
  exact HY
 obtain⟨W1,L9⟩:∃W1,W1=w.drew.setCells b ((i+1)*7) (cs.drop (i*7)):=⟨_,rfl⟩
 have ah7:∀k,k<(n+1)*7->(W1.cell? ⟨b,k,none⟩).isSome=true:=fun k hk=>by
  rw[L9]
  exact Go.Proofs.isSome_setCells b (cs.drop (i*7)) ((i+1)*7) w.drew (fun j hj=>LW _ HS) k (LW k hk)
 have aaj:∀ (W:World),(∀x,W.cell? x=W1.cell? x)->(∀x,W.frozen? x=W1.frozen? x)->∀ty dl dc,dl=n+1 - i->(Builtin.copy_ #[48,48] ty #[.slice (some ⟨b,i*7,none⟩) dl dc, .slice (some ⟨vb,0,none⟩) 1 vc]).run Tryz.prog W= .ok (goInt (1:Nat)) (W.setCells b (i*7) vs):=fun W WL hWf ty dl dc e1=>by
  have hm:Nat.min 1 dl=1:=by simp only[Nat.min_def];split<;>omega
  have:=lT (P:=Tryz.prog) W 48 48 ty 53 b (i*7) dl dc ⟨vb,0,none⟩ 1 vc vs t22 hq (by rw[rG,hm,hqs])
   (fun j v hj=>by
    rw[Addr.add_lit,WL,L9,World.cell?_setCells_out b _ _ _ _ (fun h _=>absurd h MK),Nat.zero_add]
    exact vV j v hj)
   (fun j hj=>by rw[WL];exact ah7 _ (by rw[rG]at hj;omega)) (fun j hj=>by rw[hWf,L9,World.frozen?_setCells];exact hfz _ (by rw[rG]at hj;omega)) h1v
  exact HY
 rw[<- L9]at afy
 have mixed:Tryz.prog.follows .mixedOrders=true:=aJ
 have hw1:IntKind.i64.wrap ((i:Int)+1)=(i:Int)+1:=by rw[IntKind.wrap_i64];omega
 have Ic:(0:Int)<=(i:Int)+1:=ad
 have Cz:i<=n:=ad
 have htn:((i:Int)+1).toNat=i+1:=ad
 have hb2: ¬ (c=i+1):=ad
 have hb3:(i:Int)<=(n:Int)+1:=ad
 have hb4: ¬ (c=i):=ad
 have hn:Tryz.f59.ntmps=95:=aJ
 go_enter Tryz.func59,hn
 go_wp2_with (simp only[hov])
 go_region_law_o (refine step_copy_runI rfl _ _ 48 48 rfl _ _ HP HP (afy _ _ _ _ _ ad ad) ?_)
 go_wp2_with (at_builtin;refine wpList_copy_runI _ rfl _ _ 48 48 rfl _ _ rfl rfl (aaj _ (fun _=>rfl) (fun _=>rfl) _ _ _ ad) ?_)
 go_ret
 first|exact⟨rfl,rfl⟩|exact⟨rfl,by rw[L9]⟩
end Go.Proofs.YtlhemmpklhhgoaaGreat
end
section
namespace Go.Proofs.YtlhemmpklhhgoaaGreat
open Go.Shelf Go.RowKit Go.Lib
set_option maxHeartbeats 4000000 in
set_option maxRecDepth 100000 in
theorem JP(base:Option Addr)(n c vb vc:Nat)(w:World)(ah8:n<=1000)(XL:n<=c){nv:Value}{w1:World}
 (hr:∀ty,(Builtin.append_ #[48,48] ty #[.slice base n c, .slice (some ⟨vb,0,none⟩) 1 vc]).run Tryz.prog w= .ok nv w1):
 Calls Tryz.prog 59 #[.slice base n c, .int .i64 n, .slice (some ⟨vb,0,none⟩) 1 vc] w fun e w'=>e= .returned nv/\w'=w1:=by
 have t0:=Tryz.underlying0;have t3:=Tryz.underlying3;have t4:=Tryz.underlying4;have t22:=Tryz.underlying48
 have a0:=Tryz.isAgg0;have a3:=Tryz.isAgg3;have a4:=Tryz.isAgg4;have a22:=Tryz.isAgg48
 have z0:=Tryz.sizeOf0;have z3:=Tryz.sizeOf3;have z4:=Tryz.sizeOf4;have z22:=Tryz.sizeOf48;have z53:=Tryz.sizeOf53
 have v0:=Tryz.zeroValue0;have v3:=Tryz.zeroValue3;have v4:=Tryz.zeroValue4;have v22:=Tryz.zeroValue48
 have u0:=run_underlying t0;have u3:=run_underlying t3;have u4:=run_underlying t4;have u22:=run_underlying t22
 have mixed:Tryz.prog.follows .mixedOrders=true:=aJ
 have hn:Tryz.f59.ntmps=95:=aJ
 go_enter Tryz.func59,hn
 go_wp2_with (at_builtin;refine Lib.wpList_append_run _ rfl _ _ _ _ rfl _ _ rfl rfl _ _ (hr _) ?_)
 all_goals go_ret
 all_goals exact⟨rfl,rfl⟩
set_option maxHeartbeats 4000000 in
set_option maxRecDepth 100000 in
theorem PO(b n c i vb vc:Nat)(cs vs:List Value)(w:World)(hi:i<n)(XL:n<=c)(qe:c<n+1)(ah8:n<=1000)
 (pg:cs.length=n*7) (rG:vs.length=7)
 (Qp:∀j v,cs[j]? =some v->w.cell? ⟨b,j,none⟩=some v)
 (vV:∀j v,vs[j]? =some v->w.cell? ⟨vb,j,none⟩=some v) (h1c:∀v∈cs,v.oneCell'=true) (h1v:∀v∈vs,v.oneCell'=true)
 {i0:TypeInfo} {z:Value} (hi0:Tryz.prog.info? 53=some i0) (hz0:i0.zero=some z) (hzs:i0.size=7) (hzb:i0.bytes<=1000) (hzc:z.cells.size=7):
 ∃te:Array Value,te.size=grownCap w (n+1) c 53*7/\(∀k,k<i*7->te[k]? =cs[k]?)/\
 Calls Tryz.prog 59 #[.slice (some ⟨b,0,none⟩) n c, .int .i64 i, .slice (some ⟨vb,0,none⟩) 1 vc] w fun e w'=>
  e= .returned (.slice (some ⟨w.heap.size,0,none⟩) (n+1) (grownCap w (n+1) c 53))/\
  w'=(((w.alloc (.cells te 53)).drew.setCells w.heap.size (i*7) vs).drew).setCells w.heap.size ((i+1)*7) (cs.drop (i*7)):=by
 have t0:=Tryz.underlying0;have t3:=Tryz.underlying3;have t4:=Tryz.underlying4;have t22:=Tryz.underlying48
 have a0:=Tryz.isAgg0;have a3:=Tryz.isAgg3;have a4:=Tryz.isAgg4;have a22:=Tryz.isAgg48
 have z0:=Tryz.sizeOf0;have z3:=Tryz.sizeOf3;have z4:=Tryz.sizeOf4;have z22:=Tryz.sizeOf48;have z53:=Tryz.sizeOf53
 have v0:=Tryz.zeroValue0;have v3:=Tryz.zeroValue3;have v4:=Tryz.zeroValue4;have v22:=Tryz.zeroValue48
 have u0:=run_underlying t0;have u3:=run_underlying t3;have u4:=run_underlying t4;have u22:=run_underlying t22
 have mixed:Tryz.prog.follows .mixedOrders=true:=aJ
 have hn:Tryz.f59.ntmps=95:=aJ
 have L6: ¬ ((i:Int)=(n:Int)):=ad
 have hz3:(c:Int)<(n:Int)+1:=ad
 have hbw:b<w.heap.size:=block_lt_of_cell (Qp 0 _ (List.getElem?_eq_getElem ad))
 have hvw:vb<w.heap.size:=block_lt_of_cell (vV 0 _ (List.getElem?_eq_getElem ad))
 have hkk:(n:Int)+1 - (i:Int)=((n+1 - i:Nat):Int):=ad
 have KW:i+(n+1 - i)=n+1:=ad
 have Ri:(cs.take (i*7)).length=i*7:=by rw[List.length_take];omega
 have hold:(Builtin.firstCells i0.size i (.slice (some ⟨b,0,none⟩) i c)).run Tryz.prog w.drew= .ok (cs.take (i*7)).toArray w.drew:=by
  rw[hzs]
  exact run_firstCells_some w.drew 7 i ⟨b,0,none⟩ i c (cs.take (i*7)) Ri (fun j v hj=>by
   rw[Addr.add_lit,Nat.zero_add]
   rw[List.getElem?_take]at hj
   split at hj
   ·exact Qp j v hj
   ·cases hj)
 have hrz:∀ty,(Builtin.append_ #[48,3] ty #[.slice (some ⟨b,0,none⟩) i c, .int .i64 ((n:Int)+1 - (i:Int))]).run Tryz.prog w=
  .ok (.slice (some ⟨w.heap.size,0,none⟩) (n+1) (grownCap w (n+1) c 53)) (w.drew.alloc (.cells ((cs.take (i*7)).toArray++Builtin.zeroCells z.cells (n+1 - i)++Builtin.zeroCells z.cells (grownCap w (n+1) c 53 - (n+1))) 53)):=fun ty=>by
  have h:=Lib.run_append_grow_zeros w 48 3 ty 53 i0 _ .i64 .i64 t22 t3 hi0 hz0 (some ⟨b,0,none⟩) i c (cs.take (i*7)) hold (n+1 - i) ad ad ad ad
   (Nat.le_trans (Nat.mul_le_mul (show n+1 - i<=1001 from ad) hzb) ad) (by rw[KW];exact growslice_fits qe (Nat.le_trans (Nat.mul_le_mul (show n+1<=1001 from ad) hzb) ad))
  rw[KW]at h
  rw[hkk]
  exact h
 obtain⟨G,hG⟩:∃G,G=grownCap w (n+1) c 53:=⟨_,rfl⟩
 have hGn:n+1<=G:=by rw[hG];exact grownCap_ge w _ _ _
 have aix:G<=9223372036854775807:=by
  have:=grownCap_le_maxLen w (n+1) c 53 (by unfold maxLen;omega)
  rw[<- hG]at this
  unfold maxLen at this
  omega
 obtain⟨te,S7⟩:∃te:Array Value,te=(cs.take (i*7)).toArray++Builtin.zeroCells z.cells (n+1 - i)++Builtin.zeroCells z.cells (G - (n+1)):=⟨_,rfl⟩
 rw[<- hG]at hrz|-
 rw[<- S7]at hrz
 have hRl:te.size=G*7:=by
  rw[S7]
  simp only[Array.size_append,List.size_toArray,size_zeroCells,hzc,Ri]
  omega
 have hRk:∀k,k<i*7->te[k]? =cs[k]? :=fun k hk=>by
  rw[S7,Array.getElem?_append_left (by simp only[Array.size_append,List.size_toArray,Ri];omega),Array.getElem?_append_left (by simp only[List.size_toArray,Ri];omega)]
  simp only[List.getElem?_toArray]
  rw[List.getElem?_take_of_lt hk]
 refine⟨te,hRl,hRk, ?_⟩
 obtain⟨W1,L9⟩:∃W1,W1=w.drew.alloc (.cells te 53):=⟨_,rfl⟩
 rw[<- L9]at hrz
 have hN:∀j,j<(n+1)*7->(W1.cell? ⟨w.heap.size,j,none⟩).isSome=true:=fun j hj=>by
  rw[L9,World.cell?_alloc_at (w:=w.drew) te _ w.heap.size j rfl,Array.getElem?_eq_getElem (by omega)];rfl
 have hNf:∀j,W1.frozen? ⟨w.heap.size,j,none⟩=false:=fun j=>by rw[L9];exact World.frozen?_alloc_at (w:=w.drew) te _ w.heap.size j rfl
 have hOb:∀j v,w.cell? ⟨b,j,none⟩=some v->W1.cell? ⟨b,j,none⟩=some v:=fun j v h=>by rw[L9,World.cell?_alloc_past (w:=w.drew) _ b j hbw];exact h
 have hOv:∀j v,w.cell? ⟨vb,j,none⟩=some v->W1.cell? ⟨vb,j,none⟩=some v:=fun j v h=>by rw[L9,World.cell?_alloc_past (w:=w.drew) _ vb j hvw];exact h
 obtain⟨q,hq,hqs⟩:∃q,Tryz.prog.info? 53=some q/\q.size=7:=⟨_,hi0,hzs⟩
 have ah9:∀ (W:World),(∀x,W.cell? x=W1.cell? x)->(∀x,W.frozen? x=W1.frozen? x)->∀ty dl dc,dl=n+1 - i->(Builtin.copy_ #[48,48] ty #[.slice (some ⟨w.heap.size,i*7,none⟩) dl dc, .slice (some ⟨vb,0,none⟩) 1 vc]).run Tryz.prog W= .ok (goInt (1:Nat)) (W.setCells w.heap.size (i*7) vs):=fun W WL hWf ty dl dc e1=>by
  have hm:Nat.min 1 dl=1:=by simp only[Nat.min_def];split<;>omega
  have:=lT (P:=Tryz.prog) W 48 48 ty 53 w.heap.size (i*7) dl dc ⟨vb,0,none⟩ 1 vc vs t22 hq (by rw[rG,hm,hqs])
   (fun j v hj=>by rw[Addr.add_lit,WL,Nat.zero_add];exact hOv _ v (vV j v hj))
   (fun j hj=>by rw[WL];exact hN _ (by rw[rG]at hj;omega)) (fun j hj=>by rw[hWf];exact hNf _) h1v
  exact HY
 have hbN:b≠w.heap.size:=ad
 have Kd:(cs.drop (i*7)).length=(n - i)*7:=by rw[List.length_drop,pg,Nat.sub_mul]
 have afz:∀ (W:World),(∀x,W.cell? x=(W1.setCells w.heap.size (i*7) vs).cell? x)->(∀x,W.frozen? x=(W1.setCells w.heap.size (i*7) vs).frozen? x)->∀ty dl dc sl sc,dl=n - i->sl=n - i->(Builtin.copy_ #[48,48] ty #[.slice (some ⟨w.heap.size,(i+1)*7,none⟩) dl dc, .slice (some ⟨b,i*7,none⟩) sl sc]).run Tryz.prog W= .ok (goInt (n - i:Nat)) (W.setCells w.heap.size ((i+1)*7) (cs.drop (i*7))):=fun W WL hWf ty dl dc sl sc e1 e2=>by
  have hm:Nat.min sl dl=n - i:=by simp only[Nat.min_def];split<;>omega
  have:=lT (P:=Tryz.prog) W 48 48 ty 53 w.heap.size ((i+1)*7) dl dc ⟨b,i*7,none⟩ sl sc (cs.drop (i*7)) t22 hq (by rw[Kd,hm,hqs])
   (fun j v hj=>by
    rw[Addr.add_lit,WL,World.cell?_setCells_out _ _ _ _ _ (fun h _=>absurd h hbN)]
    exact hOb _ v (Qp (i*7+j) v (by rwa [List.getElem?_drop]at hj)))
   (fun j hj=>by
    rw[WL]
    exact Go.Proofs.isSome_setCells w.heap.size vs (i*7) W1 (fun t ht=>hN _ (by rw[rG]at ht;omega)) ((i+1)*7+j) (hN _ HS))
   (fun j hj=>by rw[hWf,World.frozen?_setCells];exact hNf _) (fun v hv=>h1c v (List.mem_of_mem_drop hv))
  exact HY
 have hGi: ¬ (G=i):=ad
 have aiy: ¬ (G=i+1):=ad
 have hci: ¬ (c=i):=ad
 subst L9
 have hE1:∀x,((w.alloc (.cells te 53)).drew).cell? x=(w.drew.alloc (.cells te 53)).cell? x:=fun x=>rfl
 have hE2:∀x,((w.alloc (.cells te 53)).drew).frozen? x=(w.drew.alloc (.cells te 53)).frozen? x:=fun x=>rfl
 have hF1:∀x,(((w.alloc (.cells te 53)).drew.setCells w.heap.size (i*7) vs).drew).cell? x=((w.drew.alloc (.cells te 53)).setCells w.heap.size (i*7) vs).cell? x:=fun x=>rfl
 have hF2:∀x,(((w.alloc (.cells te 53)).drew.setCells w.heap.size (i*7) vs).drew).frozen? x=((w.drew.alloc (.cells te 53)).setCells w.heap.size (i*7) vs).frozen? x:=fun x=>rfl
 have hw1:IntKind.i64.wrap ((i:Int)+1)=(i:Int)+1:=by rw[IntKind.wrap_i64];omega
 have Ic:(0:Int)<=(i:Int)+1:=ad
 have Cz:i<=n:=ad
 have htn:((i:Int)+1).toNat=i+1:=ad
 have hb3:(i:Int)<=(n:Int):=ad
 clear hkk KW hold S7 hG hRl hRk
 go_enter Tryz.func59,hn
 go_wp2_with (first
  |(at_builtin;refine Lib.wpList_append_run _ rfl _ _ _ _ rfl _ _ rfl rfl _ _ (hrz _) ?_)
  |(at_builtin;refine wpList_copy_runI _ rfl _ _ 48 48 rfl _ _ rfl rfl (ah9 _ hE1 hE2 _ _ _ ad) ?_)
  |(at_builtin;refine wpList_copy_runI _ rfl _ _ 48 48 rfl _ _ rfl rfl (afz _ (fun _=>rfl) (fun _=>rfl) _ _ _ _ _ ad ad) ?_))
 go_region_law_o (refine step_copy_runI rfl _ _ 48 48 rfl (.slice (some ⟨w.heap.size,(i+1)*7,none⟩) (n - i) (G - (i+1))) (.slice (some ⟨b,i*7,none⟩) (n - i) (c - i)) HP HP (afz _ hF1 hF2 3 (n - i) (G - (i+1)) (n - i) (c - i) rfl rfl) ?_)
 go_wp2
 go_ret
 exact⟨rfl,rfl⟩
end Go.Proofs.YtlhemmpklhhgoaaGreat
end
section
namespace Go.Proofs.YtlhemmpklhhgoaaGreat
open Go.Shelf Go.RowKit Go.Lib
def afA(w:World)(val:Value)(n:Nat)(xs:List Value)(w':World)(nv:Value):Prop:=
 (∃m:Nat->Prop,dZ m w w'/\∀b,m b->dY val=some b)/\(∀b,dY nv=some b->dY val=some b\/w.heap.size<=b)/\w'.ownsRow 0 53 7 nv (n+1) xs
theorem Ht{w:World}{val:Value}{n:Nat}{xs:List Value}(cn:w.ownsRow 0 53 7 val n xs)(hn:n<=1000){i:TypeInfo}{z:Value}(g1:Tryz.prog.info? 53=some i)(g2:i.zero=some z)(gs:i.size=7)(gb:i.bytes<=1000)(gc:z.cells.size=7)
 (a:Addr) (c:Nat) (news:List Value) (hl:news.length=7) (PQ:∀j u,news[j]? =some u->w.cell? (a.add j)=some u) (h1:∀u∈news,u.oneCell'=true):
 ∃nv w',(∀ty,(Builtin.append_ #[48,48] ty #[val, .slice (some a) 1 c]).run Tryz.prog w= .ok nv w')/\afA w val n (xs++news) w' nv:=by
 have ht:=Tryz.underlying48
 have hb:(n+1)*i.bytes<=140737488355328:=Nat.le_trans (Nat.mul_le_mul (show n+1<=1001 from ad) gb) ad
 have wL:n+1<=maxLen:=by simp[maxLen];omega
 have L3:news.length=1*7:=hl
 rcases cn.2 with⟨h3,h4⟩|⟨g,cap,cur,h3,h4,h5,h6,h7,h8,h9⟩
 ·have rH:w.ownsRow w.heap.size 53 7 val n xs:=⟨cn.1, .inl ⟨h3,h4⟩⟩
  have hx:∀ty,∃v' w',(Builtin.append_ #[48,48] ty #[val, .slice (some a) 1 c]).run Tryz.prog w= .ok v' w'/\w'.ownsRow w.heap.size 53 7 v' (n+1) (xs++news)/\w.grownBy w' val.ownBlock:=fun ty=>by
   obtain⟨v',w',r1,r2,r3,_⟩:=run_append_own (P:=Tryz.prog) w w.heap.size 48 ty 53 i z 7 i.bytes ht g1 g2 gs rfl gc ad _ _ xs rH a 1 c news L3 PQ h1 wL hb (Nat.le_refl _)
   exact⟨v',w',r1,r2,r3⟩
  obtain⟨v',w',r1,r2,r3⟩:=hx 0
  refine⟨v',w',fun ty=> ?_,⟨fun _=>False,kL (by rw[h3]at r3;exact r3),fun _ h=>h.elim⟩,fun b hb=> .inr (jB r2 b hb).1,m9 r2⟩
  rw[<- r1]
  rfl
 ·subst h3
  by_cases qe:n+1<=cap
  ·obtain⟨w',r1,r2,r3⟩:=run_append_fits (P:=Tryz.prog) w 0 48 0 53 i 7 ht g1 gs g n cap xs cn a 1 c news L3 PQ h1 qe
   refine⟨.slice (some ⟨g,0,none⟩) (n+1) cap,w',fun ty=> ?_,⟨(· =g),⟨r3.os,r3.tape,r3.output,r3.size,fun k hk fS=>r3.block k hk (by simpa using fS)⟩,fun b hb=>by subst hb;rfl⟩,fun b hb=> .inl hb,r2⟩
   rw[<- r1]
   rfl
  ·have holds:∀j u,xs[j]? =some u->w.cell? ((⟨g,0,none⟩:Addr).add j)=some u:=cn.cells (g:=g) rfl
   have hr:=fun ty=>run_append_grow (P:=Tryz.prog) w 48 ty 53 i z ht g1 g2 ⟨g,0,none⟩ n cap xs (by rw[cn.1,gs]) holds a 1 c _ (by rw[L3,gs]) PQ ad (by simp[maxLen]at wL;omega)
    (growslice_fits ad hb)
   refine⟨_,_,hr,⟨fun _=>False,⟨rfl,rfl,rfl,aF,fun k hk _=>RowKit.Below.heap_alloc w.drew _ k hk⟩,fun _ h=>h.elim⟩,fun b hb=> .inr (by simp[dY]at hb;omega), ?_⟩
   have yA:=grownCap_ge w (n+1) cap 53
   refine⟨by rw[List.length_append,cn.1,hl];omega, .inr ⟨w.heap.size,_,_,rfl,Nat.zero_le _,heap_alloc_new w.drew _,yA,
    grownCap_le_maxLen w _ cap 53 wL, ?_, ?_⟩⟩
   ·simp only[Array.size_append,List.size_toArray,size_zeroCells,cn.1,hl,gc]
    omega
   ·have:(xs++news).length=(n+1)*7:=by rw[List.length_append,cn.1,hl];omega
    exact acM
theorem Fc{cur:Array Value}{cs vs:List Value}{n i:Nat}(hi:i<=n)(pg:cs.length=n*7)(rG:vs.length=7)(eD:(n+1)*7<=cur.size)
 (h:∀k,k<(n+1)*7->cur[k]? =if k<i*7 then cs[k]? else if k<(i+1)*7 then vs[k - i*7]? else cs[k - 7]?):
 cur.toList.take ((n+1)*7)=cs.take (i*7)++vs++cs.drop (i*7):=by
 have Ri:(cs.take (i*7)).length=i*7:=by rw[List.length_take];omega
 apply List.ext_getElem?
 intro k
 by_cases hk:k<(n+1)*7
 ·rw[List.getElem?_take_of_lt hk,Array.getElem?_toList,h k hk]
  split
  ·rename_i h1
   rw[List.append_assoc,List.getElem?_append_left (by omega),List.getElem?_take_of_lt h1]
  ·rename_i h1
   rw[List.append_assoc,List.getElem?_append_right (by omega),Ri]
   split
   ·rw[List.getElem?_append_left (by omega)]
   ·rw[List.getElem?_append_right (by omega),List.getElem?_drop,rG]
    congr 1
    omega
 ·rw[List.getElem?_eq_none (by rw[List.length_take];omega),List.getElem?_eq_none (by simp only[List.length_append,Ri,rG,List.length_drop,pg];omega)]
theorem S8{w:World}{val:Value}{n i:Nat}{cs vs:List Value}(cn:w.ownsRow 0 53 7 val n cs)(hn:n<=1000)(hi:i<=n)(h1c:Flat cs){vb vc:Nat}{PR:Array Value}(hv:w.heap[vb]? =some (.cells PR 53 (0,0)))(LF:PR.toList.take 7=vs)(rG:vs.length=7)(h1v:Flat vs)
 (Sk:PR.size=vc*7) (hap:dY val≠some vb):
 Calls Tryz.prog 59 #[val, .int .i64 i, .slice (some ⟨vb,0,none⟩) 1 vc] w fun e w'=>∃nv,e= .returned nv/\afA w val n (cs.take (i*7)++vs++cs.drop (i*7)) w' nv:=by
 obtain⟨q,z,g1,g2,g3,_,_⟩:=jc (P:=Tryz.prog) (t:=53) (z:=(cy Tryz.prog 53).get aJ) (Option.some_get _).symm
 have gs:q.size=7:=by rw[<- bV g1];kernel_rfl
 have gb:q.bytes<=1000:=by rw[<- j5 g1];decide_cbv
 have gc:z.cells.size=7:=by rw[g3,gs]
 have vV:∀j v,vs[j]? =some v->w.cell? ⟨vb,j,none⟩=some v:=fun j v hj=>by
  rw[<- LF,List.getElem?_take]at hj
  split at hj
  ·unfold World.cell?
   simp only[hv]
   simpa using hj
  ·cases hj
 by_cases Cz:i=n
 ·subst Cz
  obtain⟨nv,w',r1,r2⟩:=Ht cn hn g1 g2 gs gb gc ⟨vb,0,none⟩ vc vs rG (fun j u hj=>by rw[Addr.add_lit,Nat.zero_add];exact vV j u hj) h1v
  have ht:cs.take (i*7)=cs:=List.take_of_length_le (by rw[cn.1];omega)
  have hd:cs.drop (i*7)=[]:=List.drop_eq_nil_of_le (by rw[cn.1];omega)
  rw[ht,hd,List.append_nil]
  rcases cn.2 with⟨h3,h4⟩|⟨g,cap,cur,h3,h4,h5,h6,h7,h8,h9⟩
  ·subst h3;subst h4
   refine(JP none 0 0 vb vc w ad ad r1).mono ?_
   rintro e QH ⟨rfl,rfl⟩
   exact⟨_,rfl,r2⟩
  ·subst h3
   refine(JP _ i cap vb vc w hn h6 r1).mono ?_
   rintro e QH ⟨rfl,rfl⟩
   exact⟨_,rfl,r2⟩
 ·have hil:i<n:=ad
  rcases cn.2 with⟨h3,h4⟩|⟨b,cap,cur,h3,h4,h5,h6,h7,h8,h9⟩
  ·omega
  subst h3
  have MK:vb≠b:=fun e=>hap (by rw[e];rfl)
  have Qp:∀j v,cs[j]? =some v->w.cell? ⟨b,j,none⟩=some v:=fun j v hj=>by
   rw[<- h9,List.getElem?_take]at hj
   split at hj
   ·unfold World.cell?
    simp only[h5]
    simpa using hj
   ·cases hj
  have afx:cap<=9223372036854775807:=by simp only[maxLen]at h7;omega
  have hb:b<w.heap.size:=(Array.getElem?_eq_some_iff.1 h5).1
  have Kd:(cs.drop (i*7)).length=(n - i)*7:=by rw[List.length_drop,cn.1,Nat.sub_mul]
  have Xw:∀k,k<n*7->cur[k]? =cs[k]? :=fun k hk=>by rw[<- h9,List.getElem?_take_of_lt hk,Array.getElem?_toList]
  by_cases qe:n+1<=cap
  ·refine(LN b n cap i vb vc cs vs w hil qe afx MK cn.1 rG Qp (fun j hj=> ?_) (fun j hj=> ?_) vV h1c h1v 53 53 PR.size cur.size ?_ ?_ ad ?_ ?_).mono ?_
   ·unfold World.cell?
    simp only[h5]
    rw[Option.isSome_iff_exists]
    exact⟨cur[j]'ad,aF⟩
   ·unfold World.frozen?
    simp[h5]
   ·unfold World.shape?
    simp[hv]
   ·unfold World.shape?
    simp[h5]
   ·unfold World.frozen?
    simp[hv]
   ·unfold World.frozen?
    simp[hv]
   rintro e w' ⟨rfl,rfl⟩
   obtain⟨c1,k1,k2,k3⟩:=gK b 53 (0,0) (cs.drop (i*7)) ((i+1)*7) w.drew cur h5 (by rw[Kd];omega)
   obtain⟨c2,l1,l2,l3⟩:=gK b 53 (0,0) vs (i*7) _ c1 k1 (by rw[rG];omega)
   refine⟨_,rfl,⟨(· =b), ?_,fun b' yK=>by subst yK;rfl⟩,fun b' yK=> .inl yK, ?_⟩
   ·have a1:dZ (· =b) w (w.drew.setCells b ((i+1)*7) (cs.drop (i*7))):=by
     have:=gL b (cs.drop (i*7)) ((i+1)*7) w.drew
     exact⟨this.os,this.tape,this.output,this.size,this.block⟩
    have a2:=gL b vs (i*7) (w.drew.setCells b ((i+1)*7) (cs.drop (i*7)))
    exact⟨a2.os.trans a1.os,a2.tape.trans a1.tape,a2.output.trans a1.output,Nat.le_trans a1.size a2.size,fun k hk fS=>(a2.block k (Nat.lt_of_lt_of_le hk a1.size) fS).trans (a1.block k hk fS)⟩
   ·refine⟨?_, .inr ⟨b,cap,c2,rfl,Nat.zero_le _,l1,qe,h7,ad, ?_⟩⟩
    ·simp only[List.length_append,List.length_take,List.length_drop,rG,cn.1]
     omega
    ·refine Fc hi cn.1 rG ad fun k hk=> ?_
     rw[l3,k3,rG,Kd]
     by_cases q1:k<i*7
     ·rw[if_neg (by omega),if_neg (by omega),if_pos q1,Xw k (by omega)]
     ·by_cases q2:k<(i+1)*7
      ·rw[if_pos (by omega),if_neg q1,if_pos q2]
      ·rw[if_neg (by omega),if_pos (by omega),if_neg q1,if_neg q2,List.getElem?_drop,show i*7+(k - (i+1)*7)=k - 7 by omega]
  ·obtain⟨te,r1,r2,r3⟩:=PO b n cap i vb vc cs vs w hil h6 ad hn cn.1 rG Qp vV h1c h1v g1 g2 gs gb gc
   refine r3.mono ?_
   rintro e w' ⟨rfl,rfl⟩
   have yA:=grownCap_ge w (n+1) cap 53
   have wM:=grownCap_le_maxLen w (n+1) cap 53 HT
   have k0:((w.alloc (.cells te 53)).drew).heap[w.heap.size]? =some (.cells te 53 (0,0)):=heap_alloc_new w _
   obtain⟨c1,k1,k2,k3⟩:=gK w.heap.size 53 (0,0) vs (i*7) _ te k0 (by rw[rG,r1];omega)
   obtain⟨c2,l1,l2,l3⟩:=gK w.heap.size 53 (0,0) (cs.drop (i*7)) ((i+1)*7) ((w.alloc (.cells te 53)).drew.setCells w.heap.size (i*7) vs).drew c1 k1 (by rw[Kd];omega)
   refine⟨_,rfl,⟨fun _=>False, ?_,fun _ h=>h.elim⟩,fun b' yK=> .inr (by simp[dY]at yK;omega), ?_⟩
   ·have a1:=gL w.heap.size vs (i*7) (w.alloc (.cells te 53)).drew
    have a2:=gL w.heap.size (cs.drop (i*7)) ((i+1)*7) ((w.alloc (.cells te 53)).drew.setCells w.heap.size (i*7) vs).drew
    have s0:w.heap.size<=(w.alloc (.cells te 53)).drew.heap.size:=aF
    refine⟨a2.os.trans a1.os,a2.tape.trans a1.tape,a2.output.trans a1.output,Nat.le_trans (Nat.le_trans s0 a1.size) a2.size,fun k hk _=> ?_⟩
    exact(a2.block k (Nat.lt_of_lt_of_le hk (Nat.le_trans s0 a1.size)) ad).trans ((a1.block k (Nat.lt_of_lt_of_le hk s0) ad).trans (RowKit.Below.heap_alloc w _ k hk))
   ·refine⟨?_, .inr ⟨w.heap.size,_,c2,rfl,Nat.zero_le _,l1,yA,wM,ad, ?_⟩⟩
    ·simp only[List.length_append,List.length_take,List.length_drop,rG,cn.1]
     omega
    ·refine Fc hi cn.1 rG ad fun k hk=> ?_
     rw[l3,k3,rG,Kd]
     by_cases q1:k<i*7
     ·rw[if_neg (by omega),if_neg (by omega),if_pos q1,r2 k q1]
     ·by_cases q2:k<(i+1)*7
      ·rw[if_neg (by omega),if_pos (by omega),if_neg q1,if_pos q2]
      ·rw[if_pos (by omega),if_neg q1,if_neg q2,List.getElem?_drop,show i*7+(k - (i+1)*7)=k - 7 by omega]
theorem JQ{o:Nat->aa}{nx id ep id2 ep2:Nat}{es:List D}{x:D}{i:Nat}(ho:o id= .arr ep 53 7 es)(RA:o id2= .arr ep2 53 7 [x])(fS:id≠id2)(hn:es.length<=1000)(hi:i<=es.length)
 {K X:V->(Nat->aa)->Nat->Prop} (hK:K (.osl id (ep+1)) (aw o id (.arr (ep+1) 53 7 (es.take i++[x]++es.drop i))) nx):
 bJ Tryz.prog 59 [.osl id ep, .d (.i i), .osl id2 ep2] o nx K X:=by
 refine⟨⟨_,Tryz.func59,aJ,aJ⟩,fun M φ w vals hH hd=> ?_⟩
 obtain⟨val,us1,kF,⟨v0,v1,v2⟩,iv,us2,e2,hiv,xv,us3,e3,⟨x0,x1,x2⟩,e4⟩:=hd
 have e4:us3=[]:=e4
 subst e4;subst e3;subst e2
 have fR:val=φ id:=(v2 ep (by show(o id).cu=some ep;rw[ho];rfl)).2 rfl
 have hxv:xv=φ id2:=(x2 ep2 (by show(o id2).cu=some ep2;rw[RA];rfl)).2 rfl
 have hiv:iv= .int .i64 i:=hiv
 have vV:vals=#[φ id, .int .i64 i,φ id2]:=by rw[<- fR, <- hxv, <- hiv];exact Array.ext' (by simpa using kF)
 subst vV
 have GA:=hH.ok id
 unfold aU at GA
 rw[show(hp o nx).o id= .arr ep 53 7 es from ho]at GA
 obtain⟨_,xs,cn,cL⟩:=GA
 have aas:=hH.ok id2
 unfold aU at aas
 rw[show(hp o nx).o id2= .arr ep2 53 7 [x]from RA]at aas
 obtain⟨_,vs,WM,Dy⟩:=aas
 rcases WM.2 with⟨_,h4⟩|⟨vb,vc,PR,h3,h4,h5,h6,h7,h8,h9⟩
 ·simp at h4
 have rG:vs.length=7:=WM.1
 have qf:((hp o nx).o id).live=true:=by show(o id).live=true;rw[ho];rfl
 have Qc:((hp o nx).o id2).live=true:=by show(o id2).live=true;rw[RA];rfl
 have hap:dY (φ id)≠some vb:=fun e=>fS (hH.apart id id2 vb qf Qc e (by rw[h3];rfl))
 rw[h3]
 refine(S8 cn hn hi (Fb cL) (vc:=vc) h5 h9 rG (Fb Dy) h8 hap).mono ?_
 rintro e w' ⟨nv,rfl,⟨m,q1,q2⟩,q3,q4⟩
 have hlen:(es.take i++[x]++es.drop i).length=es.length+1:=by simp only[List.length_append,List.length_take,List.length_drop,List.length_cons,List.length_nil];omega
 obtain⟨s1,s2,s3⟩:=oi hH (show(hp o nx).us id from v1) (show(hp o nx).o id=_ from ho) q1 q2 q3 (by rw[hlen];exact q4) (S6 i cL Dy)
 have ft:(hp o nx).put [(id, .arr (ep+1) 53 7 (es.take i++[x]++es.drop i))]=hp (aw o id (.arr (ep+1) 53 7 (es.take i++[x]++es.drop i))) nx:=by
  have eE:id<nx:=v1
  simp only[Hp.put,hp]
  congr 1
  funext j
  exact Uf
 rw[ft]at s1 s2 s3
 exact⟨_,_,nx,_,s1,s2,s3,hK⟩
end Go.Proofs.YtlhemmpklhhgoaaGreat
end
namespace Go.Proofs.YtlhemmpklhhgoaaGreat
theorem q9(n:Int)(ks:List Tm):a7 Tryz.prog 85 [.i n, .sl (ks.map Tm.d)] (.ret [(Tm.mk 3 n ks).d]):=by
 refine a7.aH mix aej aF ?_
 rw[c85]
 rw[Tm.D4]
 exact qo
def yu(sg:az)(j:Nat)(a:Int):Bool:=match sg.cons[j]? with|some c=>c.args==a|none=>false
theorem PS{sg:az}{j:Nat}{a:Int}(h:j<sg.cons.length):∃c,sg.cons[j]? =some c/\(c.args==a)=yu sg j a:=by
 obtain⟨c,hc⟩:=aA h
 exact⟨c,hc,by unfold yu;rw[hc]⟩
theorem PT{sg:az}{j:Nat}{a:Int}(h: ¬j<sg.cons.length):yu sg j a=false:=by
 unfold yu
 rw[List.getElem?_eq_none (by omega)]
theorem kY(sg:az)(j:Nat)(a:Int):(∃c,sg.cons[j]? =some c/\(c.args==a)=true/\yu sg j a=true/\j<sg.cons.length)\/(∃c,sg.cons[j]? =some c/\(c.args==a)=false/\yu sg j a=false/\j<sg.cons.length)\/(¬j<sg.cons.length/\yu sg j a=false):=by
 by_cases h:j<sg.cons.length
 ·obtain⟨c,h1,h2⟩:=PS (a:=a) h
  cases hh:yu sg j a with
  |true=>exact .inl ⟨c,h1,h2.trans hh,rfl,h⟩
  |false=>exact .inr (.inl ⟨c,h1,h2.trans hh,rfl,h⟩)
 ·exact .inr (.inr ⟨h,PT h⟩)
def byF(bs:List Int)(n:Nat):Int:=if bs=[]then 0 else(bs[n%bs.length]?).getD 0
def Ma(sg:az)(k:Int)(i:Nat)(t:Tm):Tm:=
 let u:=if yu sg 3 1=true then .mk 3 3 [t]else t
 if i=1/\yu sg 5 2=true then .mk 3 5 [u, .mk 3 (k.tmod 2) []]else u
def mT(sg:az)(k:Int)(t:Tm):Nat->Tm
 |0=>t
 |i+1=>Ma sg k i (mT sg k t i)
def zf(sg:az)(k:Int):Tm:=if k.tmod 5=4 then .mk 2 (k.tdiv 5) []else if yu sg 2 0=true then .mk 3 2 []else .mk 3 (k.tmod 2) []
def ptF(sg:az)(k:Int):Tm:=mT sg k (zf sg k) ((k.tdiv 16).tmod 4).toNat
noncomputable def PU:IC->IC
 | .block _ x=>x
 | .loop x=>x
 |x=>x
noncomputable def Ct:IC:=PU (PU (PU c28.snd.snd.fst.snd)).snd.snd.fst
noncomputable def ptR:IC:=Ct.snd.snd.snd.snd.snd.snd
def Qt(sg:az)(L:List TB)(a:Nat)(u:Tm):Nat->aa:=aw (aw (aw (fun _=> .no) 0 (.row sg.row)) 1 (.arr 0 59 4 (L.map TB.d))) a (.row u.row)
theorem PV{sg:az}{L:List TB}{a:Nat}{u:Tm}(ha:2<=a):Qt sg L a u 0= .row sg.row/\Qt sg L a u 1= .arr 0 59 4 (L.map TB.d)/\Qt sg L a u a= .row u.row:=by
 unfold Qt
 exact⟨bp,bp,bp⟩
theorem wu{sg:az}{L:List TB}{a:Nat}{u:Tm}(ha:2<=a){env:List V}{e:Nat->V}{so:Nat->aa}{m:Nat}(h0:so 0= .row sg.row)(h1:so 1= .arr 0 59 4 (L.map TB.d))(h2:so a= .row u.row\/so a= .row [.d (.i u.op), .d (.i u.n), .ao]/\u.kids=[])(he:iL (a+1) [] so (fun _=>False) e env 0):bM 0 ⟨e,so,m⟩ ⟨aY env,Qt sg L a u,a+1⟩:=by
 obtain⟨u0,u1,ua⟩:=PV (sg:=sg) (L:=L) (u:=u) ha
 refine bM.see (fun _=>False) [] (a+1) env rfl ad (fun j hj=> ?_) (fun i g h=>by cases h) (fun j hj=> ?_) (fun j h1 h2=>h1.elim) (fun i j gi gj id ep gM h h' e1 e2=>by cases h) he
 ·by_cases e0:j=0
  ·subst e0;rw[u0];exact bB h0 (fun r hr=>by simp[aa.refs,V.aN,V.refs]at hr)
  by_cases e1:j=1
  ·subst e1;rw[u1];exact bB h1 (fun r hr=>by simp[aa.refs]at hr)
  by_cases e2:j=a
  ·subst e2;rw[ua]
   rcases h2 with h2|⟨h2,hk⟩
   ·exact bB h2 (fun r hr=>by simp[aa.refs,V.aN,V.refs]at hr)
   ·rw[show u.row=[.d (.i u.op), .d (.i u.n), .d (.sl [])] by show [_,_,V.d (.sl (u.kids.map Tm.d))]=_;rw[hk];rfl]
    exact jt h2 (lW (lW (ZD rfl (fun id h=>by cases h) ju)))
  have:Qt sg L a u j= .no:=by unfold Qt;(repeat first|rfl|rw[ab]|rw[af _ _ _ _ (by omega)])
  rw[this];exact lM
 ·have hj:a+1<=j:=hj
  show Qt sg L a u j= .no
  unfold Qt;(repeat first|rfl|rw[ab]|rw[af _ _ _ _ (by omega)])
theorem pJ{sg:az}{k:Int}(hk:0<=k/\k<=255){t:Tm}{n:Nat}(hn:n<20){L:List TB}(hL:L.length=n){bs:List Int}{e:Nat->V}{o:Nat->aa}{nx a:Nat}(ha:2<=a/\a<nx)
 (e1:e 1= .d (.sl (bs.map (D.int .u8)))) (e2:e 2= .ptr 0 0) (e5:e 5= .osl 1 0) (e6:e 6= .d (.i n)) (e7:e 7= .d (.i k)) (e8:e 8= .ptr a 0) (Hy:e 10= .d (.i n)) (o0:o 0= .row sg.row) (o1:o 1= .arr 0 59 4 (L.map TB.d)) (oa:o a= .row t.row\/o a= .row [.d (.i t.op), .d (.i t.n), .ao]/\t.kids=[]) (Q:gr->S->Prop)
 (hQ:∀ (e':Nat->V) (o':Nat->aa) (nx':Nat),e' 1= .d (.sl (bs.map (D.int .u8)))->e' 2= .ptr 0 0->e' 5= .osl 1 1->e' 10= .d (.i n)->o' 0= .row sg.row->o' 1= .arr 1 59 4 ((L++[(⟨(n:Int),mT sg k t ((k.tdiv 16).tmod 4).toNat⟩:TB)]).map TB.d)->Q .normal ⟨e',o',nx'⟩):
 kQ Tryz.prog 98 0 false ptR Q ⟨e,o,nx⟩:=by
 have hq0:0<=(k.tdiv 16).tmod 4:=Int.tmod_nonneg 4 (Int.tdiv_nonneg hk.1 bF)
 obtain⟨m,hm⟩:∃m:Nat,(k.tdiv 16).tmod 4=(m:Int):=⟨((k.tdiv 16).tmod 4).toNat,ad⟩
 rw[hm,Int.toNat_natCast]at hQ
 have hm4:m<4:=by have:=Int.tmod_lt_of_pos (k.tdiv 16) (by decide:(0:Int)<4);omega
 have d1:(1:Nat)≠a:=ad
 have d0:(0:Nat)≠a:=ad
 simp only[ptR,Ct,PU,c28,IC.snd,IC.fst]
 have hw:IntKind.i64.wrap (k.tdiv 16)=k.tdiv 16:=by
  rw[Int.tdiv_eq_ediv_of_nonneg hk.1]
  exact wrap64 ad ad
 have FI:a≠0:=ad
 have FJ:a≠1:=ad
 refine gC (ae e1 (ae e2 (ae e5 (ae e6 (ae e7 (ae e8 (ae Hy (ae hw hm)))))))) ?_
 refine aC (fun i:Nat=>⟨aY (.ai:: .d (.sl (bs.map (D.int .u8))):: .ptr 0 0:: .ai:: .ai:: .osl 1 0:: .d (.i n):: .d (.i k):: .ptr a 0:: .ai:: .d (.i n)::dy (dy (dy (dy [.ai, .ai, .ai, .ai, .ai, .d (.i m), .d (.i i)])))),Qt sg L a (mT sg k t i),a+1⟩)
  (fun i=>i<=m) (fun i=>m - i) 0 (Nat.zero_le _) ?_ (fun i hi=> ?_)
 ·refine wu ha.1 o0 o1 oa ?_
  refine cI ?_
  refine dm (gW e1) ?_
  refine iY (gW e2) pM ?_
  refine cI (cI ?_)
  refine iY (gW e5) (by simp[V.refs];omega) ?_
  refine dm (gW e6) ?_
  refine dm (gW e7) ?_
  refine iY (gW e8) pM ?_
  refine cI ?_
  refine dm (gW Hy) ?_
  exact iV
 have hi:i<=m:=hi
 obtain⟨u0,u1,ua⟩:=PV (sg:=sg) (L:=L) (u:=mT sg k t i) ha.1
 refine dQ (ae u0 (ae u1 (ae ua (ae d0 (ae d1 (ae FI FJ)))))) ?_
 refine ak (fun h6=> ?_) (fun h6=> ?_)
 ·replace h6:i<m:=by simp at h6;omega
  rcases kY sg 3 1 with⟨c3,N5,aat,Mb,hl3⟩|⟨c3,N5,aat,Mb,hl3⟩|⟨hl3,Mb⟩
  ·have PW:decide ((sg.cons.length:Int)>3)=true:=decide_eq_true ad
   refine dQ (ae u0 (ae u1 (ae ua (ae d0 (ae d1 (ae FI (ae FJ (ae PW (ae N5 aat))))))))) ?_
   refine bC (q9 3 [mT sg k t i]) ?_
   by_cases h1:i=1
   ·subst h1
    rcases kY sg 5 2 with⟨c5,TZ,CS,Hu,Qu⟩|⟨c5,TZ,CS,Hu,Qu⟩|⟨Qu,Hu⟩
    ·have yJ:decide ((sg.cons.length:Int)>5)=true:=decide_eq_true ad
     have hS:mT sg k t (1+1)= .mk 3 5 [.mk 3 3 [mT sg k t 1], .mk 3 (k.tmod 2) []]:=by rw[mT,Ma,Mb,Hu];simp
     refine dQ (ae u0 (ae u1 (ae ua (ae d0 (ae d1 (ae FI (ae FJ (ae yJ (ae TZ CS))))))))) ?_
     refine aZ (q9 (k.tmod 2) []) ?_
     refine dQ (ae u0 (ae u1 (ae ua (ae d0 (ae d1 (ae FI FJ)))))) ?_
     refine aZ (q9 5 [.mk 3 3 [mT sg k t 1], .mk 3 (k.tmod 2) []]) ?_
     refine dQ (ae u0 (ae u1 (ae ua (ae d0 (ae d1 (ae FI FJ)))))) ?_
     refine aL (bE (ids:=[a,a+40]) (nx:=a+43) aF aF [([0],[]),([],[]),([],[]),([],[]),([],[1]),([1],[1]),([0],[0])] bF) ?_
     exact acn
    ·have yJ:decide ((sg.cons.length:Int)>5)=true:=decide_eq_true ad
     have hS:mT sg k t (1+1)= .mk 3 3 [mT sg k t 1]:=by rw[mT,Ma,Mb,Hu];simp
     exact acm
    ·have yJ:decide ((sg.cons.length:Int)>5)=false:=decide_eq_false ad
     have hS:mT sg k t (1+1)= .mk 3 3 [mT sg k t 1]:=by rw[mT,Ma,Mb,Hu];simp
     exact zw7
   ·have fP:((i:Int)==1)=false:=by rw[beq_eq_false_iff_ne];omega
    have hS:mT sg k t (i+1)= .mk 3 3 [mT sg k t i]:=by rw[mT,Ma,Mb];simp[h1]
    exact zw8
  ·have PW:decide ((sg.cons.length:Int)>3)=true:=decide_eq_true ad
   refine dQ (ae u0 (ae u1 (ae ua (ae d0 (ae d1 (ae FI (ae FJ (ae PW (ae N5 aat))))))))) ?_
   by_cases h1:i=1
   ·subst h1
    rcases kY sg 5 2 with⟨c5,TZ,CS,Hu,Qu⟩|⟨c5,TZ,CS,Hu,Qu⟩|⟨Qu,Hu⟩
    ·have yJ:decide ((sg.cons.length:Int)>5)=true:=decide_eq_true ad
     have hS:mT sg k t (1+1)= .mk 3 5 [mT sg k t 1, .mk 3 (k.tmod 2) []]:=by rw[mT,Ma,Mb,Hu];simp
     refine dQ (ae u0 (ae u1 (ae ua (ae d0 (ae d1 (ae FI (ae FJ (ae yJ (ae TZ CS))))))))) ?_
     refine aZ (q9 (k.tmod 2) []) ?_
     refine dQ (ae u0 (ae u1 (ae ua (ae d0 (ae d1 (ae FI FJ)))))) ?_
     refine aZ (q9 5 [mT sg k t 1, .mk 3 (k.tmod 2) []]) ?_
     refine dQ (ae u0 (ae u1 (ae ua (ae d0 (ae d1 (ae FI FJ)))))) ?_
     refine aL (bE (ids:=[a,a+36]) (nx:=a+39) aF aF [([0],[]),([],[]),([],[]),([],[]),([],[1]),([1],[1]),([0],[0])] bF) ?_
     exact acn
    ·have yJ:decide ((sg.cons.length:Int)>5)=true:=decide_eq_true ad
     have hS:mT sg k t (1+1)=mT sg k t 1:=by rw[mT,Ma,Mb,Hu];simp
     exact acm
    ·have yJ:decide ((sg.cons.length:Int)>5)=false:=decide_eq_false ad
     have hS:mT sg k t (1+1)=mT sg k t 1:=by rw[mT,Ma,Mb,Hu];simp
     exact zw7
   ·have fP:((i:Int)==1)=false:=by rw[beq_eq_false_iff_ne];omega
    have hS:mT sg k t (i+1)=mT sg k t i:=by rw[mT,Ma,Mb];simp[h1]
    exact zw8
  ·have PW:decide ((sg.cons.length:Int)>3)=false:=decide_eq_false ad
   refine dQ (ae u0 (ae u1 (ae ua (ae d0 (ae d1 (ae FI (ae FJ PW))))))) ?_
   by_cases h1:i=1
   ·subst h1
    rcases kY sg 5 2 with⟨c5,TZ,CS,Hu,Qu⟩|⟨c5,TZ,CS,Hu,Qu⟩|⟨Qu,Hu⟩
    ·exact absurd Qu ad
    ·exact absurd Qu ad
    ·have yJ:decide ((sg.cons.length:Int)>5)=false:=decide_eq_false ad
     have hS:mT sg k t (1+1)=mT sg k t 1:=by rw[mT,Ma,Mb,Hu];simp
     exact zw7
   ·have fP:((i:Int)==1)=false:=by rw[beq_eq_false_iff_ne];omega
    have hS:mT sg k t (i+1)=mT sg k t i:=by rw[mT,Ma,Mb];simp[h1]
    exact zw8
 ·replace h6:i=m:=by simp at h6;omega
  subst h6
  have dR:n<=140737488355327/\(n+1)*48<=140737488355328:=ad
  refine dQ (ae u0 (ae u1 (ae ua (ae d0 (ae d1 (ae FI (ae FJ (ae hL dR)))))))) ?_
  refine hQ _ _ _ rfl rfl rfl rfl ?_ ?_
  ·(repeat first|rfl|rw[ab]|rw[af _ _ _ _ (by omega)]);exact u0
  ·exact WZ
end Go.Proofs.YtlhemmpklhhgoaaGreat
