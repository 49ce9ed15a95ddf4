/-
  A PART OF THE PROOF. Conditions: none.
-/
import Derived.Test.YtealblliddhgiaaGreatGn17
set_option linter.unusedSimpArgs false
set_option linter.unusedVariables false
namespace Go.Proofs.YtealblliddhgiaaGreat
theorem yD:∀ (n:Nat) (t:Tm),t.wf->t.sz<=1000->t.ck<=n->C5 t
 |0,t,_,_,h=>by rw[Tm.ec]at h;omega
 |n+1,t,hw,hz,h=>by
  have ih:∀t':Tm,t'.wf->t'.sz<=1000->t'.ck<t.ck->C5 t':=fun t' h1 h2 h3=>yD n t' h1 h2 (by omega)
  have ml:=(Tm.iB t).1 hw
  exact Bn hw hz (fun k hk=>ih k (ml.2.2 k hk) (by have:=Tm.gQ hk;omega) (by have:=Tm.dv hk;omega)) (fun h8 b hb=>It hw hz h8 ih b hb)
theorem PE{t:Tm}{b:List (Int×Tm)}(hw:t.wf)(hz:t.sz<=1000)(hk:(b.map (·.1)).Nodup)(hl:b.length<=1000)(hb:∀p∈b,p.2.wf/\p.2.sz<=1000):
 bJ Tryz.prog 53 [vh b,t.d] (.ret [(bO t.ck b t).d]):=by
 refine yD _ t hw hz (Nat.le_refl _) b ⟨hk,hl,fun p hp=>(hb p hp).2,fun p hp=> ?_⟩
 have:=yD _ p.2 (hb p hp).1 (hb p hp).2 (Nat.le_refl _) [] ⟨List.nodup_nil,by simp,by simp,by simp⟩
 rwa [lI _ _ (hb p hp).1]at this
theorem Iw{σ:Type}(l:List TB)(hl:l.length<=9223372036854775807)(g:Nat)(b7:List V)(base:Nat)(H:σ->Nat->ae)(step:σ->TB->σ×Bool)(hc:∀r∈V.ag b7,r<base)(ok:σ->Prop)(bA:∀x∈l,∀s,ok s->(step s x).2=true->ok (step s x).1)
 (h:∀x∈l,∀s,ok s->vA Tryz.prog g (.d x.d::b7) base (H s) (H (step s x).1) (.d (.bool (step s x).2))) (s:σ) (rD:ok s):
 vA Tryz.prog 89 [.d (.sl (l.map TB.d)), .func (.func g) [] b7] base (H s) (H (aL step s l).1) (.d (.bool (aL step s l).2)):=by
 intro o nx hI K X hK
 have xo:∀r∈V.ag b7,r<nx:=fun r hr=>Nat.lt_of_lt_of_le (hc r hr) hI.le
 refine dX.aZ mix Th (by simp) ?_
 rw[YD]
 simp+contextual only[go_sem]
 refine aW (fun i:Nat×σ×(Nat->ae)×Nat=>⟨bw [.ab, .func (.func g) [] b7, .ab, .ab, .ab, .ab, .ab, .d (.sl (l.map TB.d)), .d (.i l.length), .d (.i i.1)],i.2.2.1,i.2.2.2⟩)
  (fun i=>i.1<=l.length/\gI base (H i.2.1) i.2.2.1 i.2.2.2/\nx<=i.2.2.2/\(∀id,base<=id->id<nx->i.2.2.1 id=o id)/\aL step s l=aL step i.2.1 (l.drop i.1)/\ok i.2.1) (fun i=>l.length - i.1) (0,s,o,nx)
  ⟨Nat.zero_le _,hI,Nat.le_refl _,fun _ _ _=>rfl,rfl,rD⟩ ?_ ?_
 ·dsimp only
  refine bW.bE _ (Nat.le_refl _) (by omega) hI.cW (fun _ _=>rfl) ?_
  (repeat(first|exact aq|refine ai ?_|refine ah rfl ?_|refine ah (aQ (aP (by omega))) ?_|refine aA rfl (by simp[V.refs,V.ag]<;>first|omega|assumption) ?_))
 rintro⟨k,s',o',nx'⟩ ⟨hk,D5,hn,cS,hf,uv⟩
 simp only at hk D5 hn cS hf uv
 simp+contextual only[go_sem]
 refine ay (fun h1=> ?_) (fun h1=> ?_)
 ·simp at h1
  obtain⟨x,hx⟩:=aX h1
  have kx:=List.mem_of_getElem? hx
  have hd:l.drop k=x::l.drop (k+1):=by
   rw[List.drop_eq_getElem_cons h1]
   rw[List.getElem?_eq_getElem h1]at hx;injection hx with hx;rw[hx]
  simp+contextual only[go_sem,hx,Nat.add_assoc,Nat.left_eq_add,Nat.add_eq_left,Nat.add_left_cancel_iff]
  have Vu:=D5.le
  refine iK (h x kx s' uv _ _ (?_:gI base (H s') _ (nx'+7)) _ _ fun o2 n2 m1 m2 m3=> ?_)
  ·exact(D5.ak (i:=nx'+3) (m:=nx'+7) (by omega) (by omega) (by omega) rfl).ak (by omega) (by omega) (by omega) rfl
  have A2:∀id,base<=id->id<nx->o2 id=o id:=fun id h2 h3=>by
   rw[m3 id h2 (by omega),ad _ _ _ _ (by omega),ad _ _ _ _ (by omega),cS id h2 h3]
  simp+contextual only[go_sem]
  refine ay (fun h2=> ?_) (fun h2=> ?_)
  ·simp+contextual only[go_sem]
   simp at h2
   have:aL step s l=((step s' x).1,false):=by rw[hf,hd,aL,if_neg (by rw[h2];exact Bool.false_ne_true)]
   rw[this]at hK
   exact hK _ _ (by omega) (m2.mono (by omega)) A2
  ·simp+contextual only[go_sem]
   simp at h2
   have:aL step s l=aL step (step s' x).1 (l.drop (k+1)):=by rw[hf,hd,aL,if_pos h2]
   refine aB (k+1,(step s' x).1,o2,n2) ⟨h1,m2,by dsimp only;omega,A2,this,bA x kx s' uv h2⟩ (by dsimp only;omega) ?_
   dsimp only
   have MM:∀r∈V.ag b7,r<n2:=fun r hr=>by have:=xo r hr;omega
   refine bW.bE _ (by omega) (by omega) m2.cW (fun _ _=>rfl) ?_
   (repeat(first|exact aq|refine ai ?_|refine ah rfl ?_|refine ah (aQ (aP (by omega))) ?_|refine aA rfl (by simp[V.refs,V.ag]<;>first|omega|assumption) ?_))
 ·simp+contextual only[go_sem]
  simp at h1
  rw[List.drop_eq_nil_of_le h1]at hf
  simp only[aL]at hf
  rw[hf]at hK
  exact hK _ _ (by omega) (D5.mono (by omega)) cS
def gW(s:aO)(last:Int)(x:TB):Int×Bool:=(x.var,decide (last<x.var)&&decide (x.var<20)&&iF s x.term)
def dh(s:aO)(l:List TB):Bool:=decide ((l.length:Int)<=20)&&(aL (gW s) (-1) l).2
theorem FY(s:aO)(hs:s.Fits)(x:TB)(hx:x.term.Fin)(base sp lp:Nat)(h:Nat->ae)(BU:h sp= .row s.row)(hb:sp<base)(hl:lp<base)(hn:sp≠lp)(last:Int):
 vA Tryz.prog 90 [.d x.d, .ptr lp 0, .ptr sp 0] base (ak h lp (.row [.d (.i last)])) (ak h lp (.row [.d (.i (gW s last x).1)])) (.d (.bool (gW s last x).2)):=by
 intro o nx hI K X hK
 have hle:=hI.le
 have hg:=hI.cW
 have q0:o sp= .row s.row:=by rw[hI.eq sp hb,ad _ _ _ _ hn,BU]
 have q1:o lp= .row [.d (.i last)]:=by rw[hI.eq lp hl,aa]
 have u9:lp≠sp:=fun e=>hn e.symm
 have w1:∀k,sp≠nx+k:=fun k=>by omega
 have w2:∀k,lp≠nx+k:=fun k=>by omega
 have w3:sp≠nx:=by omega
 have w4:lp≠nx:=by omega
 refine dX.aZ mix Ti (by simp) ?_
 rw[YE]
 simp only[gW]at hK
 cases h1:(decide (last<x.var)&&decide (x.var<20))with
 |false=>
  rw[h1]at hK
  simp+contextual (disch:=first|omega|simp only[go_sem,false_implies]) only[go_sem,wrap64,if_pos,q0,q1,hn,u9,w1,w2,w3,w4,Nat.add_assoc,Nat.left_eq_add,Nat.add_eq_left,Nat.add_left_cancel_iff,h1]
  rw[Bool.false_and]at hK
  refine hK _ _ (by omega) ⟨(by repeat(first|exact hg.mono (by omega)|exact Good.nil|refine Good.ak ?_ (by omega) rfl|refine Good.ak ?_ (by omega) (bV _ _ _ (by omega))|refine Good.ak ?_ (by omega) (by simp[ae.refs,V.ag,V.refs]<;>omega))),by omega,fun j hj=> ?_⟩ (fun j g1 g2=>by(repeat(first|rfl|rw[aa]|rw[ad _ _ _ _ (by omega)])))
  by_cases e:j=lp
  ·subst e;(repeat(first|rfl|rw[aa]|rw[ad _ _ _ _ (by omega)]))
  ·rw[ad _ _ _ _ e,ad _ _ _ _ e,ad _ _ _ _ (by omega),hI.eq j hj,ad _ _ _ _ e]
 |true=>
  rw[h1]at hK
  simp+contextual (disch:=first|omega|simp only[go_sem,false_implies]) only[go_sem,wrap64,if_pos,q0,q1,hn,u9,w1,w2,w3,w4,Nat.add_assoc,Nat.left_eq_add,Nat.add_eq_left,Nat.add_left_cancel_iff,h1]
  refine aw (ux s hs x.term hx.fits hx.ck) rfl ?_
  simp+contextual (disch:=first|omega|simp only[go_sem,false_implies]) only[go_sem,wrap64,if_pos,and_self]
  rw[Bool.true_and]at hK
  refine hK _ _ (by omega) ⟨(by repeat(first|exact hg.mono (by omega)|exact Good.nil|refine Good.ak ?_ (by omega) rfl|refine Good.ak ?_ (by omega) (bV _ _ _ (by omega))|refine Good.ak ?_ (by omega) (by simp[ae.refs,V.ag,V.refs]<;>omega))),by omega,fun j hj=> ?_⟩ (fun j g1 g2=>by(repeat(first|rfl|rw[aa]|rw[ad _ _ _ _ (by omega)])))
  by_cases e:j=lp
  ·subst e;(repeat(first|rfl|rw[aa]|rw[ad _ _ _ _ (by omega)]))
  ·rw[ad _ _ _ _ e,ad _ _ _ _ e,ad _ _ _ _ (by omega),hI.eq j hj,ad _ _ _ _ e]
theorem Ix(s:aO)(hs:s.Fits)(l:List TB)(hl:l.length<=9223372036854775807)(hx:∀x∈l,x.term.Fin):bJ Tryz.prog 52 [s.d, .sl (l.map TB.d)] (.ret [.bool (dh s l)]):=by
 refine bJ.aZ mix SS (by simp) ?_
 rw[X2]
 unfold dh
 cases h1:decide ((l.length:Int)<=20)with
 |false=>
  simp+contextual (disch:=first|omega|simp only[go_sem,false_implies]) only[go_sem,wrap64,if_pos,Nat.add_assoc,Nat.left_eq_add,Nat.add_eq_left,Nat.add_left_cancel_iff,h1]
 |true=>
  simp+contextual (disch:=first|omega|simp only[go_sem,false_implies]) only[go_sem,wrap64,if_pos,Nat.add_assoc,Nat.left_eq_add,Nat.add_eq_left,Nat.add_left_cancel_iff,h1]
  refine dy (Iw l hl 90 [.ptr 2 0, .ptr 0 0] 3 (fun last:Int=>ak (ak (fun _=> .no) 0 (.row s.row)) 2 (.row [.d (.i last)])) (gW s) (by simp[V.ag,V.refs]) (fun _=>True) (fun _ _ _ _ _=>trivial)
   (fun x kx last _=>FY s hs x (hx x kx) 3 0 2 (ak (fun _=> .no) 0 (.row s.row)) (aa _ _ _) (by omega) (by omega) (by omega) last) (-1) trivial _ _ ⟨?_,by omega,fun id ax=> ?_⟩ _ _ fun o2 n2 m1 m2 m3=> ?_)
  ·exact(by repeat(first|exact hg.mono (by omega)|exact Good.nil|refine Good.ak ?_ (by omega) rfl|refine Good.ak ?_ (by omega) (bV _ _ _ (by omega))|refine Good.ak ?_ (by omega) (by simp[ae.refs,V.ag,V.refs]<;>omega)))
  ·rcases(by omega:id=0\/id=1\/id=2)with rfl|rfl|rfl<;>rfl
  simp+contextual (disch:=first|omega|simp only[go_sem,false_implies]) only[go_sem,wrap64,if_pos,and_self]
theorem uN{M:Nat}(hM:1<=M):∀ (f:Nat) (t:Tm) (b:List (Int×Tm)),t.wf->t.ck<=f->(∀p∈b,p.2.sz<=M)->(bO f b t).sz<=t.sz*M
 |0,t,_,_,h,_=>by rw[Tm.ec]at h;omega
 |f+1,t,b,hw,hf,hb=>by
  have ml:=(Tm.iB t).1 hw
  have Y9:∀n:Nat,n<=n*M:=fun n=>Nat.le_mul_of_pos_right n hM
  simp only[bO]
  split
  ·have:=Tm.nn t
   split
   ·rename_i x hx
    have h1:=hb _ (fN hx)
    exact Nat.le_trans h1 (Nat.le_mul_of_pos_left M (by omega))
   ·exact Y9 _
  ·split
   ·rename_i h8
    obtain⟨a,body,hk⟩:=qY (ml.2.1 h8)
    have ha:a∈t.kids:=by rw[hk];simp
    have vg:body∈t.kids:=by rw[hk];simp
    have g1:=Tm.dv ha
    have g2:=Tm.dv vg
    have e1:=uN hM f a b (ml.2.2 a ha) (by omega) hb
    have mz:∀p∈cY b t.n,p.2.sz<=M:=fun p hp=>hb p (List.mem_filter.1 hp).1
    have e2:=uN hM f body _ (ml.2.2 body vg) (by omega) mz
    have e0:=fun m=>kA f body [(t.n, .mk 1 m [])] (ml.2.2 body vg) (by omega) (by intro p hp;simp at hp;subst hp;exact⟨rfl,rfl⟩)
    have e3:=fun m=>uN hM f (bO f [(t.n, .mk 1 m [])] body) _ (e0 m).2.1 (by rw[(e0 m).1];omega) mz
    have hz:t.sz=1+(a.sz+body.sz):=by rw[Tm.iQ,hk,dL,dL];simp[mF]
    have fin:∀ (n:Int) (y:Tm),y.sz<=body.sz*M->(Tm.mk 8 n [bO f b a,y]).sz<=t.sz*M:=by
     intro n y hy
     rw[Tm.Ia,dL,dL,hz,Nat.add_mul,Nat.add_mul]
     simp only[mF,List.map_nil,List.sum_nil]
     omega
    rw[hk]
    simp only
    split
    ·exact fin _ _ (by have:=e3 (gN (gM b t));rw[(e0 _).2.2]at this;exact this)
    ·exact fin _ _ e2
   ·have hl:∀l:List Tm,(∀k∈l,k∈t.kids)->mF (l.map (bO f b))<=mF l*M:=by
     intro l
     induction l with
     |nil=>intro _;simp[mF]
     |cons k l AX=>
      intro h
      have hk:=h k (List.mem_cons_self ..)
      have h1:=uN hM f k b (ml.2.2 k hk) (by have:=Tm.dv hk;omega) hb
      have h2:=AX fun x hx=>h x (List.mem_cons_of_mem _ hx)
      rw[List.map_cons,dL,dL,Nat.add_mul]
      omega
    have:=hl t.kids fun _ h=>h
    rw[Tm.Ia,Tm.iQ t,Nat.add_mul]
    omega
end Go.Proofs.YtealblliddhgiaaGreat
namespace Go.Proofs.YtealblliddhgiaaGreat
end Go.Proofs.YtealblliddhgiaaGreat
namespace Go.Proofs.YtealblliddhgiaaGreat
end Go.Proofs.YtealblliddhgiaaGreat
namespace Go.Proofs.YtealblliddhgiaaGreat
theorem iT(s:aO):∀t:Tm,im s t=true->t.wf:=by
 refine Tm.eO fun t ih h=> ?_
 rw[lC,Bool.and_eq_true,List.all_eq_true]at h
 rw[Tm.iB]
 refine⟨fun h1=>Io h.1 h1,fun h8=> ?_,fun k hk=>ih k hk (h.2 k hk)⟩
 have:=h.1
 simp[bu,h8]at this
 omega
theorem cz{s:aO}{t:Tm}(h:bL s t=true):t.wf/\t.sz<=40/\t.ck<=12:=by
 simp only[bL,Bool.and_eq_true,decide_eq_true_eq,jS]at h
 exact⟨iT s t h.2,by omega,by omega⟩
def aj(l:List TB):List (Int×Tm):=l.map fun x=>(x.var,x.term)
theorem oX{s:aO}:∀ (l:List TB) (a:Int),(aL (gW s) a l).2=true->(∀x∈l,a<x.var/\x.var<20/\bL s x.term=true)/\(l.map (·.var)).Nodup
 |[],_,_=>by simp
 |x::l,a,h=>by
  simp only[aL]at h
  split at h
  ·rename_i h1
   simp only[gW,Bool.and_eq_true,decide_eq_true_eq,iz]at h1
   obtain⟨i1,i2⟩:=oX l x.var h
   refine⟨fun y hy=> ?_, ?_⟩
   ·rcases List.mem_cons.1 hy with rfl|hy
    ·exact⟨h1.1.1,h1.1.2,h1.2⟩
    ·have:=i1 y hy
     exact⟨by omega,this.2⟩
   ·rw[List.map_cons,List.nodup_cons]
    refine⟨fun hm=> ?_,i2⟩
    obtain⟨y,hy,e⟩:=List.mem_map.1 hm
    have:=(i1 y hy).1
    omega
  ·rename_i h1
   cases h
def sx(s:aO)(t:Tm)(l:List TB):Tm×Int:=if(eW s [t]&&dh s l)=true then(if iF s (bO t.ck (aj l) t)=true then(bO t.ck (aj l) t,0)else(.mk 0 0 [],3))else(.mk 0 0 [],2)
theorem ji(s:aO)(hs:s.Fits)(t:Tm)(ht:t.Fin)(l:List TB)(hl:l.length<=9223372036854775807)(hx:∀x∈l,x.term.Fin):bJ Tryz.prog 14 [s.d,t.d, .sl (l.map TB.d)] (.ret [(sx s t l).1.d, .i (sx s t l).2]):=by
 refine bJ.aZ mix SC (by simp) ?_
 rw[Xo]
 simp+contextual (disch:=first|omega|simp only[go_sem,false_implies]) only[go_sem,wrap64,if_pos,and_self]
 refine aw (yu s hs [t] (by simp) (fun x hx=>by simp at hx;subst hx;exact ht)) rfl ?_
 cases h1:eW s [t]with
 |false=>
  have e:sx s t l=(.mk 0 0 [],2):=by simp[sx,h1]
  rw[e]
  simp+contextual (disch:=first|omega|simp only[go_sem,false_implies]) only[go_sem,wrap64,if_pos,and_self]
  rw[Tm.vy]
  rfl
 |true=>
  simp+contextual (disch:=first|omega|simp only[go_sem,false_implies]) only[go_sem,wrap64,if_pos,and_self]
  refine aw (Ix s hs l hl hx) rfl ?_
  cases h2:dh s l with
  |false=>
   have e:sx s t l=(.mk 0 0 [],2):=by simp[sx,h2]
   rw[e]
   simp+contextual (disch:=first|omega|simp only[go_sem,false_implies]) only[go_sem,wrap64,if_pos,and_self]
   rw[Tm.vy]
   rfl
  |true=>
   simp+contextual (disch:=first|omega|simp only[go_sem,false_implies]) only[go_sem,wrap64,if_pos,and_self]
   unfold dh at h2
   rw[Bool.and_eq_true,decide_eq_true_eq]at h2
   obtain⟨h3,h4⟩:=oX l (-1) h2.2
   have PW:((aj l).map (·.1)).Nodup:=by simpa[aj,Function.comp_def]using h4
   have hft:bL s t=true:=by
    rw[eW,Bool.and_eq_true,List.all_eq_true]at h1
    have:=h1.2 t (by simp)
    rwa [iz]at this
   obtain⟨w1,w2,w3⟩:=cz hft
   have Za:∀p∈aj l,p.2.wf/\p.2.sz<=40:=fun p hp=>by
    obtain⟨x,Zb,rfl⟩:=List.mem_map.1 hp
    have:=cz (h3 x Zb).2.2
    exact⟨this.1,this.2.1⟩
   have xk:(aj l).length<=20:=by rw[aj,List.length_map];omega
   refine aW (fun i:Nat=>⟨bw [.ab, .ab, .ab, .ptr 0 0, .ptr 1 0, .ab, .ptr 2 0, .d (.i 0), .mp 15, .ab, .ab, .ab, .ab, .ab, .ab, .ab, .ab, .ab, .ab, .ab, .ab, .ab, .ab, .ab, .ab, .d (.sl (l.map TB.d)), .d (.i l.length), .d (.i i)],ak (ak (ak (ak (ak (fun _=> .no) 0 (.row s.row)) 1 (.row t.row)) 2 (.row [.d (.i 0), .d (.i 0), .bn])) 6 (.arr 0 28 3 [t.d])) 15 (cI (aj (l.take i))),20⟩)
    (fun i=>i<=l.length) (fun i=>l.length - i) 0 (Nat.zero_le _) ?_ ?_
   ·refine bW.bE _ (by decide) (Nat.le_refl _) (by repeat(first|exact hg.mono (by omega)|exact Good.nil|refine Good.ak ?_ (by omega) rfl|refine Good.ak ?_ (by omega) (bV _ _ _ (by omega))|refine Good.ak ?_ (by omega) (by simp[ae.refs,V.ag,V.refs]<;>omega))) (fun j hj=>rfl) ?_
    (repeat(first|exact aq|refine ai ?_|refine ah rfl ?_|refine ah (aQ (aP (by omega))) ?_|refine aA rfl (by simp[V.refs,V.ag]<;>first|omega|assumption) ?_))
   rintro i hi
   replace hi:i<=l.length:=hi
   simp+contextual (disch:=first|omega|simp only[go_sem,false_implies]) only[go_sem,wrap64,if_pos,List.length_map]
   refine ay (fun h5=> ?_) (fun h5=> ?_)
   ·simp at h5
    obtain⟨x,hx5⟩:=aX h5
    have V1:l.take (i+1)=l.take i++[x]:=by rw[List.take_add_one,hx5];rfl
    have PD:bz (aj (l.take i)) x.var=none:=by
     rw[gO]
     intro hm
     have h6:x.var∈(l.take i).map (·.var):=by simpa[aj,Function.comp_def]using hm
     have h7:((l.take (i+1)).map (·.var)).Nodup:=h4.sublist ((List.take_sublist _ _).map _)
     rw[V1,List.map_append,List.nodup_append]at h7
     exact h7.2.2 _ h6 x.var (by simp) rfl
    have vg:aj (l.take (i+1))=aj (l.take i)++[(x.var,x.term)]:=by rw[V1];simp[aj]
    simp+contextual (disch:=first|omega|simp only[go_sem,false_implies]) only[go_sem,wrap64,if_pos,List.length_map,hx5,iS PD]
    refine aB (i+1) h5 (by omega) (bW.bE _ (by decide) (by omega) (by repeat(first|exact hg.mono (by omega)|exact Good.nil|refine Good.ak ?_ (by omega) rfl|refine Good.ak ?_ (by omega) (bV _ _ _ (by omega))|refine Good.ak ?_ (by omega) (by simp[ae.refs,V.ag,V.refs]<;>omega))) (fun j hj=> ?_) ?_)
    ·rw[vg]
     by_cases e:j=15
     ·subst e;(repeat(first|rfl|rw[aa]|rw[ad _ _ _ _ (by omega)]))
     ·(repeat(first|rfl|rw[aa]|rw[ad _ _ _ _ (by omega)]))
      rw[ad _ _ _ _ e]
    ·(repeat(first|exact aq|refine ai ?_|refine ah rfl ?_|refine ah (aQ (aP (by omega))) ?_|refine aA rfl (by simp[V.refs,V.ag]<;>first|omega|assumption) ?_))
   ·simp at h5
    have V2:i=l.length:=by omega
    subst V2
    rw[List.take_length]
    simp+contextual (disch:=first|omega|simp only[go_sem,false_implies]) only[go_sem,wrap64,if_pos,and_self]
    refine aU (PE (b:=aj l) w1 (by omega) PW (by omega) fun p hp=>⟨(Za p hp).1,by have:=(Za p hp).2;omega⟩) ?_
    simp+contextual (disch:=first|omega|simp only[go_sem,false_implies]) only[go_sem,wrap64,if_pos,and_self]
    have hz:=uN (M:=40) (by omega) t.ck t (aj l) w1 (Nat.le_refl _) (fun p hp=>(Za p hp).2)
    have hz2:(bO t.ck (aj l) t).sz<=1600:=Nat.le_trans hz (Nat.le_trans (Nat.mul_le_mul_right 40 w2) (by decide))
    have hh2:=Tm.ra (bO t.ck (aj l) t)
    refine aw (ux s hs (bO t.ck (aj l) t) (Tm.fm _ (by omega)) (by omega)) rfl ?_
    cases h6:iF s (bO t.ck (aj l) t)with
    |false=>
     have e:sx s t l=(.mk 0 0 [],3):=by simp[sx,h1,dh,h2,h6]
     rw[e]
     simp+contextual (disch:=first|omega|simp only[go_sem,false_implies]) only[go_sem,wrap64,if_pos,and_self]
     rw[Tm.vy]
     rfl
    |true=>
     have e:sx s t l=(bO t.ck (aj l) t,0):=by simp[sx,h1,dh,h2,h6]
     rw[e]
     simp+contextual (disch:=first|omega|simp only[go_sem,false_implies]) only[go_sem,wrap64,if_pos,and_self]
end Go.Proofs.YtealblliddhgiaaGreat
namespace Go.Proofs.YtealblliddhgiaaGreat
theorem C6{s:aO}{op n:Int}{l l':List Tm}(h:l'.length=l.length):bu s (.mk op n l')=bu s (.mk op n l):=by
 unfold bu
 dsimp only[Tm.op,Tm.n,Tm.kids]
 rw[h]
 rfl
theorem FZ{s:aO}{k:Int}(h:0<=k/\k<20):bu s (.mk 1 k [])=true:=by
 have:eX k 0 19=true:=by simp[eX];omega
 simp[bu,Tm.op,Tm.n,Tm.kids,this]
theorem Iy{s:aO}:∀t:Tm,im s t=true->∀v,eL v t=true->0<=v/\v<20:=by
 refine Tm.eO fun t ih h v hv=> ?_
 have hw:=(Tm.iB t).1 (iT s t h)
 rw[lC,Bool.and_eq_true,List.all_eq_true]at h
 by_cases h1:t.op=1
 ·rw[np,if_pos h1]at hv
  have hv:t.n=v:=by simpa using hv
  have:=h.1
  simp[bu,h1,eX]at this
  omega
 ·by_cases h8:t.op=8
  ·obtain⟨a,body,hk⟩:=qY (hw.2.1 h8)
   rw[PB h8 hk,Bool.or_eq_true,Bool.and_eq_true]at hv
   rcases hv with hv|hv
   ·exact ih a (by rw[hk];simp) (h.2 a (by rw[hk];simp)) v hv
   ·exact ih body (by rw[hk];simp) (h.2 body (by rw[hk];simp)) v hv.1
  ·rw[Ip h1 h8,List.any_eq_true]at hv
   obtain⟨k,hk,hv⟩:=hv
   exact ih k hk (h.2 k hk) v hv
theorem xb{s:aO}:∀ (l:List TB) (a:Int),(∀x∈l,a<x.var/\x.var<20/\bL s x.term=true)->l.Pairwise (fun x y=>x.var<y.var)->(aL (gW s) a l).2=true
 |[],_,_,_=>rfl
 |x::l,a,h,hp=>by
  rw[List.pairwise_cons]at hp
  obtain⟨h1,h2,h3⟩:=h x (by simp)
  simp only[aL,gW,iz,h3,decide_eq_true h1,decide_eq_true h2,Bool.and_self,if_true]
  exact xb l x.var (fun y hy=>⟨hp.1 y hy,(h y (by simp[hy])).2⟩) hp.2
end Go.Proofs.YtealblliddhgiaaGreat
namespace Go.Proofs.YtealblliddhgiaaGreat
end Go.Proofs.YtealblliddhgiaaGreat
namespace Go.Proofs.YtealblliddhgiaaGreat
def j6(g:List Int)(i:Int):Nat:=(g.filter fun x=>decide (x<i)).length
theorem nv{g:List Int}{i:Int}(h:∀x∈g,i<=x):j6 g i=0:=by
 unfold j6
 rw[List.filter_eq_nil_iff.2 (fun x hx=>by have:=h x hx;simp;omega)];rfl
theorem K9{g:List Int}{i:Int}(h:∀x∈g,x<i):j6 g i=g.length:=by
 unfold j6
 rw[List.filter_eq_self.2 (fun x hx=>by simpa using h x hx)]
theorem Bp:∀ {g:List Int},Gg g->∀i:Int,if i∈g then g[j6 g i]? =some i/\j6 g (i+1)=j6 g i+1 else j6 g (i+1)=j6 g i
 |[],_,i=>by simp[j6]
 |x::g,hg,i=>by
  have Ie:=List.pairwise_cons.1 hg
  have ih:=Bp Ie.2 i
  have hc:∀j,j6 (x::g) j=(if x<j then 1 else 0)+j6 g j:=fun j=>by
   unfold j6
   rw[List.filter_cons]
   by_cases e:x<j
   ·simp[e];omega
   ·simp[e]
  rcases Int.lt_trichotomy x i with h|h|h
  ·have hm:(i∈x::g)↔i∈g:=by simp;omega
   simp only[hm,hc,if_pos h,if_pos (show x<i+1 by omega)]
   split
   ·rename_i e
    rw[if_pos e]at ih
    refine⟨?_,by omega⟩
    rw[show 1+j6 g i=j6 g i+1 by omega,List.getElem?_cons_succ]
    exact ih.1
   ·rename_i e
    rw[if_neg e]at ih
    omega
  ·subst h
   have z1:j6 g x=0:=nv fun y hy=>by have:=Ie.1 y hy;omega
   have z2:j6 g (x+1)=0:=nv fun y hy=>by have:=Ie.1 y hy;omega
   rw[if_pos (by simp),hc,hc,z1,z2,if_neg (by omega),if_pos (by omega)]
   exact⟨rfl,rfl⟩
  ·have hm: ¬i∈x::g:=by
    intro hm
    rcases List.mem_cons.1 hm with rfl|hm
    ·omega
    ·have:=Ie.1 i hm;omega
   have z1:j6 g i=0:=nv fun y hy=>by have:=Ie.1 y hy;omega
   have z2:j6 g (i+1)=0:=nv fun y hy=>by have:=Ie.1 y hy;omega
   rw[if_neg hm,hc,hc,z1,z2,if_neg (by omega),if_neg (by omega)]
theorem yE{ns:List Int}(h:∀n∈ns,0<=n/\n<20)(hi:Gg ns):ns.length<=20:=by
 have hc:∀k:Nat,j6 ns (k:Int)<=k:=by
  intro k
  induction k with
  |zero=>show j6 ns (0:Int)<=0;rw[nv (fun x hx=>(h x hx).1)];exact Nat.le_refl _
  |succ k ih=>
   have:=Bp hi (k:Int)
   rw[Int.natCast_succ]
   split at this<;>omega
 have:j6 ns (20:Int)<=20:=hc 20
 rwa [K9 (fun x hx=>(h x hx).2)]at this
end Go.Proofs.YtealblliddhgiaaGreat
namespace Go.Proofs.YtealblliddhgiaaGreat
mutual
def aY(b:List (Int×Tm)):Tm->Tm
 | .mk op n kids=>if op=1 then(match bz b n with|some x=>x|none=> .mk op n kids)else .mk op n (La b kids)
def La(b:List (Int×Tm)):List Tm->List Tm
 |[]=>[]
 |k::l=>aY b k::La b l
end
theorem Bq(b:List (Int×Tm)):∀l:List Tm,La b l=l.map (aY b)
 |[]=>rfl
 |k::l=>by simp[La,Bq b l]
theorem uO(b:List (Int×Tm))(t:Tm):aY b t=if t.op=1 then(match bz b t.n with|some x=>x|none=>t)else .mk t.op t.n (t.kids.map (aY b)):=by
 cases t;simp only[aY,Bq,Tm.op,Tm.n,Tm.kids];rfl
def Lv(b:List (Int×Tm))(v:Int):Tm:=match bz b v with|some x=>x|none=> .mk 1 v []
def vop(t:Tm):Prop:=(1<=t.op/\t.op<=3)\/t.op=5
def Vs(s:aO)(t:Tm):Prop:=im s t=true/\eE t=true
theorem re{s:aO}{t:Tm}:Vs s t↔bu s t=true/\vop t/\∀k∈t.kids,Vs s k:=by
 unfold Vs vop
 rw[lC,qQ]
 simp only[Bool.and_eq_true,List.all_eq_true,Bool.or_eq_true,decide_eq_true_eq,beq_iff_eq]
 constructor
 ·rintro⟨⟨h1,h2⟩,h3,h4⟩;exact⟨h1,h4,fun k hk=>⟨h2 k hk,h3 k hk⟩⟩
 ·rintro⟨h1,h2,h3⟩;exact⟨⟨h1,fun k hk=>(h3 k hk).1⟩,fun k hk=>(h3 k hk).2,h2⟩
theorem Vs.mC {s:aO}{t k:Tm}(h:Vs s t)(hk:k∈t.kids):Vs s k:=(re.1 h).2.2 k hk
theorem Vs.eta {s:aO}{t:Tm}(h:Vs s t)(h1:t.op=1):t= .mk 1 t.n []:=yA (iT s t h.1) h1
theorem Vs.n8 {s:aO}{t:Tm}(h:Vs s t):t.op≠8:=by rcases(re.1 h).2.1 with h|h<;>omega
theorem Vs.range {s:aO}{t:Tm}(h:Vs s t){v:Int}(hv:eL v t=true):0<=v/\v<20:=Iy t h.1 v hv
theorem Vs.var {s:aO}{v:Int}(h:0<=v/\v<20):Vs s (.mk 1 v []):=re.2 ⟨FZ h,Or.inl ⟨by show(1:Int)<=1;omega,by show(1:Int)<=3;omega⟩,fun k hk=>by cases hk⟩
theorem Vs.mk' {s:aO}{t:Tm}{l:List Tm}(h:Vs s t)(hl:l.length=t.kids.length)(hk:∀k∈l,Vs s k):Vs s (.mk t.op t.n l):=
 re.2 ⟨by rw[C6 hl,Tm.eta];exact(re.1 h).1,(re.1 h).2.1,hk⟩
theorem gk{t:Tm}(h1:t.op=1){v:Int}:eL v t=true↔t.n=v:=by rw[np,if_pos h1];simp
theorem ou{s:aO}{t:Tm}(h:Vs s t)(h1:t.op≠1){v:Int}:eL v t=true↔∃k∈t.kids,eL v k=true:=by rw[Ip h1 h.n8,List.any_eq_true]
theorem et{b:List (Int×Tm)}{s:aO}{t:Tm}(h:Vs s t)(h1:t.op=1):aY b t=Lv b t.n:=by
 rw[uO,if_pos h1,Lv]
 cases bz b t.n with
 |some x=>rfl
 |none=>exact h.eta h1
theorem iC{b:List (Int×Tm)}{v:Int}:aY b (.mk 1 v [])=Lv b v:=by rw[uO];rfl
theorem jd{b:List (Int×Tm)}{t:Tm}(h1:t.op≠1):aY b t= .mk t.op t.n (t.kids.map (aY b)):=by rw[uO,if_neg h1]
theorem Iz{s:aO}(b:List (Int×Tm)):∀ (f:Nat) (t:Tm),Vs s t->t.ck<=f->bO f b t=aY b t
 |0,t,_,h=>by rw[Tm.ec]at h;omega
 |f+1,t,hv,hf=>by
  have h8:=hv.n8
  simp only[bO,if_neg h8]
  rw[uO]
  split
  ·rfl
  ·rw[List.map_congr_left fun k hk=>Iz b f k (hv.mC hk) (by have:=Tm.dv hk;omega)]
theorem Br{s:aO}{b c:List (Int×Tm)}:∀t:Tm,Vs s t->(∀v,eL v t=true->Lv b v=Lv c v)->aY b t=aY c t:=by
 refine Tm.eO fun t ih hv h=> ?_
 by_cases h1:t.op=1
 ·rw[et hv h1,et hv h1,h _ ((gk h1).2 rfl)]
 ·rw[jd h1,jd h1,List.map_congr_left fun k hk=>ih k hk (hv.mC hk) fun v IA=>h v ((ou hv h1).2 ⟨k,hk,IA⟩)]
theorem sQ{s:aO}{b c d:List (Int×Tm)}:∀t:Tm,Vs s t->(∀v,eL v t=true->aY c (Lv b v)=Lv d v)->aY c (aY b t)=aY d t:=by
 refine Tm.eO fun t ih hv h=> ?_
 by_cases h1:t.op=1
 ·rw[et hv h1,et hv h1,h _ ((gk h1).2 rfl)]
 ·rw[jd h1,jd h1 (b:=d),jd (by exact h1)]
  show Tm.mk t.op t.n ((t.kids.map (aY b)).map (aY c))=_
  rw[List.map_map,List.map_congr_left (f:=aY c∘aY b) (g:=aY d) fun k hk=>ih k hk (hv.mC hk) fun v IA=>h v ((ou hv h1).2 ⟨k,hk,IA⟩)]
theorem Em{s:aO}{b:List (Int×Tm)}:∀t:Tm,Vs s t->(∀v,eL v t=true->bz b v=none)->aY b t=t:=by
 refine Tm.eO fun t ih hv h=> ?_
 by_cases h1:t.op=1
 ·rw[et hv h1,Lv,h _ ((gk h1).2 rfl)]
  exact(hv.eta h1).symm
 ·rw[jd h1,List.map_congr_left (g:=id) fun k hk=>ih k hk (hv.mC hk) fun v IA=>h v ((ou hv h1).2 ⟨k,hk,IA⟩),List.map_id]
  exact Tm.eta t
theorem Vs.Lv {s:aO}{b:List (Int×Tm)}(hb:∀p∈b,Vs s p.2){v:Int}(h:0<=v/\v<20):Vs s (Lv b v):=by
 unfold YtealblliddhgiaaGreat.Lv
 cases hl:bz b v with
 |some x=>exact hb _ (fN hl)
 |none=>exact Vs.var h
theorem Vs.sub {s:aO}{b:List (Int×Tm)}(hb:∀p∈b,Vs s p.2):∀t:Tm,Vs s t->Vs s (aY b t):=by
 refine Tm.eO fun t ih hv=> ?_
 by_cases h1:t.op=1
 ·rw[et hv h1];exact Vs.Lv hb (hv.range ((gk h1).2 rfl))
 ·rw[jd h1]
  refine hv.mk' (by simp) fun k hk=> ?_
  obtain⟨x,hx,rfl⟩:=List.mem_map.1 hk
  exact ih x hx (hv.mC hx)
theorem En{s:aO}{b:List (Int×Tm)}(hb:∀p∈b,Vs s p.2):∀t:Tm,Vs s t->∀v,eL v (aY b t)=true↔∃u,eL u t=true/\eL v (Lv b u)=true:=by
 refine Tm.eO fun t ih hv v=> ?_
 by_cases h1:t.op=1
 ·rw[et hv h1]
  simp only[gk h1]
  exact⟨fun h=>⟨_,rfl,h⟩,fun⟨u,e,h⟩=>e ▸ h⟩
 ·have Gd:=Vs.sub hb t hv
  rw[jd h1]at Gd|-
  rw[ou Gd (by exact h1)]
  simp only[ou hv h1,Tm.kids,List.mem_map]
  constructor
  ·rintro⟨_,⟨k,hk,rfl⟩,h⟩
   obtain⟨u,h2,h3⟩:=(ih k hk (hv.mC hk) v).1 h
   exact⟨u,⟨k,hk,h2⟩,h3⟩
  ·rintro⟨u,⟨k,hk,h2⟩,h3⟩
   exact⟨_,⟨k,hk,rfl⟩,(ih k hk (hv.mC hk) v).2 ⟨u,h2,h3⟩⟩
theorem UR{b:List (Int×Tm)}{t:Tm}(h1:t.op≠1):(aY b t).op=t.op/\(aY b t).n=t.n/\(aY b t).kids=t.kids.map (aY b):=by rw[jd h1];exact⟨rfl,rfl,rfl⟩
end Go.Proofs.YtealblliddhgiaaGreat
namespace Go.Proofs.YtealblliddhgiaaGreat
def nw:List TB->Int->Tm->List TB
 |[],n,t=>[⟨n,t⟩]
 |x::l,n,t=>if x.var<n then x::nw l n t else⟨n,t⟩::x::l
abbrev vE(n:Int)(t:Tm):List (Int×Tm):=[(n,t)]
def gX(l:List TB)(n:Int)(t:Tm):List TB:=nw (l.map fun x=>⟨x.var,aY (vE n t) x.term⟩) n t
def cV(F:Tm->Tm->List TB->Option (List TB×Bool)):List Tm->List Tm->List TB->Option (List TB×Bool)
 |k::ks,k'::cl,l=>match F k k' l with
  |some (l1,true)=>cV F ks cl l1
  |some (l1,false)=>some (l1,false)
  |none=>none
 |_,_,l=>some (l,true)
def gu:Nat->Tm->Tm->List TB->Option (List TB×Bool)
 |0,_,_,_=>none
 |f+1,a,c,l=>
  if iM (aY (aj l) a) (aY (aj l) c)=true then some (l,true)
  else if(aY (aj l) a).op=1/\(aY (aj l) c).op=1 then some (gX l (max (aY (aj l) a).n (aY (aj l) c).n) (.mk 1 (min (aY (aj l) a).n (aY (aj l) c).n) []),true)
  else if(aY (aj l) a).op=1 then some (gX l (aY (aj l) a).n (aY (aj l) c), !(ct (aY (aj l) c)).contains (aY (aj l) a).n)
  else if(aY (aj l) c).op=1 then some (gX l (aY (aj l) c).n (aY (aj l) a), !(ct (aY (aj l) a)).contains (aY (aj l) c).n)
  else if(aY (aj l) a).op≠(aY (aj l) c).op\/(aY (aj l) a).n≠(aY (aj l) c).n\/(aY (aj l) a).kids.length≠(aY (aj l) c).kids.length then some ([],false)
  else cV (gu f) (aY (aj l) a).kids (aY (aj l) c).kids l
theorem uP{l:List TB}{n:Int}{t:Tm}(hn:bz (aj l) n=none)(v:Int):bz (aj (nw l n t)) v=if v=n then some t else bz (aj l) v:=by
 induction l with
 |nil=>
  simp only[nw,aj,List.map_cons,List.map_nil,bz]
  by_cases e:v=n
  ·simp[e]
  ·rw[if_neg e,if_neg fun h=>e h.symm]
 |cons x l ih=>
  simp only[aj,List.map_cons,bz]at hn
  by_cases e1:x.var=n
  ·rw[if_pos e1]at hn;cases hn
  ·rw[if_neg e1]at hn
   have ih:=ih hn
   simp only[nw]
   split
   ·simp only[aj,List.map_cons,bz]at ih|-
    by_cases e:x.var=v
    ·rw[if_pos e,if_pos e,if_neg fun h=>e1 (e.trans h)]
    ·rw[if_neg e,if_neg e];exact ih
   ·simp only[aj,List.map_cons,bz]
    by_cases e:v=n
    ·simp[e]
    ·rw[if_neg e,if_neg fun h=>e h.symm]
theorem IB(l:List TB)(g:Tm->Tm)(v:Int):bz (aj (l.map fun x=>⟨x.var,g x.term⟩)) v=(bz (aj l) v).map g:=by
 induction l with
 |nil=>rfl
 |cons x l ih=>
  simp only[aj,List.map_cons,bz]at ih|-
  split
  ·rfl
  ·exact ih
theorem sR{l:List TB}{n:Int}{t:Tm}(hn:bz (aj l) n=none)(v:Int):bz (aj (gX l n t)) v=if v=n then some t else(bz (aj l) v).map (aY (vE n t)):=by
 unfold gX
 rw[uP (by rw[IB,hn];rfl),IB]
theorem rh{n v:Int}{t:Tm}:Lv (vE n t) v=if v=n then t else .mk 1 v []:=by
 simp only[Lv,vE,bz]
 by_cases e:v=n
 ·simp[e]
 ·rw[if_neg e,if_neg fun h=>e h.symm]
theorem jj{l:List TB}{n:Int}{t:Tm}(hn:bz (aj l) n=none)(v:Int):Lv (aj (gX l n t)) v=if v=n then t else aY (vE n t) (Lv (aj l) v):=by
 simp only[Lv,sR hn]
 by_cases e:v=n
 ·simp[e]
 ·simp only[if_neg e]
  cases h:bz (aj l) v with
  |some x=>rfl
  |none=>simp only[Option.map_none];rw[iC,rh,if_neg e]
structure j5 (s:aO) (l:List TB):Prop where
 ID:l.Pairwise fun x y=>x.var<y.var
 ok:∀x∈l,(0<=x.var/\x.var<20)/\Vs s x.term
 idem:∀x∈l,∀u,eL u x.term=true->bz (aj l) u=none
theorem j5.nil {s:aO}:j5 s []:=⟨List.Pairwise.nil,fun _ h=>(by cases h),fun _ h=>(by cases h)⟩
theorem j5.bd {s:aO}{l:List TB}(h:j5 s l):∀p∈aj l,Vs s p.2:=fun p hp=>by
 obtain⟨x,hx,rfl⟩:=List.mem_map.1 hp
 exact(h.ok x hx).2
theorem gq{l:List TB}{v:Int}{t:Tm}(h:bz (aj l) v=some t):∃x∈l,x.var=v/\x.term=t:=by
 obtain⟨x,hx,e⟩:=List.mem_map.1 (fN h)
 injection e with e1 e2
 exact⟨x,hx,e1,e2⟩
theorem j5.Lb {s:aO}{l:List TB}(h:j5 s l){v u:Int}(hu:eL u (Lv (aj l) v)=true):bz (aj l) u=none:=by
 unfold Lv at hu
 cases hl:bz (aj l) v with
 |some x=>
  rw[hl]at hu
  obtain⟨y,hy,e1,e2⟩:=gq hl
  exact h.idem y hy u (e2 ▸ hu)
 |none=>
  rw[hl]at hu
  have:v=u:=by rw[oW]at hu;simpa using hu
  exact this ▸ hl
theorem j5.free {s:aO}{l:List TB}(h:j5 s l){t:Tm}(ht:Vs s t){u:Int}(hu:eL u (aY (aj l) t)=true):bz (aj l) u=none:=by
 obtain⟨w,_,h2⟩:=(En h.bd t ht u).1 hu
 exact h.Lb h2
def mD(l l':List TB):Prop:=∀v,aY (aj l') (Lv (aj l) v)=Lv (aj l') v
theorem mD.sub {s:aO}{l l':List TB}(h:mD l l'){t:Tm}(ht:Vs s t):aY (aj l') (aY (aj l) t)=aY (aj l') t:=sQ t ht fun v _=>h v
theorem mD.refl {s:aO}{l:List TB}(h:j5 s l):mD l l:=fun v=>by
 cases hl:bz (aj l) v with
 |none=>rw[show Lv (aj l) v= .mk 1 v [] by simp[Lv,hl],iC];simp[Lv,hl]
 |some x=>
  have hx:Lv (aj l) v=x:=by simp[Lv,hl]
  obtain⟨y,hy,e1,e2⟩:=gq hl
  rw[hx]
  exact Em (s:=s) x (e2 ▸ (h.ok y hy).2) fun u hu=>h.idem y hy u (e2 ▸ hu)
theorem mD.trans {s:aO}{l l' l'':List TB}(hl:j5 s l)(h:mD l l')(h':mD l' l'')(hr:∀v,bz (aj l) v≠none->0<=v/\v<20):mD l l'':=fun v=>by
 cases hv:bz (aj l) v with
 |none=>rw[show Lv (aj l) v= .mk 1 v [] by simp[Lv,hv],iC]
 |some x=>
  have hx:Lv (aj l) v=x:=by simp[Lv,hv]
  obtain⟨y,hy,e1,e2⟩:=gq hv
  have Gd:Vs s x:=e2 ▸ (hl.ok y hy).2
  rw[hx, <- h'.sub Gd, <- hx,h v,h' v]
theorem j5.C7 {s:aO}{l:List TB}(h:j5 s l){v:Int}(hv:bz (aj l) v≠none):0<=v/\v<20:=by
 cases hl:bz (aj l) v with
 |none=>exact absurd hl hv
 |some x=>obtain⟨y,hy,e1,e2⟩:=gq hl;exact e1 ▸ (h.ok y hy).1
theorem qd{l:List TB}{n:Int}{t:Tm}{x:TB}:x∈nw l n t↔x=⟨n,t⟩\/x∈l:=by
 induction l with
 |nil=>simp[nw]
 |cons y l ih=>
  simp only[nw]
  split
  ·simp only[List.mem_cons,ih]
   constructor
   ·rintro(h|h|h)
    ·exact Or.inr (Or.inl h)
    ·exact Or.inl h
    ·exact Or.inr (Or.inr h)
   ·rintro(h|h|h)
    ·exact Or.inr (Or.inl h)
    ·exact Or.inl h
    ·exact Or.inr (Or.inr h)
  ·simp only[List.mem_cons]
theorem Eo{l:List TB}{n:Int}{t:Tm}(h:l.Pairwise fun x y=>x.var<y.var)(hn:∀x∈l,x.var≠n):(nw l n t).Pairwise fun x y=>x.var<y.var:=by
 induction l with
 |nil=>simp[nw]
 |cons y l ih=>
  rw[List.pairwise_cons]at h
  simp only[nw]
  split
  ·rename_i hy
   rw[List.pairwise_cons]
   refine⟨fun z hz=> ?_,ih h.2 fun x hx=>hn x (by simp[hx])⟩
   rcases qd.1 hz with rfl|hz
   ·exact hy
   ·exact h.1 z hz
  ·rename_i hy
   have:=hn y (by simp)
   rw[List.pairwise_cons,List.pairwise_cons]
   refine⟨fun z hz=> ?_,h⟩
   rcases List.mem_cons.1 hz with rfl|hz
   ·show n<z.var;omega
   ·have:=h.1 z hz;show n<z.var;omega
theorem kQ{l:List TB}{n:Int}(h:bz (aj l) n=none):∀x∈l,x.var≠n:=fun x hx e=>by
 rw[gO]at h
 exact h (List.mem_map.2 ⟨(x.var,x.term),List.mem_map.2 ⟨x,hx,rfl⟩,e⟩)
theorem uQ{s:aO}{l:List TB}(h:j5 s l){n:Int}{t:Tm}(hr:0<=n/\n<20)(hn:bz (aj l) n=none)(ht:Vs s t)(hf:∀u,eL u t=true->bz (aj l) u=none)(VG: ¬eL n t=true):j5 s (gX l n t):=by
 have h1:∀p∈vE n t,Vs s p.2:=fun p hp=>by simp[vE]at hp;subst hp;exact ht
 have IE:∀u,u≠n->bz (aj l) u=none->bz (aj (gX l n t)) u=none:=fun u e hu=>by rw[sR hn,if_neg e,hu];rfl
 refine⟨?_,fun x hx=> ?_,fun x hx u hu=> ?_⟩
 ·refine Eo ?_ ?_
  ·rw[List.pairwise_map];exact h.ID
  ·intro x hx
   obtain⟨y,hy,rfl⟩:=List.mem_map.1 hx
   exact kQ hn y hy
 ·rcases qd.1 hx with rfl|hx
  ·exact⟨hr,ht⟩
  ·obtain⟨y,hy,rfl⟩:=List.mem_map.1 hx
   exact⟨(h.ok y hy).1,Vs.sub h1 _ (h.ok y hy).2⟩
 ·rcases qd.1 hx with rfl|hx
  ·exact IE u (fun e=>VG (e ▸ hu)) (hf u hu)
  ·obtain⟨y,hy,rfl⟩:=List.mem_map.1 hx
   obtain⟨w,hw,Lw⟩:=(En h1 _ (h.ok y hy).2 u).1 hu
   rw[rh]at Lw
   split at Lw
   ·exact IE u (fun e=>VG (e ▸ Lw)) (hf u Lw)
   ·rename_i e
    have:w=u:=by rw[oW]at Lw;simpa using Lw
    subst this
    exact IE w e (h.idem y hy w hw)
theorem uR{s:aO}{l:List TB}(h:j5 s l){n:Int}{t:Tm}(hn:bz (aj l) n=none):mD l (gX l n t):=fun v=>by
 cases hl:bz (aj l) v with
 |none=>rw[show Lv (aj l) v= .mk 1 v [] by simp[Lv,hl],iC]
 |some x=>
  have hx:Lv (aj l) v=x:=by simp[Lv,hl]
  obtain⟨y,hy,e1,e2⟩:=gq hl
  have Zc:v≠n:=fun e=>by rw[e,hn]at hl;cases hl
  rw[jj hn,if_neg Zc,hx]
  refine Br (s:=s) x (e2 ▸ (h.ok y hy).2) fun u hu=> ?_
  have hu2:bz (aj l) u=none:=h.idem y hy u (e2 ▸ hu)
  rw[jj hn,show Lv (aj l) u= .mk 1 u [] by simp[Lv,hu2],iC,rh]
  split<;>rfl
theorem j5.F0 {s:aO}{l:List TB}(h:j5 s l){t:Tm}(ht:Vs s t)(h1:(aY (aj l) t).op=1):(0<=(aY (aj l) t).n/\(aY (aj l) t).n<20)/\bz (aj l) (aY (aj l) t).n=none/\aY (aj l) t= .mk 1 (aY (aj l) t).n []:=by
 have hv:=Vs.sub h.bd t ht
 have hf:eL (aY (aj l) t).n (aY (aj l) t)=true:=(gk h1).2 rfl
 exact⟨hv.range hf,h.free ht hf,hv.eta h1⟩
theorem ny{s:aO}:∀ (f:Nat) (a c:Tm) (l l':List TB),gu f a c l=some (l',true)->j5 s l->Vs s a->Vs s c->j5 s l'/\mD l l'
 |0,_,_,_,_,h,_,_,_=>by cases h
 |f+1,a,c,l,l',h,hl,ha,hc=>by
  have va:=Vs.sub hl.bd a ha
  have vc:=Vs.sub hl.bd c hc
  have fa:=fun u=>hl.free ha (u:=u)
  have fc:=fun u=>hl.free hc (u:=u)
  have na:=hl.F0 ha
  have nc:=hl.F0 hc
  simp only[gu]at h
  generalize aY (aj l) a=a0 at*
  generalize aY (aj l) c=c0 at*
  split at h
  ·injection h with h;injection h with h;subst h;exact⟨hl,mD.refl hl⟩
  ·rename_i hs
   split at h
   ·rename_i h1
    injection h with h;injection h with h;subst h
    obtain⟨r1,u1,e1⟩:=na h1.1
    obtain⟨r2,u2,e2⟩:=nc h1.2
    have gv:a0.n≠c0.n:=fun e=>hs (by rw[iA,e1,e2,e])
    have yU:bz (aj l) (max a0.n c0.n)=none:=by rcases Int.le_total a0.n c0.n with h|h<;>simp[Int.max_def]<;>split<;>assumption
    have Zd:bz (aj l) (min a0.n c0.n)=none:=by rcases Int.le_total a0.n c0.n with h|h<;>simp[Int.min_def]<;>split<;>assumption
    refine⟨uQ hl (by omega) yU (Vs.var (by omega)) (fun u hu=> ?_) (fun hu=> ?_),uR hl yU⟩
    ·have:min a0.n c0.n=u:=by rw[oW]at hu;simpa using hu
     exact this ▸ Zd
    ·have:min a0.n c0.n=max a0.n c0.n:=by rw[oW]at hu;simpa using hu
     omega
   ·split at h
    ·rename_i h1 h2
     injection h with h;injection h with h h3;subst h
     obtain⟨r1,u1,e1⟩:=na h2
     have jZ: ¬eL a0.n c0=true:=fun hh=>by
      have:(ct c0).contains a0.n=true:=List.contains_iff_mem.2 (((cL c0).2 _).2 hh)
      rw[this]at h3;cases h3
     exact⟨uQ hl r1 u1 vc (fun u hu=>fc u hu) jZ,uR hl u1⟩
    ·split at h
     ·rename_i h1 h2 vY
      injection h with h;injection h with h h3;subst h
      obtain⟨r2,u2,e2⟩:=nc vY
      have jZ: ¬eL c0.n a0=true:=fun hh=>by
       have:(ct a0).contains c0.n=true:=List.contains_iff_mem.2 (((cL a0).2 _).2 hh)
       rw[this]at h3;cases h3
      exact⟨uQ hl r2 u2 va (fun u hu=>fa u hu) jZ,uR hl u2⟩
     ·split at h
      ·injection h with h;injection h with _ h;cases h
      ·have key:∀ (ks cl:List Tm) (l:List TB),(∀k∈ks,Vs s k)->(∀k∈cl,Vs s k)->j5 s l->cV (gu f) ks cl l=some (l',true)->j5 s l'/\mD l l':=by
        intro ks
        induction ks with
        |nil=>intro cl l _ _ hl h;simp only[cV]at h;injection h with h;injection h with h;subst h;exact⟨hl,mD.refl hl⟩
        |cons k ks pc=>
         intro cl l h1 h2 hl h
         cases cl with
         |nil=>simp only[cV]at h;injection h with h;injection h with h;subst h;exact⟨hl,mD.refl hl⟩
         |cons k' cl=>
          simp only[cV]at h
          split at h
          ·rename_i l1 e
           obtain⟨g1,g2⟩:=ny f k k' l l1 e hl (h1 k (by simp)) (h2 k' (by simp))
           obtain⟨g3,g4⟩:=pc cl l1 (fun x hx=>h1 x (by simp[hx])) (fun x hx=>h2 x (by simp[hx])) g1 h
           exact⟨g3,g2.trans hl g4 (fun v=>hl.C7)⟩
          ·injection h with h;injection h with _ h;cases h
          ·cases h
       exact key _ _ _ (fun k hk=>va.mC hk) (fun k hk=>vc.mC hk) hl h
end Go.Proofs.YtealblliddhgiaaGreat
namespace Go.Proofs.YtealblliddhgiaaGreat
def kT:Nat->List (Int×Tm)->Tm->Option Tm
 |0,_,_=>none
 |f+1,b,t=>if t.op=1 then(match bz b t.n with|some x=>kT f b x|none=>some t)else some t
def F1(F:Tm->List Int->Option (Bool×List Int)):List Tm->List Int->Option (Bool×List Int)
 |[],met=>some (false,met)
 |k::ks,met=>if k.op=1/\k.n∈met then F1 F ks met else
  match F k (if k.op=1 then oU met k.n else met)with
  |some (true,m)=>some (true,m)
  |some (false,m)=>F1 F ks m
  |none=>none
def BN:Nat->List (Int×Tm)->Int->Tm->List Int->Option (Bool×List Int)
 |0,_,_,_,_=>none
 |f+1,b,n,t,met=>match kT f b t with
  |some x=>if x.op=1 then some (x.n==n,met)else F1 (BN f b n) x.kids met
  |none=>none
def yF(F:Tm->Tm->List (Int×Tm)->Option (List (Int×Tm)×Bool)):List Tm->List Tm->List (Int×Tm)->Option (List (Int×Tm)×Bool)
 |k::ks,k'::cl,b=>match F k k' b with
  |some (b1,true)=>yF F ks cl b1
  |some (b1,false)=>some (b1,false)
  |none=>none
 |_,_,b=>some (b,true)
def qe:Nat->Tm->Tm->List (Int×Tm)->Option (List (Int×Tm)×Bool)
 |0,_,_,_=>none
 |f+1,t,u,b=>match kT f b t,kT f b u with
  |some x,some y=>
   if x.op=1 then
    if y.op=1 then(if x.n=y.n then some (b,true)else some (b++[(max x.n y.n, .mk 1 (min x.n y.n) [])],true))
    else match BN f b x.n y []with
     |some (true,_)=>some (b,false)
     |some (false,_)=>some (b++[(x.n,y)],true)
     |none=>none
   else if y.op=1 then qe f y x b
   else if x.op=y.op/\x.n=y.n/\x.kids.length=y.kids.length then yF (qe f) x.kids y.kids b
   else some (b,false)
  |_,_=>none
theorem dc{b:List (Int×Tm)}:∀ {f g:Nat} {t x:Tm},kT f b t=some x->f<=g->kT g b t=some x
 |0,_,_,_,h,_=>by cases h
 |f+1,0,_,_,_,h=>by omega
 |f+1,g+1,t,x,h,hg=>by
  simp only[kT]at h|-
  split
  ·rename_i h1
   rw[if_pos h1]at h
   cases hl:bz b t.n with
   |none=>rw[hl]at h;exact h
   |some y=>rw[hl]at h;exact dc (f:=f) h (by omega)
  ·rename_i h1
   rw[if_neg h1]at h
   exact h
theorem nz{F G:Tm->List Int->Option (Bool×List Int)}(Bs:∀k m r,F k m=some r->G k m=some r):∀ {ks:List Tm} {met:List Int} {r:Bool×List Int},F1 F ks met=some r->F1 G ks met=some r
 |[],_,_,h=>h
 |k::ks,met,r,h=>by
  simp only[F1]at h|-
  split
  ·rename_i h1;rw[if_pos h1]at h;exact nz Bs h
  ·rename_i h1
   rw[if_neg h1]at h
   split at h
   ·rename_i m e;rw[Bs _ _ _ e];exact h
   ·rename_i m e;rw[Bs _ _ _ e];exact nz Bs h
   ·cases h
theorem jW{b:List (Int×Tm)}{n:Int}:∀ {f g:Nat} {t:Tm} {met:List Int} {r:Bool×List Int},BN f b n t met=some r->f<=g->BN g b n t met=some r
 |0,_,_,_,_,h,_=>by cases h
 |f+1,0,_,_,_,_,h=>by omega
 |f+1,g+1,t,met,r,h,hg=>by
  simp only[BN]at h|-
  split at h
  ·rename_i x e
   rw[dc e (by omega:f<=g)]
   simp only
   split
   ·rename_i h1;rw[if_pos h1]at h;exact h
   ·rename_i h1;rw[if_neg h1]at h;exact nz (fun k m r hk=>jW hk (by omega)) h
  ·cases h
theorem lK{F G:Tm->Tm->List (Int×Tm)->Option (List (Int×Tm)×Bool)}(Bs:∀k k' b r,F k k' b=some r->G k k' b=some r):∀ {ks cl:List Tm} {b:List (Int×Tm)} {r:List (Int×Tm)×Bool},yF F ks cl b=some r->yF G ks cl b=some r
 |[],_,_,_,h=>by simp only[yF]at h|-;exact h
 |_::_,[],_,_,h=>by simp only[yF]at h|-;exact h
 |k::ks,k'::cl,b,r,h=>by
  simp only[yF]at h|-
  split at h
  ·rename_i b1 e;rw[Bs _ _ _ _ e];exact lK Bs h
  ·rename_i b1 e;rw[Bs _ _ _ _ e];exact h
  ·cases h
theorem gR:∀ {f g:Nat} {t u:Tm} {b:List (Int×Tm)} {r:List (Int×Tm)×Bool},qe f t u b=some r->f<=g->qe g t u b=some r
 |0,_,_,_,_,_,h,_=>by cases h
 |f+1,0,_,_,_,_,_,h=>by omega
 |f+1,g+1,t,u,b,r,h,hg=>by
  simp only[qe]at h|-
  split at h
  ·rename_i x y e1 e2
   rw[dc e1 (by omega:f<=g),dc e2 (by omega:f<=g)]
   simp only
   split
   ·rename_i h1
    rw[if_pos h1]at h
    split
    ·rename_i h2;rw[if_pos h2]at h;exact h
    ·rename_i h2
     rw[if_neg h2]at h
     split at h
     ·rename_i m e;rw[jW e (by omega:f<=g)];exact h
     ·rename_i m e;rw[jW e (by omega:f<=g)];exact h
     ·cases h
   ·rename_i h1
    rw[if_neg h1]at h
    split
    ·rename_i h2;rw[if_pos h2]at h;exact gR h (by omega)
    ·rename_i h2
     rw[if_neg h2]at h
     split
     ·rename_i h3;rw[if_pos h3]at h;exact lK (fun k k' b r hk=>gR hk (by omega)) h
     ·rename_i h3;rw[if_neg h3]at h;exact h
  ·cases h
structure vF (s:aO) (b:List (Int×Tm)) (l:List TB) (ρ:Int->Nat) (R:Nat):Prop where
 keys:(b.map (·.1)).Nodup
 C7:∀v,bz b v=none↔bz (aj l) v=none
 ok:∀v x,bz b v=some x->Vs s x/\Lv (aj l) v=aY (aj l) x/\∀u,eL u x=true->ρ u<ρ v
 bd:∀v,ρ v<=R
theorem vF.nil {s:aO}:vF s [] [] (fun _=>0) 0:=⟨List.nodup_nil,fun _=>Iff.rfl,fun _ _ h=>(by cases h),fun _=>Nat.le_refl _⟩
theorem vF.at {s:aO}{b:List (Int×Tm)}{l:List TB}{ρ:Int->Nat}{R:Nat}(h:vF s b l ρ R):∀ (m:Nat) (t:Tm),Vs s t->(t.op=1->ρ t.n<=m)->∃x,kT (m+2) b t=some x/\Vs s x/\aY (aj l) x=aY (aj l) t/\(x.op=1->bz b x.n=none)/\(t.op≠1->x=t)/\(t.op=1->(∀u,eL u x=true->ρ u<=ρ t.n)/\(x.op≠1->∀u,eL u x=true->ρ u<ρ t.n)):=by
 intro m
 induction m with
 |zero=>
  intro t hv hm
  by_cases h1:t.op=1
  ·cases hl:bz b t.n with
   |none=>
    refine⟨t,by simp only[kT,if_pos h1,hl],hv,rfl,fun _=>hl,fun h=>absurd h1 h,fun _=>⟨fun u hu=> ?_,fun h=>absurd h1 h⟩⟩
    rw[(gk h1).1 hu];exact Nat.le_refl _
   |some x=>
    obtain⟨g1,g2,g3⟩:=h.ok _ _ hl
    by_cases hx:x.op=1
    ·have:=g3 x.n ((gk hx).2 rfl)
     have:=hm h1
     omega
    ·refine⟨x,by simp only[kT,if_pos h1,hl,if_neg hx],g1,by rw[<- g2,et hv h1],fun h=>absurd h hx,fun h=>absurd h1 h,fun _=>⟨fun u hu=>Nat.le_of_lt (g3 u hu),fun _=>g3⟩⟩
  ·exact⟨t,by simp only[kT,if_neg h1],hv,rfl,fun h=>absurd h h1,fun _=>rfl,fun h=>absurd h h1⟩
 |succ m ih=>
  intro t hv hm
  by_cases h1:t.op=1
  ·cases hl:bz b t.n with
   |none=>
    refine⟨t,by simp only[kT,if_pos h1,hl],hv,rfl,fun _=>hl,fun h=>absurd h1 h,fun _=>⟨fun u hu=> ?_,fun h=>absurd h1 h⟩⟩
    rw[(gk h1).1 hu];exact Nat.le_refl _
   |some x=>
    obtain⟨g1,g2,g3⟩:=h.ok _ _ hl
    obtain⟨y,i1,i2,i3,i4,i5,i6⟩:=ih x g1 (fun hx=>by have:=g3 x.n ((gk hx).2 rfl);have:=hm h1;omega)
    refine⟨y,by rw[kT,if_pos h1,hl];exact i1,i2,by rw[i3, <- g2,et hv h1],i4,fun h=>absurd h1 h,fun _=> ?_⟩
    by_cases hx:x.op=1
    ·have g4:=g3 x.n ((gk hx).2 rfl)
     exact⟨fun u hu=>by have:=(i6 hx).1 u hu;omega,fun h2 u hu=>by have:=(i6 hx).2 h2 u hu;omega⟩
    ·rw[i5 hx]
     exact⟨fun u hu=>Nat.le_of_lt (g3 u hu),fun _=>g3⟩
  ·exact⟨t,by simp only[kT,if_neg h1],hv,rfl,fun h=>absurd h h1,fun _=>rfl,fun h=>absurd h h1⟩
theorem vF.root {s:aO}{b:List (Int×Tm)}{l:List TB}{ρ:Int->Nat}{R:Nat}(h:vF s b l ρ R){t:Tm}(hv:Vs s t):∃x,kT (R+2) b t=some x/\Vs s x/\aY (aj l) x=aY (aj l) t/\(x.op=1->bz b x.n=none)/\(t.op≠1->x=t)/\(t.op=1->(∀u,eL u x=true->ρ u<=ρ t.n)/\(x.op≠1->∀u,eL u x=true->ρ u<ρ t.n)):=
 h.at R t hv fun _=>h.bd _
def Bt(l:List TB)(ρ:Int->Nat)(n:Int)(r:Nat)(met:List Int):Prop:=∀v∈met,ρ v<r-> ¬eL n (Lv (aj l) v)=true
theorem vF.ins {s:aO}{b:List (Int×Tm)}{l:List TB}{ρ:Int->Nat}{R:Nat}(h:vF s b l ρ R)(hl:j5 s l){n:Int}(hn:bz (aj l) n=none):∀ (z:Nat) (t:Tm) (r:Nat) (met:List Int),Vs s t->(aY (aj l) t).sz<=z->(t.op=1->ρ t.n<=r)->(t.op≠1->∀u,eL u t=true->ρ u<r)->Bt l ρ n r met->
 ∃f is fS,BN f b n t met=some (is,fS)/\(is=true↔eL n (aY (aj l) t)=true)/\(is=false->(∀v∈met,v∈fS)/\(∀v∈fS,v∈met\/ρ v<r)/\Bt l ρ n r fS):=by
 intro z
 induction z with
 |zero=>intro t r met _ hz;have:=Tm.nn (aY (aj l) t);omega
 |succ z ih=>
  intro t r met hv hz Ze tq US
  obtain⟨x,a1,a2,a3,a4,a5,a6⟩:=h.root hv
  have hxr:x.op≠1->∀u,eL u x=true->ρ u<r:=fun hx u hu=>by
   by_cases h1:t.op=1
   ·have:=(a6 h1).2 hx u hu;have:=Ze h1;omega
   ·rw[a5 h1]at hu;exact tq h1 u hu
  by_cases h1:x.op=1
  ·refine⟨R+3,x.n==n,met,by simp only[BN,a1,if_pos h1], ?_,fun _=>⟨fun _ h=>h,fun _ h=>Or.inl h,US⟩⟩
   rw[<- a3,et a2 h1,show Lv (aj l) x.n= .mk 1 x.n [] by simp[Lv,(h.C7 _).1 (a4 h1)],oW]
  ·have UT:=jd (b:=aj l) h1
   have key:∀ (ks:List Tm) (met:List Int),(∀k∈ks,k∈x.kids)->Bt l ρ n r met->
    ∃f is fS,F1 (BN f b n) ks met=some (is,fS)/\(is=true↔∃k∈ks,eL n (aY (aj l) k)=true)/\(is=false->(∀v∈met,v∈fS)/\(∀v∈fS,v∈met\/ρ v<r)/\Bt l ρ n r fS):=by
    intro ks
    induction ks with
    |nil=>intro met _ hm;exact⟨0,false,met,rfl,by simp,fun _=>⟨fun _ h=>h,fun _ h=>Or.inl h,hm⟩⟩
    |cons k ks pc=>
     intro met QV hm
     have hk:=QV k (by simp)
     have vk:=a2.mC hk
     have QW:∀u,eL u k=true->ρ u<r:=fun u hu=>hxr h1 u ((ou a2 h1).2 ⟨k,hk,hu⟩)
     have QX:(aY (aj l) k).sz<=z:=by
      have h3:aY (aj l) k∈(aY (aj l) x).kids:=by rw[UT];exact List.mem_map.2 ⟨k,hk,rfl⟩
      have h4:=Tm.gQ h3
      rw[a3]at h4
      omega
     by_cases xq:k.op=1/\k.n∈met
     ·have vj: ¬eL n (aY (aj l) k)=true:=by
       rw[et vk xq.1]
       exact hm _ xq.2 (QW _ ((gk xq.1).2 rfl))
      obtain⟨f,is,fS,i1,i2,i3⟩:=pc met (fun y hy=>QV y (by simp[hy])) hm
      refine⟨f,is,fS,by simp only[F1,if_pos xq];exact i1, ?_,i3⟩
      rw[i2]
      simp[vj]
     ·have Wo:∃f is fS,BN f b n k (if k.op=1 then oU met k.n else met)=some (is,fS)/\(is=true↔eL n (aY (aj l) k)=true)/\(is=false->(∀v∈met,v∈fS)/\(∀v∈fS,v∈met\/ρ v<r)/\Bt l ρ n r fS):=by
       by_cases Cd:k.op=1
       ·have V3:=QW _ ((gk Cd).2 rfl)
        obtain⟨f,is,fS,i1,i2,i3⟩:=ih k (ρ k.n) (oU met k.n) vk QX (fun _=>Nat.le_refl _) (fun h=>absurd Cd h) (fun v hv bC=>by
         rcases iR.1 hv with hv|rfl
         ·exact hm v hv (by omega)
         ·omega)
        refine⟨f,is,fS,by rw[if_pos Cd];exact i1,i2,fun hf=> ?_⟩
        obtain⟨j1,j2,j3⟩:=i3 hf
        refine⟨fun v hv=>j1 v (iR.2 (Or.inl hv)),fun v hv=> ?_,fun v hv bC=> ?_⟩
        ·rcases j2 v hv with hv|hv
         ·rcases iR.1 hv with hv|rfl
          ·exact Or.inl hv
          ·exact Or.inr V3
         ·exact Or.inr (by omega)
        ·rcases j2 v hv with IA|IA
         ·rcases iR.1 IA with IA|rfl
          ·exact hm v IA bC
          ·intro hh
           have:is=true:=i2.2 (by rw[et vk Cd];exact hh)
           rw[hf]at this;cases this
         ·exact j3 v hv IA
       ·rw[if_neg Cd]
        exact ih k r met vk QX (fun h=>absurd h Cd) (fun _=>QW) hm
      obtain⟨f,is,fS,i1,i2,i3⟩:=Wo
      cases is with
      |true=>
       refine⟨f,true,fS,by simp only[F1,if_neg xq,i1], ?_,fun h=>by cases h⟩
       exact⟨fun _=>⟨k,by simp,i2.1 rfl⟩,fun _=>rfl⟩
      |false=>
       obtain⟨j1,j2,j3⟩:=i3 rfl
       have vj: ¬eL n (aY (aj l) k)=true:=fun h=>by have:=i2.2 h;cases this
       obtain⟨f2,is2,Zf,k1,k2,k3⟩:=pc fS (fun y hy=>QV y (by simp[hy])) j3
       refine⟨max f f2,is2,Zf, ?_, ?_,fun hf=> ?_⟩
       ·simp only[F1,if_neg xq]
        rw[jW i1 (Nat.le_max_left _ _)]
        exact nz (fun k m r hk=>jW hk (Nat.le_max_right _ _)) k1
       ·rw[k2];simp[vj]
       ·obtain⟨m1,m2,m3⟩:=k3 hf
        refine⟨fun v hv=>m1 v (j1 v hv),fun v hv=> ?_,m3⟩
        rcases m2 v hv with hv|hv
        ·exact j2 v hv
        ·exact Or.inr hv
   obtain⟨f,is,fS,i1,i2,i3⟩:=key x.kids met (fun _ h=>h) US
   refine⟨max f (R+2)+1,is,fS, ?_, ?_,i3⟩
   ·simp only[BN]
    rw[dc a1 (Nat.le_max_right _ _)]
    simp only[if_neg h1]
    exact nz (fun k m r hk=>jW hk (Nat.le_max_left _ _)) i1
   ·rw[i2, <- a3]
    have Gd:=Vs.sub hl.bd x a2
    rw[ou Gd (by rw[UT];exact h1)]
    rw[UT]
    simp only[Tm.kids,List.mem_map]
    exact⟨fun⟨k,hk,hh⟩=>⟨_,⟨k,hk,rfl⟩,hh⟩,fun⟨_,⟨k,hk,e⟩,hh⟩=>⟨k,hk,e ▸ hh⟩⟩
end Go.Proofs.YtealblliddhgiaaGreat
namespace Go.Proofs.YtealblliddhgiaaGreat
theorem uS(l:List (Int×Tm))(p:Int×Tm)(v:Int):bz (l++[p]) v=match bz l v with|some x=>some x|none=>if p.1=v then some p.2 else none:=by
 induction l with
 |nil=>simp[bz]
 |cons q l ih=>
  simp only[List.cons_append,bz]
  split
  ·rfl
  ·exact ih
theorem one_sub{s:aO}{l:List TB}{n:Int}{t:Tm}(hn:bz (aj l) n=none){x:Tm}(hx:Vs s x):aY (vE n t) (aY (aj l) x)=aY (aj (gX l n t)) x:=by
 refine sQ x hx fun u _=> ?_
 rw[jj hn]
 split
 ·rename_i e
  rw[e,show Lv (aj l) n= .mk 1 n [] by simp[Lv,hn],iC,rh,if_pos rfl]
 ·rfl
theorem vF.ext {s:aO}{b:List (Int×Tm)}{l:List TB}{ρ:Int->Nat}{R:Nat}(h:vF s b l ρ R)(hl:j5 s l){n:Int}(hn:bz b n=none){y:Tm}(hy:Vs s y)(hny: ¬eL n (aY (aj l) y)=true):
 ∃PF R',vF s (b++[(n,y)]) (gX l n (aY (aj l) y)) PF R':=by
 have u9:=(h.C7 n).1 hn
 refine⟨fun v=>if eL n (Lv (aj l) v)=true then R+1+ρ v else ρ v,2*R+1, ?_,fun v=> ?_,fun v x hx=> ?_,fun v=> ?_⟩
 ·rw[List.map_append,List.map_cons,List.map_nil,List.nodup_append]
  refine⟨h.keys,by simp,fun a ha c hc=> ?_⟩
  simp at hc
  subst hc
  exact fun e=>(gO.1 hn) (e ▸ ha)
 ·rw[uS,sR u9]
  by_cases e:v=n
  ·subst e;simp[hn]
  ·rw[if_neg e]
   cases hv:bz b v with
   |some x=>
    simp only[reduceCtorEq,false_iff]
    intro h2
    cases h3:bz (aj l) v with
    |some y=>rw[h3]at h2;cases h2
    |none=>rw[(h.C7 v).2 h3]at hv;cases hv
   |none=>
    simp[(h.C7 v).1 hv]
    exact fun h=>e h.symm
 ·rw[uS]at hx
  cases hv:bz b v with
  |some z=>
   rw[hv]at hx
   injection hx with hx
   subst hx
   have Zc:v≠n:=fun e=>by rw[e,hn]at hv;cases hv
   obtain⟨g1,g2,g3⟩:=h.ok v z hv
   refine⟨g1,by rw[jj u9,if_neg Zc,g2,one_sub u9 g1],fun u hu=> ?_⟩
   have h3:=g3 u hu
   have h4:eL n (Lv (aj l) u)=true->eL n (Lv (aj l) v)=true:=fun h5=>by rw[g2];exact(En hl.bd z g1 n).2 ⟨u,hu,h5⟩
   by_cases h5:eL n (Lv (aj l) u)=true
   ·rw[if_pos h5,if_pos (h4 h5)];omega
   ·rw[if_neg h5];split<;>omega
  |none=>
   rw[hv]at hx
   simp only at hx
   split at hx
   ·rename_i e
    injection hx with hx
    subst hx;subst e
    refine⟨hy, ?_,fun u hu=> ?_⟩
    ·rw[jj u9,if_pos rfl, <- one_sub u9 hy]
     exact(Em (s:=s) _ (Vs.sub hl.bd y hy) fun v hv=>by
      have: ¬n=v:=fun e=>by subst e;exact hny hv
      simp[vE,bz,this]).symm
    ·have h5: ¬eL n (Lv (aj l) u)=true:=fun h5=>hny ((En hl.bd y hy n).2 ⟨u,hu,h5⟩)
     have h6:eL n (Lv (aj l) n)=true:=by rw[show Lv (aj l) n= .mk 1 n [] by simp[Lv,u9],oW];simp
     have:=h.bd u
     simp only[if_neg h5,if_pos h6]
     omega
   ·cases hx
 ·have:=h.bd v
  split<;>omega
theorem qf{s:aO}{l:List TB}{b:List (Int×Tm)}{ρ:Int->Nat}{R:Nat}(h:vF s b l ρ R){x:Tm}(hx:Vs s x)(hr:x.op=1->bz b x.n=none):(aY (aj l) x).op=x.op/\(aY (aj l) x).n=x.n/\(aY (aj l) x).kids.length=x.kids.length/\(x.op=1->aY (aj l) x=x)/\(x.op≠1->(aY (aj l) x).kids=x.kids.map (aY (aj l))):=by
 by_cases h1:x.op=1
 ·have:aY (aj l) x=x:=by
   rw[et hx h1,show Lv (aj l) x.n= .mk 1 x.n [] by simp[Lv,(h.C7 _).1 (hr h1)]]
   exact(hx.eta h1).symm
  rw[this]
  exact⟨rfl,rfl,rfl,fun _=>rfl,fun h=>absurd h1 h⟩
 ·obtain⟨g1,g2,g3⟩:=UR (b:=aj l) h1
  exact⟨g1,g2,by rw[g3];simp,fun h=>absurd h h1,fun _=>g3⟩
theorem Lc{s:aO}{b:List (Int×Tm)}{l:List TB}{ρ:Int->Nat}{R:Nat}(h:vF s b l ρ R):∀ (z:Nat) (t u:Tm),Vs s t->Vs s u->(aY (aj l) t).sz<=z->aY (aj l) t=aY (aj l) u->∃g,qe g t u b=some (b,true):=by
 intro z
 induction z with
 |zero=>intro t u _ _ hz;have:=Tm.nn (aY (aj l) t);omega
 |succ z ih=>
  intro t u ht hu hz he
  obtain⟨x,a1,a2,a3,a4,_,_⟩:=h.root ht
  obtain⟨y,b1,b2,b3,b4,_,_⟩:=h.root hu
  obtain⟨p1,p2,p3,p4,p5⟩:=qf h a2 a4
  obtain⟨q1,q2,q3,q4,q5⟩:=qf h b2 b4
  have QY:aY (aj l) x=aY (aj l) y:=by rw[a3,b3,he]
  have e1:x.op=y.op:=by rw[<- p1, <- q1,QY]
  have e2:x.n=y.n:=by rw[<- p2, <- q2,QY]
  have e3:x.kids.length=y.kids.length:=by rw[<- p3, <- q3,QY]
  by_cases h1:x.op=1
  ·refine⟨R+3, ?_⟩
   simp only[qe,a1,b1,if_pos h1,if_pos (e1 ▸ h1:y.op=1),if_pos e2]
  ·have h2: ¬y.op=1:=e1 ▸ h1
   have key:∀ (ks cl:List Tm),(∀k∈ks,k∈x.kids)->(∀k∈cl,k∈y.kids)->ks.map (aY (aj l))=cl.map (aY (aj l))->∃g,yF (qe g) ks cl b=some (b,true):=by
    intro ks
    induction ks with
    |nil=>intro cl _ _ _;exact⟨0,rfl⟩
    |cons k ks pc=>
     intro cl m1 m2 hm
     cases cl with
     |nil=>exact⟨0,rfl⟩
     |cons k' cl=>
      rw[List.map_cons,List.map_cons]at hm
      injection hm with xq zA
      have hk:=m1 k (by simp)
      have QX:(aY (aj l) k).sz<=z:=by
       have h3:aY (aj l) k∈(aY (aj l) x).kids:=by rw[p5 h1];exact List.mem_map.2 ⟨k,hk,rfl⟩
       have h4:=Tm.gQ h3
       rw[a3]at h4
       omega
      obtain⟨g,hg⟩:=ih k k' (a2.mC hk) (b2.mC (m2 k' (by simp))) QX xq
      obtain⟨g2,QT⟩:=pc cl (fun y hy=>m1 y (by simp[hy])) (fun y hy=>m2 y (by simp[hy])) zA
      refine⟨max g g2, ?_⟩
      simp only[yF]
      rw[gR hg (Nat.le_max_left _ _)]
      exact lK (fun k k' b r hk=>gR hk (Nat.le_max_right _ _)) QT
   obtain⟨g,hg⟩:=key x.kids y.kids (fun _ h=>h) (fun _ h=>h) (by rw[<- p5 h1, <- q5 h2,QY])
   refine⟨max g (R+2)+1, ?_⟩
   simp only[qe]
   rw[dc a1 (Nat.le_max_right _ _),dc b1 (Nat.le_max_right _ _)]
   simp only[if_neg h1,if_neg h2,if_pos (⟨e1,e2,e3⟩:x.op=y.op/\x.n=y.n/\x.kids.length=y.kids.length)]
   exact lK (fun k k' b r hk=>gR hk (Nat.le_max_left _ _)) hg
theorem MW{s:aO}{b:List (Int×Tm)}{l:List TB}{ρ:Int->Nat}{R:Nat}(h:vF s b l ρ R)(hl:j5 s l){t u x y:Tm}(a1:kT (R+2) b t=some x)(b1:kT (R+2) b u=some y)(a2:Vs s x)(b2:Vs s y)(h1:x.op=1)(h2: ¬y.op=1)(a4:bz b x.n=none):
 ∃g b',qe g t u b=some (b', !(ct (aY (aj l) y)).contains x.n)/\((!(ct (aY (aj l) y)).contains x.n)=true->∃PF R',vF s b' (gX l x.n (aY (aj l) y)) PF R'):=by
 have hc:(ct (aY (aj l) y)).contains x.n=true↔eL x.n (aY (aj l) y)=true:=by rw[List.contains_iff_mem];exact(cL _).2 _
 obtain⟨f,is,fS,i1,i2,i3⟩:=h.ins hl ((h.C7 _).1 a4) _ y (R+1) [] b2 (Nat.le_refl _) (fun h=>absurd h h2) (fun _ u _=>by have:=h.bd u;omega) (fun v hv=>by cases hv)
 have hi:is=(ct (aY (aj l) y)).contains x.n:=by rw[Bool.eq_iff_iff,hc];exact i2
 rw[<- hi]
 have NV:∀r,(match is,fS with|true,_=>some (b,false)|false,_=>some (b++[(x.n,y)],true))=some r->qe (max f (R+2)+1) t u b=some r:=by
  intro r hr
  simp only[qe]
  rw[dc a1 (Nat.le_max_right _ _),dc b1 (Nat.le_max_right _ _)]
  simp only[if_pos h1,if_neg h2]
  rw[jW i1 (Nat.le_max_left _ _)]
  cases is<;>exact hr
 cases is with
 |true=>exact⟨_,b,NV _ rfl,fun h=>by cases h⟩
 |false=>
  refine⟨_,b++[(x.n,y)],NV _ rfl,fun _=>h.ext hl a4 b2 fun hh=> ?_⟩
  have:=i2.2 hh
  cases this
theorem IF{s:aO}:∀ (f:Nat) (a c:Tm) (l:List TB) (r:List TB×Bool),gu f a c l=some r->j5 s l->Vs s a->Vs s c->∀ (t u:Tm) (b:List (Int×Tm)) (ρ:Int->Nat) (R:Nat),vF s b l ρ R->Vs s t->Vs s u->aY (aj l) t=aY (aj l) a->aY (aj l) u=aY (aj l) c->
 ∃g b',qe g t u b=some (b',r.2)/\(r.2=true->∃PF R',vF s b' r.1 PF R')
 |0,_,_,_,_,h,_,_,_,_,_,_,_,_,_,_,_,_,_=>by cases h
 |f+1,a,c,l,r,h,hl,ha,hc,t,u,b,ρ,R,hs,ht,hu,eta,euc=>by
  obtain⟨x,a1,a2,a3,a4,_,_⟩:=hs.root ht
  obtain⟨y,b1,b2,b3,b4,_,_⟩:=hs.root hu
  obtain⟨p1,p2,p3,p4,p5⟩:=qf hs a2 a4
  obtain⟨q1,q2,q3,q4,q5⟩:=qf hs b2 b4
  have ex:aY (aj l) a=aY (aj l) x:=by rw[a3,eta]
  have ey:aY (aj l) c=aY (aj l) y:=by rw[b3,euc]
  simp only[gu,ex,ey,p1,q1,p2,q2,p3,q3]at h
  split at h
  ·rename_i Nj
   injection h with h
   subst h
   rw[iA]at Nj
   obtain⟨g,hg⟩:=Lc hs _ t u ht hu (Nat.le_refl _) (by rw[<- a3, <- b3,Nj])
   exact⟨g,b,hg,fun _=>⟨ρ,R,hs⟩⟩
  ·rename_i gv
   split at h
   ·rename_i Zg
    injection h with h
    subst h
    obtain⟨h1,h2⟩:=Zg
    have QY:x.n≠y.n:=fun e=>gv (by rw[iA,p4 h1,q4 h2,a2.eta h1,b2.eta h2];rw[e])
    have rx:=a2.range ((gk h1).2 rfl)
    have ry:=b2.range ((gk h2).2 rfl)
    refine⟨R+3,b++[(max x.n y.n, .mk 1 (min x.n y.n) [])],by simp only[qe,a1,b1,if_pos h1,if_pos h2,if_neg QY],fun _=> ?_⟩
    have lmx:bz b (max x.n y.n)=none:=by
     rw[Int.max_def];split
     ·exact b4 h2
     ·exact a4 h1
    have lmn:bz b (min x.n y.n)=none:=by
     rw[Int.min_def];split
     ·exact a4 h1
     ·exact b4 h2
    have V4:aY (aj l) (.mk 1 (min x.n y.n) [])= .mk 1 (min x.n y.n) []:=by
     rw[iC];simp[Lv,(hs.C7 _).1 lmn]
    have:=hs.ext hl lmx (Vs.var (s:=s) (v:=min x.n y.n) (by omega)) (by rw[V4,oW];simp;omega)
    rw[V4]at this
    exact this
   ·rename_i Zg
    split at h
    ·rename_i h1
     injection h with h
     subst h
     have h2: ¬y.op=1:=fun h2=>Zg ⟨h1,h2⟩
     exact MW hs hl a1 b1 a2 b2 h1 h2 (a4 h1)
    ·rename_i h1
     split at h
     ·rename_i h2
      injection h with h
      subst h
      have hyy:kT (R+2) b y=some y:=by simp only[kT,if_pos h2,b4 h2]
      have hxx:kT (R+2) b x=some x:=by simp only[kT,if_neg h1]
      obtain⟨g,b',g1,g2⟩:=MW hs hl hyy hxx b2 a2 h2 h1 (b4 h2)
      refine⟨max g (R+2)+1,b', ?_,g2⟩
      simp only[qe]
      rw[dc a1 (Nat.le_max_right _ _),dc b1 (Nat.le_max_right _ _)]
      simp only[if_neg h1,if_pos h2]
      exact gR g1 (Nat.le_max_left _ _)
     ·rename_i h2
      split at h
      ·rename_i h3
       injection h with h
       subst h
       refine⟨R+3,b, ?_,fun h=>by cases h⟩
       simp only[qe,a1,b1,if_neg h1,if_neg h2]
       rw[if_neg]
       rintro⟨g1,g2,g3⟩
       rcases h3 with h3|h3|h3
       ·exact h3 g1
       ·exact h3 g2
       ·exact h3 g3
      ·rename_i h3
       have vY:x.op=y.op/\x.n=y.n/\x.kids.length=y.kids.length:=⟨Classical.byContradiction fun e=>h3 (Or.inl e),Classical.byContradiction fun e=>h3 (Or.inr (Or.inl e)),Classical.byContradiction fun e=>h3 (Or.inr (Or.inr e))⟩
       have key:∀ (xs ys:List Tm) (l1:List TB) (b:List (Int×Tm)) (ρ:Int->Nat) (R:Nat),(∀k∈xs,Vs s k)->(∀k∈ys,Vs s k)->j5 s l1->mD l l1->vF s b l1 ρ R->cV (gu f) (xs.map (aY (aj l))) (ys.map (aY (aj l))) l1=some r->
        ∃g b',yF (qe g) xs ys b=some (b',r.2)/\(r.2=true->∃PF R',vF s b' r.1 PF R'):=by
        intro xs
        induction xs with
        |nil=>intro ys l1 b ρ R _ _ qn _ sc h;simp only[List.map_nil,cV]at h;injection h with h;subst h;exact⟨0,b,rfl,fun _=>⟨ρ,R,sc⟩⟩
        |cons k xs pc=>
         intro ys l1 b ρ R m1 m2 qn he sc h
         cases ys with
         |nil=>simp only[List.map_nil,List.map_cons,cV]at h;injection h with h;subst h;exact⟨0,b,rfl,fun _=>⟨ρ,R,sc⟩⟩
         |cons k' ys=>
          have vk:=m1 k (by simp)
          have Zh:=m2 k' (by simp)
          have vsk:=Vs.sub hl.bd k vk
          have UU:=Vs.sub hl.bd k' Zh
          simp only[List.map_cons,cV]at h
          cases e:gu f (aY (aj l) k) (aY (aj l) k') l1 with
          |none=>rw[e]at h;cases h
          |some r1=>
           obtain⟨g,b',g1,g2⟩:=IF f _ _ l1 r1 e qn vsk UU k k' b ρ R sc vk Zh (he.sub vk).symm (he.sub Zh).symm
           obtain⟨l2,ok⟩:=r1
           rw[e]at h
           cases ok with
           |false=>
            simp only at h
            injection h with h
            subst h
            exact⟨g,b',by simp only[yF,g1],g2⟩
           |true=>
            simp only at h
            obtain⟨ρ2,R2,Gb⟩:=g2 rfl
            obtain⟨o1,o2⟩:=ny f _ _ l1 l2 e qn vsk UU
            obtain⟨g',b2,k1,k2⟩:=pc ys l2 b' ρ2 R2 (fun y hy=>m1 y (by simp[hy])) (fun y hy=>m2 y (by simp[hy])) o1 (he.trans hl o2 fun v=>hl.C7) Gb h
            refine⟨max g g',b2, ?_,k2⟩
            simp only[yF]
            rw[gR g1 (Nat.le_max_left _ _)]
            exact lK (fun k k' b r hk=>gR hk (Nat.le_max_right _ _)) k1
       rw[p5 h1,q5 h2]at h
       obtain⟨g,b',g1,g2⟩:=key x.kids y.kids l b ρ R (fun k hk=>a2.mC hk) (fun k hk=>b2.mC hk) hl (mD.refl hl) hs h
       refine⟨max g (R+2)+1,b', ?_,g2⟩
       simp only[qe]
       rw[dc a1 (Nat.le_max_right _ _),dc b1 (Nat.le_max_right _ _)]
       simp only[if_neg h1,if_neg h2,if_pos vY]
       exact lK (fun k k' b r hk=>gR hk (Nat.le_max_left _ _)) g1
theorem oY{F G:Tm->Tm->List TB->Option (List TB×Bool)}(Bs:∀k k' l r,F k k' l=some r->G k k' l=some r):∀ {ks cl:List Tm} {l:List TB} {r:List TB×Bool},cV F ks cl l=some r->cV G ks cl l=some r
 |[],_,_,_,h=>by simp only[cV]at h|-;exact h
 |_::_,[],_,_,h=>by simp only[cV]at h|-;exact h
 |k::ks,k'::cl,b,r,h=>by
  simp only[cV]at h|-
  split at h
  ·rename_i b1 e;rw[Bs _ _ _ _ e];exact oY Bs h
  ·rename_i b1 e;rw[Bs _ _ _ _ e];exact h
  ·cases h
theorem ri:∀ {f g:Nat} {a c:Tm} {l:List TB} {r:List TB×Bool},gu f a c l=some r->f<=g->gu g a c l=some r
 |0,_,_,_,_,_,h,_=>by cases h
 |f+1,0,_,_,_,_,_,h=>by omega
 |f+1,g+1,a,c,l,r,h,hg=>by
  simp only[gu]at h|-
  repeat' (split at h<;>rename_i hh<;>first|rw[if_pos hh]|rw[if_neg hh])
  all_goals first
   |exact h
   |exact oY (fun k k' l r hk=>ri hk (by omega)) h
theorem Ld(l:List TB)(n:Int)(t:Tm):(nw l n t).length=l.length+1:=by
 induction l with
 |nil=>rfl
 |cons x l ih=>simp only[nw];split<;>simp[ih]
theorem uT(l:List TB)(n:Int)(t:Tm):(gX l n t).length=l.length+1:=by rw[gX,Ld,List.length_map]
theorem Ep:∀ (f:Nat) (a c:Tm) (l l':List TB),gu f a c l=some (l',true)->l'=l\/l.length<l'.length
 |0,_,_,_,_,h=>by cases h
 |f+1,a,c,l,l',h=>by
  simp only[gu]at h
  split at h
  ·injection h with h;injection h with h;exact Or.inl h.symm
  ·split at h
   ·injection h with h;injection h with h;subst h;right;rw[uT];omega
   ·split at h
    ·injection h with h;injection h with h;subst h;right;rw[uT];omega
    ·split at h
     ·injection h with h;injection h with h;subst h;right;rw[uT];omega
     ·split at h
      ·injection h with h;injection h with _ h;cases h
      ·have key:∀ (ks cl:List Tm) (l:List TB),cV (gu f) ks cl l=some (l',true)->l'=l\/l.length<l'.length:=by
        intro ks
        induction ks with
        |nil=>intro cl l h;simp only[cV]at h;injection h with h;injection h with h;exact Or.inl h.symm
        |cons k ks pc=>
         intro cl l h
         cases cl with
         |nil=>simp only[cV]at h;injection h with h;injection h with h;exact Or.inl h.symm
         |cons k' cl=>
          simp only[cV]at h
          split at h
          ·rename_i l1 e
           have h1:=Ep f k k' l l1 e
           have h2:=pc cl l1 h
           rcases h1 with rfl|h1
           ·exact h2
           ·rcases h2 with rfl|h2
            ·exact Or.inr h1
            ·exact Or.inr (by omega)
          ·injection h with h;injection h with _ h;cases h
          ·cases h
       exact key _ _ _ h
theorem j5.len {s:aO}{l:List TB}(h:j5 s l):l.length<=20:=by
 have:=yE (ns:=l.map (·.var)) (fun n hn=>by obtain⟨x,hx,rfl⟩:=List.mem_map.1 hn;exact(h.ok x hx).1) (by rw[Gg,List.pairwise_map];exact h.ID)
 rwa [List.length_map]at this
theorem F2{s:aO}:∀ (N z:Nat) (a c:Tm) (l:List TB),20 - l.length<=N->(aY (aj l) a).sz<=z->j5 s l->Vs s a->Vs s c->∃f r,gu f a c l=some r:=by
 intro N
 induction N using Nat.strongRecOn with
 |ind N ihN=>
 intro z
 induction z with
 |zero=>intro a c l _ hz;have:=Tm.nn (aY (aj l) a);omega
 |succ z ihz=>
  intro a c l hN hz hl ha hc
  have va:=Vs.sub hl.bd a ha
  have vc:=Vs.sub hl.bd c hc
  have key:∀ (ks cl:List Tm) (l1:List TB),(∀k∈ks,k∈(aY (aj l) a).kids)->(∀k∈cl,Vs s k)->j5 s l1->(l1=l\/l.length<l1.length)->∃f r,cV (gu f) ks cl l1=some r:=by
   intro ks
   induction ks with
   |nil=>intro cl l1 _ _ _ _;exact⟨0,_,rfl⟩
   |cons k ks pc=>
    intro cl l1 m1 m2 qn OK
    cases cl with
    |nil=>exact⟨0,_,rfl⟩
    |cons k' cl=>
     have hk:=m1 k (by simp)
     have vk:=va.mC hk
     have EG:∃f r,gu f k k' l1=some r:=by
      rcases OK with rfl|OK
      ·refine ihz k k' l1 hN ?_ qn vk (m2 k' (by simp))
       have:aY (aj l1) k=k:=Em (s:=s) k vk fun v hv=>by
        by_cases h1:(aY (aj l1) a).op=1
        ·rw[va.eta h1]at hk;cases hk
        ·exact hl.free ha ((ou va h1).2 ⟨k,hk,hv⟩)
       rw[this]
       have:=Tm.gQ hk
       omega
      ·have h20:=qn.len
       exact ihN (20 - l1.length) (by omega) _ k k' l1 (Nat.le_refl _) (Nat.le_refl _) qn vk (m2 k' (by simp))
     obtain⟨f,⟨l2,ok⟩,e⟩:=EG
     cases ok with
     |false=>exact⟨f,(l2,false),by simp only[cV,e]⟩
     |true=>
      obtain⟨o1,_⟩:=ny f k k' l1 l2 e qn vk (m2 k' (by simp))
      have hle:=Ep f k k' l1 l2 e
      obtain⟨f2,r2,e2⟩:=pc cl l2 (fun y hy=>m1 y (by simp[hy])) (fun y hy=>m2 y (by simp[hy])) o1 (by
       rcases hle with rfl|h
       ·exact OK
       ·right
        rcases OK with rfl|h2
        ·exact h
        ·omega)
      refine⟨max f f2,r2, ?_⟩
      simp only[cV]
      rw[ri e (Nat.le_max_left _ _)]
      exact oY (fun k k' l r hk=>ri hk (Nat.le_max_right _ _)) e2
  obtain⟨f,r,e⟩:=key (aY (aj l) a).kids (aY (aj l) c).kids l (fun _ h=>h) (fun k hk=>vc.mC hk) hl (Or.inl rfl)
  refine⟨f+1, ?_⟩
  simp only[gu]
  repeat' split
  all_goals first
   |exact⟨_,rfl⟩
   |exact⟨r,e⟩
end Go.Proofs.YtealblliddhgiaaGreat
namespace Go.Proofs.YtealblliddhgiaaGreat
theorem Bu{s:aO}:∀ (f:Nat) (a c:Tm) (l l':List TB),gu f a c l=some (l',true)->j5 s l->Vs s a->Vs s c->aY (aj l') a=aY (aj l') c
 |0,_,_,_,_,h,_,_,_=>by cases h
 |f+1,a,c,l,l',h,hl,ha,hc=>by
  obtain⟨Jg,UW⟩:=ny (f+1) a c l l' h hl ha hc
  rw[<- UW.sub ha, <- UW.sub hc]
  have va:=Vs.sub hl.bd a ha
  have vc:=Vs.sub hl.bd c hc
  have fc:=fun u=>hl.free hc (u:=u)
  have fa:=fun u=>hl.free ha (u:=u)
  have na:=hl.F0 ha
  have nc:=hl.F0 hc
  have lone:∀ (n:Int) (t:Tm),bz (aj l) n=none->Vs s t->(∀u,eL u t=true->bz (aj l) u=none)-> ¬eL n t=true->aY (aj (gX l n t)) t=t:=fun n t hn ht hf jZ=>by
   refine Em t ht fun u hu=> ?_
   rw[sR hn,if_neg (show ¬u=n from fun e=>jZ (by rw[<- e];exact hu)),hf u hu]
   rfl
  simp only[gu]at h
  generalize aY (aj l) a=a0 at*
  generalize aY (aj l) c=c0 at*
  split at h
  ·rename_i hs
   rw[(iA _ _).1 hs]
  ·rename_i hs
   split at h
   ·rename_i h1
    injection h with h;injection h with h;subst h
    obtain⟨r1,u1,e1⟩:=na h1.1
    obtain⟨r2,u2,e2⟩:=nc h1.2
    have gv:a0.n≠c0.n:=fun e=>hs (by rw[iA,e1,e2,e])
    have yU:bz (aj l) (max a0.n c0.n)=none:=by rcases Int.le_total a0.n c0.n with h|h<;>simp[Int.max_def]<;>split<;>assumption
    have Zd:bz (aj l) (min a0.n c0.n)=none:=by rcases Int.le_total a0.n c0.n with h|h<;>simp[Int.min_def]<;>split<;>assumption
    have both:∀v,v=a0.n\/v=c0.n->Lv (aj (gX l (max a0.n c0.n) (.mk 1 (min a0.n c0.n) []))) v= .mk 1 (min a0.n c0.n) []:=fun v hv=>by
     rw[jj yU]
     by_cases e:v=max a0.n c0.n
     ·rw[if_pos e]
     ·rw[if_neg e]
      have e3:v=min a0.n c0.n:=by omega
      have DD:bz (aj l) v=none:=by rw[e3];exact Zd
      rw[show Lv (aj l) v= .mk 1 v [] by simp[Lv,DD],iC,rh,if_neg e,e3]
    rw[et va h1.1,et vc h1.2,both _ (.inl rfl),both _ (.inr rfl)]
   ·split at h
    ·rename_i h1 h2
     injection h with h;injection h with h h3;subst h
     obtain⟨r1,u1,e1⟩:=na h2
     have jZ: ¬eL a0.n c0=true:=fun hh=>by
      have:(ct c0).contains a0.n=true:=List.contains_iff_mem.2 (((cL c0).2 _).2 hh)
      rw[this]at h3;cases h3
     rw[lone _ _ u1 vc (fun u hu=>fc u hu) jZ,et va h2,jj u1,if_pos rfl]
    ·split at h
     ·rename_i h1 h2 vY
      injection h with h;injection h with h h3;subst h
      obtain⟨r2,u2,e2⟩:=nc vY
      have jZ: ¬eL c0.n a0=true:=fun hh=>by
       have:(ct a0).contains c0.n=true:=List.contains_iff_mem.2 (((cL a0).2 _).2 hh)
       rw[this]at h3;cases h3
      rw[lone _ _ u2 va (fun u hu=>fa u hu) jZ,et vc vY,jj u2,if_pos rfl]
     ·split at h
      ·injection h with h;injection h with _ h;cases h
      ·rename_i h1 h2 h3 h4
       have key:∀ (ks cl:List Tm) (l:List TB),(∀k∈ks,Vs s k)->(∀k∈cl,Vs s k)->j5 s l->ks.length=cl.length->cV (gu f) ks cl l=some (l',true)->ks.map (aY (aj l'))=cl.map (aY (aj l'))/\mD l l':=by
        intro ks
        induction ks with
        |nil=>
         intro cl l _ _ hl hlen h
         cases cl with
         |nil=>simp only[cV]at h;injection h with h;injection h with h;subst h;exact⟨rfl,mD.refl hl⟩
         |cons _ _=>cases hlen
        |cons k ks pc=>
         intro cl l h1 h2 hl hlen h
         cases cl with
         |nil=>cases hlen
         |cons k' cl=>
          simp only[cV]at h
          split at h
          ·rename_i l1 e
           have v1:=h1 k (by simp)
           have v2:=h2 k' (by simp)
           obtain⟨g1,g2⟩:=ny f k k' l l1 e hl v1 v2
           have g5:=Bu f k k' l l1 e hl v1 v2
           obtain⟨g3,g4⟩:=pc cl l1 (fun x hx=>h1 x (by simp[hx])) (fun x hx=>h2 x (by simp[hx])) g1 (by simpa using hlen) h
           refine⟨?_,g2.trans hl g4 (fun v=>hl.C7)⟩
           rw[List.map_cons,List.map_cons,g3, <- g4.sub v1, <- g4.sub v2,g5]
          ·injection h with h;injection h with _ h;cases h
          ·cases h
       have e1:a0.op=c0.op:=Classical.byContradiction fun e=>h4 (Or.inl e)
       have e2:a0.n=c0.n:=Classical.byContradiction fun e=>h4 (Or.inr (Or.inl e))
       have e3:a0.kids.length=c0.kids.length:=Classical.byContradiction fun e=>h4 (Or.inr (Or.inr e))
       rw[jd h2,jd h3,e1,e2,(key _ _ _ (fun k hk=>va.mC hk) (fun k hk=>vc.mC hk) hl e3 h).1]
def Er(θ:List (Int×Tm))(l:List TB):Prop:=∀v,0<=v/\v<20->aY θ (Lv (aj l) v)=Lv θ v
theorem Er.nil {θ:List (Int×Tm)}:Er θ []:=fun v _=>by rw[show Lv (aj []) v= .mk 1 v []from rfl,iC]
theorem Er.sub {s:aO}{θ:List (Int×Tm)}{l:List TB}(h:Er θ l){t:Tm}(ht:Vs s t):aY θ (aY (aj l) t)=aY θ t:=sQ t ht fun v hv=>h v (ht.range hv)
theorem Er.PG {s:aO}{θ:List (Int×Tm)}{l:List TB}(h:Er θ l)(hl:j5 s l){n:Int}{t:Tm}(hn:bz (aj l) n=none)(e:Lv θ n=aY θ t):Er θ (gX l n t):=fun v hv=>by
 rw[jj hn]
 by_cases h1:v=n
 ·rw[if_pos h1,h1,e]
 ·rw[if_neg h1, <- h v hv]
  refine sQ (s:=s) _ (Vs.Lv hl.bd hv) fun u _=> ?_
  rw[rh]
  split
  ·rename_i h2;rw[h2,e]
  ·rw[iC]
theorem UX{s:aO}{θ:List (Int×Tm)}{n:Int}:∀t:Tm,Vs s t->eL n t=true->(Lv θ n).sz<=(aY θ t).sz/\(t.op≠1->(Lv θ n).sz<(aY θ t).sz):=by
 refine Tm.eO fun t ih hv hf=> ?_
 by_cases h1:t.op=1
 ·rw[et hv h1,(gk h1).1 hf]
  exact⟨Nat.le_refl _,fun h=>absurd h1 h⟩
 ·obtain⟨k,hk,GD⟩:=(ou hv h1).1 hf
  have h2:=(ih k hk (hv.mC hk) GD).1
  have h3:aY θ k∈(aY θ t).kids:=by rw[jd h1];exact List.mem_map.2 ⟨k,hk,rfl⟩
  have h4:=Tm.gQ h3
  exact⟨by omega,fun _=>by omega⟩
theorem yG{s:aO}{θ:List (Int×Tm)}:∀ (f:Nat) (a c:Tm) (l:List TB) (r:List TB×Bool),gu f a c l=some r->j5 s l->Vs s a->Vs s c->Er θ l->aY θ a=aY θ c->r.2=true/\Er θ r.1
 |0,_,_,_,_,h,_,_,_,_,_=>by cases h
 |f+1,a,c,l,r,h,hl,ha,hc,hg,hs=>by
  have va:=Vs.sub hl.bd a ha
  have vc:=Vs.sub hl.bd c hc
  have na:=hl.F0 ha
  have nc:=hl.F0 hc
  rw[<- hg.sub ha, <- hg.sub hc]at hs
  simp only[gu]at h
  generalize aY (aj l) a=a0 at*
  generalize aY (aj l) c=c0 at*
  have occ:∀ (x y:Tm),Vs s x->Vs s y->x.op=1->y.op≠1->aY θ x=aY θ y-> ¬ (ct y).contains x.n=true:=fun x y hx hy h1 h2 e hc=>by
   have h3:=((cL y).2 _).1 (List.contains_iff_mem.1 hc)
   have h4:=(UX (θ:=θ) y hy h3).2 h2
   rw[et hx h1]at e
   rw[e]at h4
   omega
  split at h
  ·injection h with h;subst h;exact⟨rfl,hg⟩
  ·rename_i Nj
   split at h
   ·rename_i h1
    injection h with h;subst h
    obtain⟨r1,u1,e1⟩:=na h1.1
    obtain⟨r2,u2,e2⟩:=nc h1.2
    have yU:bz (aj l) (max a0.n c0.n)=none:=by rcases Int.le_total a0.n c0.n with h|h<;>simp[Int.max_def]<;>split<;>assumption
    refine⟨rfl,hg.PG hl yU ?_⟩
    rw[et va h1.1,et vc h1.2]at hs
    rw[iC]
    rcases Int.le_total a0.n c0.n with h|h
    ·rw[Int.max_eq_right h,Int.min_eq_left h,hs]
    ·rw[Int.max_eq_left h,Int.min_eq_right h,hs]
   ·split at h
    ·rename_i h1 h2
     injection h with h;subst h
     obtain⟨r1,u1,e1⟩:=na h2
     have vj:=occ a0 c0 va vc h2 (fun e=>h1 ⟨h2,e⟩) hs
     refine⟨by simpa using vj,hg.PG hl u1 ?_⟩
     rw[<- hs,et va h2]
    ·split at h
     ·rename_i h1 h2 h3
      injection h with h;subst h
      obtain⟨r2,u2,e2⟩:=nc h3
      have vj:=occ c0 a0 vc va h3 h2 hs.symm
      refine⟨by simpa using vj,hg.PG hl u2 ?_⟩
      rw[hs,et vc h3]
     ·rename_i h1 h2 h3
      rw[jd h2,jd h3]at hs
      injection hs with q1 q2 q3
      have q4:a0.kids.length=c0.kids.length:=by simpa using congrArg List.length q3
      rw[if_neg (by rintro(h|h|h)<;>contradiction)]at h
      have key:∀ (ks cl:List Tm) (l:List TB),(∀k∈ks,Vs s k)->(∀k∈cl,Vs s k)->j5 s l->Er θ l->ks.map (aY θ)=cl.map (aY θ)->cV (gu f) ks cl l=some r->r.2=true/\Er θ r.1:=by
       intro ks
       induction ks with
       |nil=>intro cl l _ _ hl hg hm h;simp only[cV]at h;injection h with h;subst h;exact⟨rfl,hg⟩
       |cons k ks pc=>
        intro cl l h1 h2 hl hg hm h
        cases cl with
        |nil=>cases hm
        |cons k' cl=>
         rw[List.map_cons,List.map_cons]at hm
         injection hm with m1 m2
         have v1:=h1 k (by simp)
         have v2:=h2 k' (by simp)
         simp only[cV]at h
         split at h
         ·rename_i l1 e
          have g1:=(ny f k k' l l1 e hl v1 v2).1
          have g2:=(yG f k k' l _ e hl v1 v2 hg m1).2
          exact pc cl l1 (fun x hx=>h1 x (by simp[hx])) (fun x hx=>h2 x (by simp[hx])) g1 g2 m2 h
         ·rename_i l1 e
          have:=(yG f k k' l _ e hl v1 v2 hg m1).1
          cases this
         ·cases h
      exact key _ _ _ (fun k hk=>va.mC hk) (fun k hk=>vc.mC hk) hl hg q3 h
end Go.Proofs.YtealblliddhgiaaGreat
