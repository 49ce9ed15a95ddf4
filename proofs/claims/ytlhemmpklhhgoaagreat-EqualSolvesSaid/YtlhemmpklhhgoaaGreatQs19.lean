/-
  A PART OF THE PROOF. Conditions: none.
-/
import Derived.Test.YtlhemmpklhhgoaaGreatQs18
set_option linter.unusedSimpArgs false
set_option linter.unusedVariables false
namespace Go.Proofs.YtlhemmpklhhgoaaGreat
theorem Gw(gone:Nat->Prop)(x:V)(L:List V)(rV:∀id,gone id->12<=id){op n:Int}{ks:List Tm}{k:Nat}{t:Tm}{e:Nat->V}{so:Nat->ad}{m:Nat}(gx:eL so gone 33 3 ((ks.take k).map Tm.d) x)
 (s0:so 0= .row t.row) (s1:so 1= .row [.d (.i 0), .d (.i 0), .aJ]) (s11:so 11= .row [.d (.i op), .d (.i n),x]) (he:gM 12 [⟨x,33,3,(ks.take k).map Tm.d⟩] so gone e L 0):bA 0 ⟨e,so,m⟩ ⟨aX L,az (Eu op n ks k) 0 (.row t.row),12+1⟩:=by
 refine bA.ou gone x 12 L af (fun j hj=> ?_) (by rw[ae _ _ _ _ (by omega)];exact fuH_12 op n ks k) gx (fun j hj=>by rw[ae _ _ _ _ (by omega)];exact z8 _ _ _ _ af af af) (fun j h1 h2=>absurd (rV j h1) af) he
 by_cases e0:j=0
 ·subst e0
  rw[ab]
  exact a7 s0 (fun r hr=>by simp[ad.refs,V.aQ,V.refs]at hr)
 rw[ae _ _ _ _ e0]
 by_cases e1:j=1
 ·subst e1
  rw[fuH_1]
  exact ON
 ·by_cases e2:j=11
  ·subst e2
   rw[fuH_11]
   exact OV
  ·rw[z8 _ _ _ _ e1 e2 (by omega)]
   exact kx
theorem sB{l:List TB}(hl:l.length<=1000)(nL:∀p∈ai l,p.2.fits):∀ (f:Nat) (t y:Tm) (d:Nat),t.fits->d<=1000->Gi f (ai l) t d=some y->y.sz<=1000000->
 a8 Tryz.prog 93 [.sl (l.map TB.d),t.d, .i d] (.ret [y.d, .bool true])
 |0,_,_,_,_,_,h,_=>by cases h
 |f+1,t,y,d,ht,hd,h,hz=>by
  simp only[Gi]at h
  have Vg:=(Tm.bK t).1 ht
  refine a8.aI mix aed aF ?_
  rw[c93]
  by_cases h1:t.op=1
  ·have eg:(t.op==1)=true:=by simpa using h1
   rw[if_pos h1]at h
   refine pP eg ?_
   refine aw (qS l t.n af) rfl ?_
   rcases uh l t.n with⟨g1,g2⟩|⟨k,z,g1,g2,g3⟩
   ·have LF:decide (findF l t.n<0)=true:=by simp;omega
    rw[g2]at h
    cases h
    exact Db LF
   ·have LF:decide (((k:Nat):Int)<0)=false:=aF
    rw[g3]at h
    cases d with
    |zero=>cases h
    |succ d=>
     have M0:(((d+1:Nat):Int)==0)=false:=by rw[beq_eq_false_iff_ne];omega
     refine Ax g1 LF g2 M0 ?_
     rw[show(((d+1:Nat):Int) - 1)=((d:Nat):Int) by omega]
     refine bD (sB hl nL f z.term y d (nL _ (iV (List.mem_of_getElem? g2))) af h hz) ?_
     exact pK
  ·have eg:(t.op==1)=false:=by simpa using h1
   rw[if_neg h1]at h
   cases hL:Et (fun k=>Gi f (ai l) k d) t.kids with
   |none=>rw[hL]at h;cases h
   |some ks=>
   rw[hL]at h
   cases h
   obtain⟨C5,GS⟩:=z7 hL
   have dK:oB ks+1<=1000000:=by rw[Tm.iH]at hz;simp only[Tm.kids]at hz;omega
   have hle:=mc ks
   refine pP eg ?_
   refine aB (fun i:Nat=>⟨aX [.d (.sl (l.map TB.d)), .aa, .d (.i d), .aa, .ptr 0 0, .aa, .ptr 1 0, .aa, .aa, .ptr 11 0, .d (.i i)],az (Eu t.op t.n ks i) 0 (.row t.row),12+1⟩)
    (fun i=>i<=t.kids.length) (fun i=>t.kids.length - i) 0 (Nat.zero_le _) (Gw (fun _=>False) .aJ _ (fun _ h=>h.elim) (.inl ⟨rfl,rfl,bV⟩) c6 c6 c6 ?_) (fun k hk=> ?_)
   ·exact mE
   replace hk:k<=t.kids.length:=hk
   have q0:az (Eu t.op t.n ks k) 0 (.row t.row) 0= .row t.row:=ab _ _ _
   have q1:az (Eu t.op t.n ks k) 0 (.row t.row) 1= .row [.d (.i 0), .d (.i 0), .aJ]:=rfl
   have Oc:az (Eu t.op t.n ks k) 0 (.row t.row) 11= .row [.d (.i t.op), .d (.i t.n), .osl 12 0]:=rfl
   have Od:az (Eu t.op t.n ks k) 0 (.row t.row) 12= .arr 0 33 3 ((ks.take k).map Tm.d):=rfl
   refine Ax q0 q1 Oc Od ?_
   refine ak (fun h2=> ?_) (fun h2=> ?_)
   ·replace h2:k<t.kids.length:=by simp at h2;omega
    obtain⟨z,Vo⟩:=ay h2
    obtain⟨z',MM,hF⟩:=GS k z Vo
    have Ie:=List.mem_of_getElem? Vo
    have q8:ks.take (k+1)=ks.take k++[z']:=by rw[List.take_add_one,MM];rfl
    have e0:(ks.take k).length=k:=by rw[List.length_take];omega
    have hzs:z'.sz<=1000000:=by have:=Gn (List.mem_of_getElem? MM);omega
    have fL:k<=140737488355327/\(k+1)*24<=140737488355328:=af
    refine Da q0 q1 Oc Od Vo ?_
    refine bD (sB hl nL f z z' d (Vg.2 z Ie) hd hF hzs) ?_
    simp+contextual (disch:=first|omega|simp only[go_sem,false_implies]) only[go_sem,wrap64,if_pos,q0,q1,Oc,Od,Vo,List.length_map,e0,if_pos fL]
    refine aj (k+1) h2 af (Gw (fun j=>12<=j) (.osl 12 1) _ (fun _ h=>h) (.inr ⟨12,1,Nat.le_refl _,rfl,by(repeat(first|rfl|rw[ab]|rw[ae _ _ _ _ (by omega)]));rw[q8,List.map_append];rfl⟩) c6 XW c6 ?_)
    exact mE
   ·replace h2:k=t.kids.length:=by simp at h2;omega
    subst h2
    have Ve:az (Eu t.op t.n ks t.kids.length) 0 (.row t.row) 12= .arr 0 33 3 (ks.map Tm.d):=by rw[Od, <- C5,List.take_length]
    simp+contextual (disch:=first|omega|simp only[go_sem,false_implies]) only[go_sem,wrap64,if_pos,q0,q1,Oc,Ve]
    rw[Tm.DY]
theorem yu{l:List TB}(hl:l.length<=1000)(nL:∀p∈ai l,p.2.fits){t y:Tm}{f:Nat}(ht:t.fits)(h:Gi f (ai l) t (ai l).length=some y)(hz:y.sz<=1000000):a8 Tryz.prog 42 [.sl (l.map TB.d),t.d] (.ret [y.d]):=by
 have e:(ai l).length=l.length:=by unfold ai;rw[List.length_map]
 rw[e]at h
 refine a8.aI mix adP aF ?_
 rw[c42]
 refine sG ?_
 refine bD (sB hl nL f t y l.length ht hl h hz) ?_
 exact pK
theorem CN{l:List TB}(hl:l.length<=1000)(nL:∀p∈ai l,p.2.fits){n:Nt}{x y:Tm}{f g:Nat}(ha:n.a.fits)(hb:n.b.fits)(hx:Gi f (ai l) n.a (ai l).length=some x)(hy:Gi g (ai l) n.b (ai l).length=some y)(zx:x.sz<=1000000)(zy:y.sz<=1000000):
 a8 Tryz.prog 71 [.sl (l.map TB.d),n.d] (.ret [.bool (fX x y)]):=by
 refine a8.aI mix ad4 aF ?_
 rw[c71]
 refine bW ?_
 refine aU (yu hl nL ha hx zx) ?_
 refine bW ?_
 refine aU (yu hl nL hb hy zy) ?_
 refine bW ?_
 refine aZ (r8 x (Tm.iu _ zx) y (Tm.iu _ zy)) rfl ?_
 exact MA
end Go.Proofs.YtlhemmpklhhgoaaGreat
set_option maxHeartbeats 4000000
namespace Go.Proofs.YtlhemmpklhhgoaaGreat
theorem uq{s:aD}{t:Tm}(h:jc s t=true):t.gu:=Tm.LB _ (by have:=(dF h).2.1;omega)
theorem rj.len {s:aD}{l:List TB}(h:rj s (ai l)):l.length<=20:=by
 have:=Ib h.keys fun v hv=>by
  obtain⟨p,hp,rfl⟩:=List.mem_map.1 hv
  exact(h.ok p hp).1
 rw[List.length_map]at this
 unfold ai at this
 rwa [List.length_map]at this
end Go.Proofs.YtlhemmpklhhgoaaGreat
set_option maxHeartbeats 4000000
namespace Go.Proofs.YtlhemmpklhhgoaaGreat
theorem Vp{b:List (Int×Tm)}{f:Nat}{t x:Tm}(h:mj f b t=some x){o:Nat->ad}{id:Nat}(ho:o id=dt b):CtO Tryz.prog 112 [.mp id, .d t.d] o (.d x.d):=by
 intro nx hg K X hK
 have b8:id<nx:=hg.lt (by rw[ho];exact ad.noConfusion)
 have y1:id≠nx:=af
 have y2:∀k,id≠nx+k:=fun k=>af
 refine cI.aI mix KG aF ?_
 rw[NJ]
 refine RS ho y1 y2 ?_
 refine aB (fun i:Nat×Tm=>⟨aX [.mp id, .aa, .aa, .ptr nx 0, .ptr (nx+1) 0],az (az o nx (.row i.2.row)) (nx+1) (.row [.d (.i 0), .d (.i 0), .aJ]),nx+2⟩)
  (fun i=>mj i.1 b i.2=some x) (fun i=>i.1) (f,t) h ?_ ?_
 ·exact Yi
 rintro⟨f,t⟩ hf
 simp only at hf
 cases f with
 |zero=>cases hf
 |succ f=>
 simp only[mj]at hf
 by_cases h1:t.op=1
 ·have eg:(t.op==1)=true:=by simpa using h1
  rw[if_pos h1]at hf
  cases hl:bN b t.n with
  |none=>
   rw[hl]at hf
   injection hf with hf
   subst hf
   simp+contextual (disch:=first|omega|simp only[go_sem,false_implies]) only[go_sem,wrap64,if_pos,eg,ho,y1,y2,Nat.add_assoc,Nat.left_eq_add,Nat.add_eq_left,Nat.add_left_cancel_iff,dn hl]
   exact hK _ _ af dI (fun j hj=>by(repeat(first|rfl|rw[ab]|rw[ae _ _ _ _ (by omega)])))
  |some z=>
   rw[hl]at hf
   obtain⟨j,hj⟩:=fw hl
   simp+contextual (disch:=first|omega|simp only[go_sem,false_implies]) only[go_sem,wrap64,if_pos,eg,ho,y1,y2,Nat.add_assoc,Nat.left_eq_add,Nat.add_eq_left,Nat.add_left_cancel_iff,hj]
   refine aj (f,z) hf kC (bA.bJ _ af af dI (fun j hj=> ?_) ?_)
   ·have PE:j<nx+2:=hj
    by_cases e1:j=nx
    ·subst e1;(repeat(first|rfl|rw[ab]|rw[ae _ _ _ _ (by omega)]))
    ·by_cases e2:j=nx+1
     ·exact R1
     ·exact c6
   ·exact dp
 ·have eg:(t.op==1)=false:=by simpa using h1
  rw[if_neg h1]at hf
  injection hf with hf
  subst hf
  refine C9 eg ho y1 y2 ?_
  exact hK _ _ af dI (fun j hj=>by(repeat(first|rfl|rw[ab]|rw[ae _ _ _ _ (by omega)])))
theorem CO{P:Program}{g:FuncId}{K:KD}{X:XD}{o:Nat->ad}{nx fr:Nat}{all:List V}{ds:List D}{rd0 rd:List Nat}{rs:List D}{Δ:List (Nat×ad)}(mG:rd.all (fun id=>decide (id<nx))=true)(h:Aq P g all rd o (.ret rs) Δ)(hk:K (iP rs) Δ rd):pt P g K X o nx fr rd0 ds all:=by
 unfold pt
 exact .inr (BQ mG h hk)
theorem LG{b:List (Int×Tm)}{t x:Tm}(h:gP b t=some x){o:Nat->ad}{id:Nat}(ho:o id=dt b):Aq Tryz.prog 112 [.mp id, .d t.d] [id] o (.ret [x.d]) []:=by
 obtain⟨f,hf⟩:=CJ h
 refine Aq.Tt (id+1) aF xg (fun i hi j hj=> ?_) (Vp hf (by simp[DJ,ho]))
 simp at hi
 subst hi
 rw[ho]at hj
 simp[ad.refs]at hj
structure EqH (o:Nat->ad) (x m l:Nat) (ep:Nat) (lim:Bool) (b:List (Int×Tm)) (L:List TB):Prop where
 row:o x= .row [.mp m, .osl l ep, .d (.bool lim)]
 map:o m=dt b
 WH:o l= .arr ep 59 4 (L.map TB.d)
theorem EF{s:aD}{lim:Bool}{b:List (Int×Tm)}{L:List TB}{n:Int}{y:Tm}(hb:rj s b)(hn:bN b n=none)(hr:0<=n/\n<20)(hy:QT s y)(hL:L.length<=1000){x m l:Nat}(o:Nat->ad)(nx:Nat)(hg:Good o nx)(he:EqH o x m l 0 lim b L)(K X:V->(Nat->ad)->Nat->Prop)
 (aW:(iq lim b n y)=(0,b++[(n,y)])->∀o' nx',nx<=nx'->Good o' nx'->EqH o' x m l 1 lim (b++[(n,y)]) (L++[⟨n,y⟩])->(∀j,j<nx->j≠x->j≠m->j≠l->o' j=o j)->K (.bT []) o' nx')
 (pL:(iq lim b n y).1=5->∀o' nx',nx<=nx'->Good o' nx'->(∀j,j<nx->j≠x->j≠m->j≠l->o' j=o j)->X (.d (.iface 162 (.agg []))) o' nx')
 (A5:(iq lim b n y).1=3->∀o' nx',nx<=nx'->Good o' nx'->(∀j,j<nx->j≠x->j≠m->j≠l->o' j=o j)->X (.d (.iface 163 (.agg []))) o' nx'):
 cI Tryz.prog 132 [.ptr x 0, .d (.i n), .d y.d] o nx K X:=by
 obtain⟨hx,hm,hl⟩:=he
 have lx:x<nx:=hg.lt Ji
 have lm:m<nx:=hg.lt EU
 have ll:l<nx:=hg.lt (by rw[hl];exact ad.noConfusion)
 have WY:x≠m:=fun e=>by subst e;rw[hx]at hm;cases hm
 have WZ:x≠l:=fun e=>by subst e;rw[hx]at hl;cases hl
 have W0:m≠l:=fun e=>by subst e;rw[hm]at hl;cases hl
 have y1:x≠nx:=af
 have y2:∀k,x≠nx+k:=fun k=>af
 have y3:m≠nx:=af
 have y4:∀k,m≠nx+k:=fun k=>af
 have y5:l≠nx:=af
 have y6:∀k,l≠nx+k:=fun k=>af
 have E6:∀p∈b,Vs s p.2:=fun p hp=>(hb.ok p hp).2.vs
 have nL:∀p∈b,p.2.fits:=fun p hp=>(hb.ok p hp).2.fits
 refine cI.aI mix QL aF ?_
 rw[Ud]
 obtain⟨is,Ex⟩:∃is:Bool,is=true↔nK b n y:=by
  classical
  exact⟨decide (nK b n y),aF⟩
 refine RQ hx hm hl y1 y2 y3 y4 y5 y6 ?_
 refine aZ (Gp E6 nL n y hy.vs hy.fits Ex) rfl ?_
 refine RQ hx hm hl y1 y2 y3 y4 y5 y6 ?_
 refine aN (bc rfl) ?_
 cases is with
 |true=>
  refine RQ hx hm hl y1 y2 y3 y4 y5 y6 ?_
  have mA:iq lim b n y=(5,b):=by unfold iq;rw[if_pos (Ex.1 rfl)]
  exact pL (by rw[mA]) _ _ af dI (fun j h1 h2 h3 h4=>by(repeat(first|rfl|rw[ab]|rw[ae _ _ _ _ (by omega)])))
 |false=>
  have WX: ¬nK b n y:=fun h=>Bool.false_ne_true (Ex.2 h)
  have Dk:=CK hb hn hr hy WX
  have e0:L.length<=140737488355327/\(L.length+1)*48<=140737488355328:=af
  simp+contextual (disch:=first|omega|simp only[go_sem,false_implies]) only[go_sem,wrap64,if_pos,hx,hm,hl,y1,y2,y3,y4,y5,y6,Nat.add_assoc,Nat.left_eq_add,Nat.add_eq_left,Nat.add_left_cancel_iff,dn hn]
  refine aN (eM (ids:=[x,nx,m]) (nx:=nx+15) oY oY [([],[]),([0],[]),([0],[]),([0],[]),([],[]),([1],[]),([2],[2])] bV) ?_
  rw[vZ hn]
  simp+contextual (disch:=first|omega|simp only[go_sem,false_implies]) only[go_sem,wrap64,if_pos,hx,hm,hl,y1,y2,y3,y4,y5,y6,WY,WZ,W0,WY.symm,WZ.symm,W0.symm,Nat.add_assoc,Nat.left_eq_add,Nat.add_eq_left,Nat.add_left_cancel_iff,List.length_map,e0]
  refine aN (eM (ids:=[x,nx,nx+23,l]) (nx:=nx+28) oY oY [([],[]),([],[]),([0],[]),([0],[]),([0],[]),([],[]),([1],[]),([],[]),([],[2]),([3,2],[3]),([0],[]),([0],[]),([0,3],[0])] bV) ?_
  cases lim with
  |false=>
   simp+contextual (disch:=first|omega|simp only[go_sem,false_implies]) only[go_sem,wrap64,if_pos,hx,hm,hl,y1,y2,y3,y4,y5,y6,WY,WZ,W0,WY.symm,WZ.symm,W0.symm,Nat.add_assoc,Nat.left_eq_add,Nat.add_eq_left,Nat.add_left_cancel_iff]
   exact aW (by unfold iq;rw[if_neg WX,if_neg (by simp)]) _ _ af dI ⟨by(repeat(first|rfl|rw[ab]|rw[ae _ _ _ _ (by omega)])),by(repeat(first|rfl|rw[ab]|rw[ae _ _ _ _ (by omega)])),by(repeat(first|rfl|rw[ab]|rw[ae _ _ _ _ (by omega)]));rw[List.map_append];rfl⟩ (fun j h1 h2 h3 h4=>by(repeat(first|rfl|rw[ab]|rw[ae _ _ _ _ (by omega)])))
  |true=>
   obtain⟨fo,Au⟩:∃fo:Bool,fo=true↔∀p∈b++[(n,y)],CE (b++[(n,y)]) p.2:=by
    classical
    exact⟨decide (∀p∈b++[(n,y)],CE (b++[(n,y)]) p.2),aF⟩
   obtain⟨l',H9,R',LH,IA⟩:=Dk.sim
   simp+contextual (disch:=first|omega|simp only[go_sem,false_implies]) only[go_sem,wrap64,if_pos,hx,hm,hl,y1,y2,y3,y4,y5,y6,WY,WZ,W0,WY.symm,WZ.symm,W0.symm,Nat.add_assoc,Nat.left_eq_add,Nat.add_eq_left,Nat.add_left_cancel_iff]
   refine aw (yr (b:=b++[(n,y)]) (fun p hp=>(Dk.ok p hp).2.fits) (fun p hp=>by obtain⟨r,hr⟩:=Jm LH 12 p.2 40 (Dk.ok p hp).2.vs;exact⟨_,r,hr⟩) Au) rfl ?_
   cases fo with
   |true=>
    refine kR ?_
    exact aW (by unfold iq;rw[if_neg WX,if_neg (fun h=>h.2 (Au.1 rfl))]) _ _ af dI ⟨by(repeat(first|rfl|rw[ab]|rw[ae _ _ _ _ (by omega)])),by(repeat(first|rfl|rw[ab]|rw[ae _ _ _ _ (by omega)])),by(repeat(first|rfl|rw[ab]|rw[ae _ _ _ _ (by omega)]));rw[List.map_append];rfl⟩ (fun j h1 h2 h3 h4=>by(repeat(first|rfl|rw[ab]|rw[ae _ _ _ _ (by omega)])))
   |false=>
    refine kR ?_
    exact A5 (by unfold iq;rw[if_neg WX,if_pos ⟨rfl,fun h=>Bool.false_ne_true (Au.2 h)⟩]) _ _ af dI (fun j h1 h2 h3 h4=>by(repeat(first|rfl|rw[ab]|rw[ae _ _ _ _ (by omega)])))
end Go.Proofs.YtlhemmpklhhgoaaGreat
set_option maxHeartbeats 4000000
namespace Go.Proofs.YtlhemmpklhhgoaaGreat
@[reducible] def qT (p:Tm×Tm):D:= .agg [.i p.1.op, .i p.1.n, .sl (p.1.kids.map Tm.d), .i p.2.op, .i p.2.n, .sl (p.2.kids.map Tm.d)]
def qZ(o:Nat->ad)(nx x m:Nat)(lim:Bool)(a c:Tm)(b:List (Int×Tm))(L:List TB)(st:List D):Nat->ad:=
 az (az (az (az (az (az o nx (.row a.row)) (nx+1) (.row c.row)) x (.row [.mp m, .osl (nx+7) 0, .d (.bool lim)])) m (dt b)) (nx+7) (.arr 0 59 4 (L.map TB.d))) (nx+8) (.arr 0 106 6 st)
section
variable {o:Nat->ad}{nx x m:Nat}{lim:Bool}{a c:Tm}{b:List (Int×Tm)}{L:List TB}{st:List D}(lx:x<nx)(lm:m<nx)(bY:x≠m)
include lx lm bY
theorem eqS_0:qZ o nx x m lim a c b L st nx= .row a.row:=GL
theorem eqS_1:qZ o nx x m lim a c b L st (nx+1)= .row c.row:=GL
theorem LI:qZ o nx x m lim a c b L st x= .row [.mp m, .osl (nx+7) 0, .d (.bool lim)]:=GL
theorem LJ:qZ o nx x m lim a c b L st m=dt b:=GL
theorem eqS_7:qZ o nx x m lim a c b L st (nx+7)= .arr 0 59 4 (L.map TB.d):=GL
theorem eqS_8:qZ o nx x m lim a c b L st (nx+8)= .arr 0 106 6 st:=GL
omit lx lm bY in
theorem rl{j:Nat}(h0:j≠nx)(h1:j≠nx+1)(h2:j≠x)(h3:j≠m)(h7:j≠nx+7)(h8:j≠nx+8):qZ o nx x m lim a c b L st j=o j:=by unfold qZ;(repeat(first|rfl|rw[ab]|rw[ae _ _ _ _ (by omega)]))
omit lx lm bY in
theorem Sc{b':List (Int×Tm)}{L':List TB}{st':List D}{j:Nat}(h1:j<nx+7)(h2:j≠x)(h3:j≠m):qZ o nx x m lim a c b L st j=qZ o nx x m lim a c b' L' st' j:=by
 have e:∀b L st,qZ o nx x m lim a c b L st j=az (az o nx (.row a.row)) (nx+1) (.row c.row) j:=fun b L st=>by
  unfold qZ
  rw[ae _ _ _ _ (by omega),ae _ _ _ _ (by omega),ae _ _ _ _ h3,ae _ _ _ _ h2]
 rw[e,e]
omit lx lm bY in
theorem Vq{st':List D}{j:Nat}(h:j≠nx+8):qZ o nx x m lim a c b L st j=qZ o nx x m lim a c b L st' j:=by
 unfold qZ
 rw[ae _ _ _ _ h,ae _ _ _ _ h]
theorem jm(hg:Good o nx):Good (qZ o nx x m lim a c b L st) (nx+9):=by
 have _:=bY
 unfold qZ
 refine Good.az (Good.az (Good.az (Good.az (Good.az (Good.az (hg.mono af) af rfl) af rfl) af ?_) af rfl) af rfl) af rfl
 simp[ad.refs,V.aQ,V.refs]
 omega
theorem oj(gone:Nat->Prop)(xl xs:V)(l:List V)(hg:Good o nx)(rV:∀id,gone id->nx+7<=id\/(o id= .no/\id≠nx/\id≠nx+1/\id≠x/\id≠m)){e:Nat->V}{so:Nat->ad}{k:Nat}
 (gl:eL so gone 59 4 (L.map TB.d) xl) (gs:eL so gone 106 6 st xs) (fG:∀id ep e7,xl= .osl id ep->xs= .osl id e7->False) (sx:so x= .row [.mp m,xl, .d (.bool lim)]) (sm:so m=dt b)
 (h:∀j,j<nx+7->j≠x->j≠m->qZ o nx x m lim a c b L st j= .no\/so j=qZ o nx x m lim a c b L st j)
 (he:gM (nx+7) [⟨xl,59,4,L.map TB.d⟩,⟨xs,106,6,st⟩] so gone e l 0):bA nx ⟨e,so,k⟩ ⟨aX l,qZ o nx x m lim a c b L st,nx+9⟩:=by
 have hG:=jm (lim:=lim) (a:=a) (c:=c) (b:=b) (L:=L) (st:=st) lx lm bY hg
 refine bA.see gone _ (nx+7) l rfl af (fun j hj=> ?_) (fun i g h=> ?_) (fun j hj=>hG.fresh j hj) (fun j h1 h2=> ?_) (fun i j gi gj id ep e7 h h' e1 e2=> ?_) he
 ·by_cases e1:j=x
  ·subst e1
   rw[LI lx lm bY]
   exact XL
  ·by_cases e2:j=m
   ·subst e2
    rw[LJ lx lm bY]
    exact a7 sm (fun r hr=>by simp[ad.refs]at hr)
   ·rcases h j hj e1 e2 with h|h
    ·rw[h];exact kx
    ·refine a7 h fun r hr=> ?_
     by_cases e3:j=nx
     ·subst e3;rw[eqS_0 lx lm bY]at hr;simp[ad.refs,V.aQ,V.refs]at hr
     ·by_cases e4:j=nx+1
      ·subst e4;rw[eqS_1 lx lm bY]at hr;simp[ad.refs,V.aQ,V.refs]at hr
      ·rw[rl e3 e4 e1 e2 (by omega) (by omega)]at hr
       have:=hg.refs j r hr
       omega
 ·match i,h with
  |0,h=>simp at h;subst h;exact⟨eqS_7 lx lm bY,gl⟩
  |1,h=>simp at h;subst h;exact⟨eqS_8 lx lm bY,gs⟩
 ·rcases rV j h1 with h|⟨g1,g2,g3,g4,g5⟩
  ·omega
  ·rw[rl g2 g3 g4 g5 (by omega) (by omega)];exact g1
 ·match i,j,h,h' with
  |0,0,_,_=>rfl
  |1,1,_,_=>rfl
  |0,1,h,h'=>simp at h h';subst h;subst h';exact(fG _ _ _ e1 e2).elim
  |1,0,h,h'=>simp at h h';subst h;subst h';exact(fG _ _ _ e2 e1).elim
end
theorem kz(o:Nat->ad)(mL:Bool)(a b:Int):yF Tryz.prog o 164 mL (.d (.agg [.i a, .i b])) (.d (.agg [.i 1, .i 1]))=some (.d (.bool (a==1&&b==1))):=by
 have h1:bH Tryz.prog 164=some (.arr 2 30):=ah
 have h3:bH Tryz.prog 30=some .int:=ah
 have h5:cT Tryz.prog 30=some false:=ah
 have h6:oH Tryz.prog 100 164 (.agg [.i a, .i b]) (.agg [.i 1, .i 1])=some (a==1&&b==1):=by
  have h7:Tryz.prog.cellsOf 30=1:=ah
  simp[oH,h1,h3,h5,h7,AO,MC,iC,Di]
 obtain⟨n,e,h⟩:∃n e,Tryz.prog.underlying 164=some (.array n e):=⟨2,30,ah⟩
 have h2:Tryz.prog.eqGuardType Tryz.prog.depth 164=false:=ah
 unfold yF
 rw[h]
 dsimp only
 rw[if_pos h2,h6]
 rfl
section
variable {o:Nat->ad}{nx x m:Nat}{lim:Bool}{a c:Tm}{b:List (Int×Tm)}{L:List TB}{st:List D}(lx:x<nx)(lm:m<nx)(bY:x≠m)
include lx lm bY
theorem LK(gone:Nat->Prop)(xs:V)(l:List V)(hg:Good o nx)(rV:∀id,gone id->nx+87<=id\/id=nx+8){xt xu:Tm}{e:Nat->V}{so:Nat->ad}{k:Nat}
 (gs:eL so gone 106 6 st xs) (h40:so (nx+40)= .row xt.row) (h41:so (nx+41)= .row xu.row)
 (h:∀j,j<nx+40->j≠nx+8->j≠nx+18->True->so j=qZ o nx x m lim a c b L [] j)
 (he:gM (nx+87) [⟨xs,106,6,st⟩] so gone e l 0):bA nx ⟨e,so,k⟩ ⟨aX l,az (az (az (az (qZ o nx x m lim a c b L []) (nx+8) .no) (nx+40) (.row xt.row)) (nx+41) (.row xu.row)) (nx+87) (.arr 0 106 6 st),nx+87+1⟩:=by
 have hG:=jm (lim:=lim) (a:=a) (c:=c) (b:=b) (L:=L) (st:=[]) lx lm bY hg
 refine bA.ou gone xs (nx+87) l af (fun j hj=> ?_) (ab _ _ _) gs (fun j hj=> ?_) (fun j h1 h2=> ?_) he
 ·by_cases e1:j=nx+41
  ·subst e1
   exact eO (y:= .row xu.row) h41 c6 (a7 rfl (fun r hr=>by simp[ad.refs,V.aQ,V.refs]at hr))
  ·by_cases e2:j=nx+40
   ·subst e2
    exact eO (y:= .row xt.row) h40 c6 (a7 rfl (fun r hr=>by simp[ad.refs,V.aQ,V.refs]at hr))
   ·by_cases e3:j=nx+8
    ·subst e3
     exact eO (y':= .no) rfl c6 kx
    ·by_cases e4:j<nx+9
     ·exact eO (y:=qZ o nx x m lim a c b L [] j) (h j af e3 af trivial) c6 (a7 rfl (fun r hr=>by have:=hG.refs j r hr;omega))
     ·exact eO (y':= .no) rfl (by(repeat(first|rfl|rw[ab]|rw[ae _ _ _ _ (by omega)]));exact hG.fresh j af) kx
 ·(repeat(first|rfl|rw[ab]|rw[ae _ _ _ _ (by omega)]))
  exact hG.fresh j af
 ·rcases rV j h1 with h|h
  ·omega
  ·exact X2
end
end Go.Proofs.YtlhemmpklhhgoaaGreat
namespace Go.Proofs.YtlhemmpklhhgoaaGreat
theorem mg{B:Nat->Prop}{φ:Place}{H:Hp}{w:World}:∀ (pre:List V) (x:V) (rest:List V) (vals:List Value),V.aC B φ H w (pre++x::rest) vals↔∃v1 val us,vals=v1++val::us/\V.aC B φ H w pre v1/\V.den B φ H w x val/\V.aC B φ H w rest us
 |[],x,rest,vals=>by
  constructor
  ·rintro⟨u,us,h1,h2,h3⟩;exact⟨[],u,us,h1,rfl,h2,h3⟩
  ·rintro⟨v1,u,us,h1,h0,h2,h3⟩
   have h0:v1=[]:=h0
   subst h0
   exact⟨u,us,h1,h2,h3⟩
 |a::pre,x,rest,vals=>by
  constructor
  ·rintro⟨u,us,h1,h2,h3⟩
   obtain⟨v1,val,us',g1,g2,g3,g4⟩:=(mg pre x rest us).1 h3
   exact⟨u::v1,val,us',by rw[h1,g1];rfl,⟨u,v1,rfl,h2,g2⟩,g3,g4⟩
  ·rintro⟨v1,val,us',g1,⟨u,v2,g5,g6,g7⟩,g3,g4⟩
   subst g5
   exact⟨u,v2++val::us',by rw[g1];rfl,g6,(mg pre x rest _).2 ⟨v2,val,us',rfl,g7,g3,g4⟩⟩
theorem cI.Vr {P:Program}{g:FuncId}(pre:List V){x:V}{d:D}{rest:List V}{o:Nat->ad}{nx:Nat}{K X:V->(Nat->ad)->Nat->Prop}(hx:dU o x=some d)
 (h:cI P g (pre++ .d d::rest) (put o (bL o x.ids)) nx K X):cI P g (pre++x::rest) o nx K X:=by
 refine⟨h.1,fun M φ w vals hH hd=> ?_⟩
 have hd0:=hd
 obtain⟨v1,val,us,mK,pz,hv,dY⟩:=(mg pre x rest vals.toList).1 hd
 have hu:=fun id au=>cK x val hv id au
 obtain⟨f1,f2,f3,f4,f5⟩:=cQ (H:=hp o nx) hH x.ids hu
 have gk:(hp o nx).put (bL o x.ids)=hp (put o (bL o x.ids)) nx:=Ek (fun y hy=>by
  simp only[bL,List.mem_map]at hy
  obtain⟨id,au,rfl⟩:=hy
  exact hu id au)
 have f1':=f1;have f2':=f2
 rw[show bL (hp o nx).o x.ids=bL o x.ids from rfl,gk]at f1' f2'
 have UM:∀k,cD φ ((hp o nx).put (bL o x.ids)) k->cD φ (hp o nx) k:=by
  rintro k ⟨id,g1,g2⟩
  by_cases au:id∈x.ids
  ·have:=f3 id au
   rw[show((hp o nx).put (bL o x.ids)).o id=_ from this]at g1
   refine⟨id, ?_,g2⟩
   revert g1
   cases(hp o nx).o id<;>simp[ad.fz,ad.live]
  ·have:=f4 id au
   rw[show((hp o nx).put (bL o x.ids)).o id=_ from this]at g1
   exact⟨id,g1,g2⟩
 have LL:∀j,kQ (((hp o nx).put (bL o x.ids)).o j) ((hp o nx).o j):=fun j=>by
  by_cases hm:j∈x.ids
  ·rw[show((hp o nx).put (bL o x.ids)).o j=_ from f3 j hm];exact kQ.fz _
  ·rw[show((hp o nx).put (bL o x.ids)).o j=_ from f4 j hm];exact kQ.rfl' rfl
 have h4:=V.lu (H:=hp o nx) (H':=(hp o nx).put (bL o x.ids)) (B:=ao M φ (hp o nx)) (B':=ao M φ ((hp o nx).put (bL o x.ids))) (fun k h h'=>h (h'.imp id (UM k))) x val (fun id au=>⟨LL id,rfl,(f5 id).2 ((V.ly x val hv) id au)⟩) hv
 have h5:=eT f1 (o:=o) x d val (fun id au=>f3 id au) hx h4
 have h6:=V.eX (H:=hp o nx) (H':=(hp o nx).put (bL o x.ids)) (B:=ao M φ (hp o nx)) (B':=ao M φ ((hp o nx).put (bL o x.ids))) (fun k h h'=>h (h'.imp id (UM k))) rest us (fun id au=>⟨LL id,rfl,(f5 id).2 ((V.eK rest us dY) id au)⟩) dY
 have h7:=V.eX (H:=hp o nx) (H':=(hp o nx).put (bL o x.ids)) (B:=ao M φ (hp o nx)) (B':=ao M φ ((hp o nx).put (bL o x.ids))) (fun k h h'=>h (h'.imp id (UM k))) pre v1 (fun id au=>⟨LL id,rfl,(f5 id).2 ((V.eK pre v1 pz) id au)⟩) pz
 rw[show(hp o nx).put (bL (hp o nx).o x.ids)=hp (put o (bL o x.ids)) nx from gk]at h5
 rw[gk]at h6 h7
 refine(h.2 M φ w vals f1' ((mg pre (.d d) rest vals.toList).2 ⟨v1,val,us,mK,h7,h5,h6⟩)).mono ?_
 rintro e w' ⟨aE,o',nx',v,k1,k2,k3⟩
 exact⟨aE,o',nx',v,k1,f2'.trans k2,k3⟩
end Go.Proofs.YtlhemmpklhhgoaaGreat
set_option maxHeartbeats 8000000
namespace Go.Proofs.YtlhemmpklhhgoaaGreat
def eqE(nx x:Nat):List V:=[.ptr x 0, .aa, .aa, .aa, .ptr nx 0, .ptr (nx+1) 0, .osl (nx+8) 0]
theorem EG{s:aD}{lim:Bool}{b:List (Int×Tm)}{L:List TB}{a c:Tm}(hb:rj s b)(ha:QT s a)(hc:QT s c)(hL:L.length<=100){f:Nat}{e:Int}{b':List (Int×Tm)}(hf:mf lim f a c b=some (e,b'))
 {x m:Nat} {xl:V} (o o1:Nat->ad) (nx:Nat) (gn:Nat->Prop) (hg:Good o nx) (C4:Good o1 nx) (hx:o x= .row [.mp m,xl, .d (.bool lim)]) (hm:o m=dt b) (hl:eL o gn 59 4 (L.map TB.d) xl)
 (rV:∀j,gn j->j<nx/\j≠x/\j≠m/\o1 j= .no) (h1:∀j,j<nx->o1 j= .no\/o j=o1 j) (K X:V->(Nat->ad)->Nat->Prop)
 (aW:e=0->∀E:List TB,b'=b++ai E->∀o' nx',nx+8<=nx'->Good o' nx'->EqH o' x m (nx+7) 0 lim b' (L++E)->(∀j,j<nx->j≠x->j≠m->o' j=o1 j)->K (.bT []) o' nx')
 (pL:e=5->∀o' nx',nx<=nx'->Good o' nx'->(∀j,j<nx->j≠x->j≠m->o' j=o1 j)->X (.d (.iface 162 (.agg []))) o' nx')
 (A5:e=3->∀o' nx',nx<=nx'->Good o' nx'->(∀j,j<nx->j≠x->j≠m->o' j=o1 j)->X (.d (.iface 163 (.agg []))) o' nx'):
 cI Tryz.prog 103 [.ptr x 0, .d a.d, .d c.d] o nx K X:=by
 have lx:x<nx:=hg.lt Ji
 have lm:m<nx:=hg.lt EU
 have bY:x≠m:=fun e=>by subst e;rw[hx]at hm;cases hm
 obtain⟨N,hN⟩:=Lx hb ha hc hf
 refine cI.aI mix QB aF ?_
 rw[T3]
 refine Mp hx hm ?_
 refine aB (fun i:Nat×List (Tm×Tm)×List TB=>⟨aX (eqE nx x),qZ o1 nx x m lim a c (b++ai i.2.2) (L++i.2.2) (i.2.1.reverse.map qT),nx+9⟩)
  (fun i=>jO lim 1000000000 i.1 i.2.1 (b++ai i.2.2)=some (e,b')/\rj s (b++ai i.2.2)/\∀p∈i.2.1,QT s p.1/\QT s p.2) (fun i=>i.1) (N,[(a,c)],[])
  ⟨by simpa[ai]using hN,by simpa[ai]using hb,fun p hp=>by simp at hp;subst hp;exact⟨ha,hc⟩⟩ ?_ ?_
 ·dsimp only
  have gx: ¬gn x:=fun h=>(rV x h).2.1 rfl
  have gm: ¬gn m:=fun h=>(rV m h).2.2.1 rfl
  refine oj lx lm bY (fun j=>gn j\/j=nx+5) xl (.osl (nx+5) 0) _ C4 (fun id h=> ?_) ?_ (.inr ⟨nx+5,0, .inr rfl,rfl,by(repeat(first|rfl|rw[ab]|rw[ae _ _ _ _ (by omega)]))⟩) (fun id ep e7 h h'=> ?_) (by(repeat(first|rfl|rw[ab]|rw[ae _ _ _ _ (by omega)]));exact hx) (by(repeat(first|rfl|rw[ab]|rw[ae _ _ _ _ (by omega)]));rw[hm];simp[ai]) (fun j j1 j2 j3=> ?_) ?_
  ·rcases h with h|h
   ·obtain⟨h1,h2,h3,h4⟩:=rV id h
    exact .inr ⟨h4,af,af,h2,h3⟩
   ·exact .inr ⟨C4.fresh _ af,af,af,af,af⟩
  ·rcases hl with h|⟨id,ep,h1,h2,h3⟩
   ·exact .inl (by simpa using h)
   ·have:=(rV id h1).1
    exact .inr ⟨id,ep, .inl h1,h2,by(repeat(first|rfl|rw[ab]|rw[ae _ _ _ _ (by omega)]));simpa using h3⟩
  ·rcases hl with⟨h1,_⟩|⟨Ao,aeS,h1,h2,h3⟩
   ·rw[h1]at h;cases h
   ·have:=(rV Ao h1).1
    rw[h2]at h
    cases h
    cases h'
    omega
  ·by_cases e1:j=nx
   ·subst e1;rw[eqS_0 lx lm bY];right;(repeat(first|rfl|rw[ab]|rw[ae _ _ _ _ (by omega)]))
   ·by_cases e2:j=nx+1
    ·subst e2;rw[eqS_1 lx lm bY];right;(repeat(first|rfl|rw[ab]|rw[ae _ _ _ _ (by omega)]))
    ·rw[rl e1 e2 j2 j3 (by omega) (by omega)]
     by_cases e3:j<nx
     ·rcases h1 j e3 with h|h
      ·exact .inl h
      ·right;(repeat(first|rfl|rw[ab]|rw[ae _ _ _ _ (by omega)]));exact h
     ·left;exact C4.fresh j af
  ·unfold eqE
   (repeat(first|exact eC|refine dw ?_|refine cN rfl ?_|refine cN (jZ (mi af)) ?_|refine iN 0 rfl rfl rfl ?_|refine jk rfl Mb ?_|refine jl rfl Mc ?_))
   exact O6
 rintro⟨n,st,E⟩ ⟨hM,hA,hS⟩
 dsimp only at hM hA hS|-
 have f0:=eqS_0 (o:=o1) (lim:=lim) (a:=a) (c:=c) (b:=b++ai E) (L:=L++E) (st:=st.reverse.map qT) lx lm bY
 have f1:=eqS_1 (o:=o1) (lim:=lim) (a:=a) (c:=c) (b:=b++ai E) (L:=L++E) (st:=st.reverse.map qT) lx lm bY
 have fx:=LI (o:=o1) (lim:=lim) (a:=a) (c:=c) (b:=b++ai E) (L:=L++E) (st:=st.reverse.map qT) lx lm bY
 have fm:=LJ (o:=o1) (lim:=lim) (a:=a) (c:=c) (b:=b++ai E) (L:=L++E) (st:=st.reverse.map qT) lx lm bY
 have f7:=eqS_7 (o:=o1) (lim:=lim) (a:=a) (c:=c) (b:=b++ai E) (L:=L++E) (st:=st.reverse.map qT) lx lm bY
 have f8:=eqS_8 (o:=o1) (lim:=lim) (a:=a) (c:=c) (b:=b++ai E) (L:=L++E) (st:=st.reverse.map qT) lx lm bY
 unfold eqE
 cases n with
 |zero=>cases hM
 |succ n=>
 cases st with
 |nil=>
  simp only[jO]at hM
  injection hM with hM
  injection hM with hM1 hM2
  simp only[List.reverse_nil,List.map_nil]at f0 f1 fx fm f7 f8|-
  refine RR f0 f1 fm f7 f8 ?_
  refine aW hM1.symm E hM2.symm _ _ af (Good.mono (jm lx lm bY C4) af) ⟨fx,hM2 ▸ fm,f7⟩ (fun j h1 h2 h3=> ?_)
  exact rl af af h2 h3 af af
 |cons p st=>
 obtain⟨t,u⟩:=p
 have Fi:Good o1 nx:=C4
 have hlen:(st.length:Int)+1>0:=af
 have hrv:((t,u)::st).reverse.map qT=st.reverse.map qT++[qT (t,u)]:=aF
 rw[hrv]at f0 f1 fx fm f7 f8|-
 have jS:st.length<1000000000:=by
  refine Classical.byContradiction fun h=> ?_
  simp only[jO]at hM
  rw[if_pos (by omega)]at hM
  cases hM
 have fe:decide ((0:Int)<((st.length+1:Nat):Int))=true:=by rw[decide_eq_true_eq];omega
 have tv:((st.length+1:Nat):Int) - 1=(st.length:Nat):=af
 have oW:(st.reverse.map qT++[qT (t,u)])[st.length]? =some (qT (t,u)):=by
  rw[List.getElem?_append_right (by simp)]
  simp
 have aet:(if((st.length:Nat):Int)=0 then some (V.osl (nx+8) 1,[(nx+8,ad.arr 1 106 6 [])],[nx+8])else some (V.osl (nx+8) 1,[(nx+8,ad.arr 1 106 6 (List.take st.length (st.reverse.map qT++[qT (t,u)])))],[nx+8]))=some (V.osl (nx+8) 1,[(nx+8,ad.arr 1 106 6 (st.reverse.map qT))],[nx+8]):=by
  split
  ·have MM:st=[]:=List.eq_nil_of_length_eq_zero af
   subst MM
   rfl
  ·rw[List.take_append_of_le_length (by simp),List.take_of_length_le (by simp)]
 obtain⟨xt,hxt,W1,uxt⟩:=gL hA (hS (t,u) aF).1
 obtain⟨xu,JD,qxu,uxu⟩:=gL hA (hS (t,u) aF).2
 simp+contextual (disch:=first|omega|simp only[go_sem,false_implies]) only[go_sem,wrap64,if_pos,f0,f1,fx,fm,f7,f8,Nat.add_assoc,Nat.left_eq_add,Nat.add_eq_left,Nat.add_left_cancel_iff,List.length_map,List.length_append,List.length_reverse,fe,tv,oW,aet]
 refine CO oY (LG hxt GM) ?_
 refine RR f0 f1 fm f7 f8 ?_
 refine CO oY (LG JD GM) ?_
 refine RR f0 f1 fm f7 f8 ?_
 refine aN (eM (ids:=[x,nx+18,m,nx+40,nx+41]) (nx:=nx+44) oY oY [([],[]),([0],[]),([0],[]),([0],[]),([1],[]),([1],[]),([2],[]),([],[]),([0],[]),([0],[]),([0],[]),([1],[]),([1],[]),([2],[]),([],[3]),([],[4]),([3],[3]),([4],[4])] bV) ?_
 simp only[jO]at hM
 rw[if_neg (by omega),hxt,JD]at hM
 dsimp only at hM
 have hLE:(L++E).length<=1000:=by
  have h20:=Ib hA.keys fun v hv=>by
   obtain⟨p,hp,rfl⟩:=List.mem_map.1 hv
   exact(hA.ok p hp).1
  rw[List.length_map,List.length_append,ai,List.length_map]at h20
  rw[List.length_append]
  omega
 have LH:∀p∈st,QT s p.1/\QT s p.2:=fun p hp=>hS p (by simp[hp])
 by_cases h1:xt.op=1
 ·rw[if_pos h1]at hM
  have eg:(xt.op==1)=true:=by simpa using h1
  by_cases h2:xu.op=1
  ·rw[if_pos h2]at hM
   have iy:(xu.op==1)=true:=by simpa using h2
   by_cases h3:xt.n=xu.n
   ·rw[if_pos h3]at hM
    have kW:(xt.n !=xu.n)=false:=by simp[h3]
    simp+contextual (disch:=first|omega|simp only[go_sem,false_implies]) only[go_sem,wrap64,if_pos,f0,f1,fx,fm,f7,f8,Nat.add_assoc,Nat.left_eq_add,Nat.add_eq_left,Nat.add_left_cancel_iff,kz,eg,iy,kW,Bool.and_self]
    refine aj (n,st,E) ⟨hM,hA,LH⟩ (Nat.lt_succ_self n) (oj lx lm bY (fun j=>nx+7<=j) (.osl (nx+7) 0) (.osl (nx+8) 1) _ C4 (fun id h=> .inl h) (.inr ⟨nx+7,0,Nat.le_refl _,rfl,by(repeat(first|rfl|rw[ab]|rw[ae _ _ _ _ (by omega)]));exact f7⟩) (.inr ⟨nx+8,1,af,rfl,by(repeat(first|rfl|rw[ab]|rw[ae _ _ _ _ (by omega)]))⟩) (fun id ep e7 h h'=>by cases h;cases h') Ms GM (fun j j1 j2 j3=> ?_) ?_)
    ·right
     (repeat(first|rfl|rw[ab]|rw[ae _ _ _ _ (by omega)]))
     exact AE
    ·(repeat(first|exact eC|refine dw ?_|refine cN rfl ?_|refine cN (jZ (mi af)) ?_|refine iN 0 rfl rfl rfl ?_|refine jk rfl Mb ?_|refine jl rfl Mc ?_))
     exact O6
   ·rw[if_neg h3]at hM
    have kW:(xt.n !=xu.n)=true:=by simp[h3]
    obtain⟨rt,et⟩:=W1.eta h1
    obtain⟨ru,eu⟩:=qxu.eta h2
    have WW:bN (b++ai E) (max xt.n xu.n)=none:=by
     rw[Int.max_def];split
     ·exact uxu h2
     ·exact uxt h1
    simp+contextual (disch:=first|omega|simp only[go_sem,false_implies]) only[go_sem,wrap64,if_pos,f0,f1,fx,fm,f7,f8,Nat.add_assoc,Nat.left_eq_add,Nat.add_eq_left,Nat.add_left_cancel_iff,kz,eg,iy,kW,Bool.and_self]
    have em:(if xu.n>xt.n then xu.n else xt.n)=max xt.n xu.n:=by rw[Int.max_def];split<;>split<;>omega
    have en:(if xu.n<xt.n then xu.n else xt.n)=min xt.n xu.n:=by rw[Int.min_def];split<;>split<;>omega
    rw[em,en]
    refine bz (cI.Vr [.ptr x 0, .d (.i (max xt.n xu.n))] (d:=(Tm.mk 1 (min xt.n xu.n) []).d) (rest:=[]) rfl ?_)
    simp only[V.ids,V.br,List.append_nil,bL,List.map_nil,Ka,List.cons_append,List.nil_append]
    refine EF (s:=s) (lim:=lim) (b:=b++ai E) (L:=L++E) (n:=max xt.n xu.n) (y:= .mk 1 (min xt.n xu.n) []) hA WW af (QT.var af) hLE (x:=x) (m:=m) (l:=nx+7) _ _ ?_ ⟨?_, ?_, ?_⟩ _ _ (fun mA o2 n2 k1 k2 k3 k4=> ?_) (fun mA o2 n2 k1 k2 k4=> ?_) (fun mA o2 n2 k1 k2 k4=> ?_)
    ·refine Good.az (Good.az (Good.az (Good.az (Good.az (Good.az (Good.az (Good.mono (jm lx lm bY C4) af) af rfl) af rfl) af rfl) af rfl) af rfl) af rfl) af rfl
    ·exact Ms
    ·exact GM
    ·exact R4
    ·rw[mA,if_pos rfl]at hM
     obtain⟨g1,g2,g3⟩:=k3
     refine bW ?_
     refine aj (n,st,E++[⟨max xt.n xu.n, .mk 1 (min xt.n xu.n) []⟩]) ⟨by rw[fA];simpa[ai]using hM,by have:=(oh (lim:=lim) (n:=max xt.n xu.n) (y:= .mk 1 (min xt.n xu.n) []) hA WW af (QT.var af) (by rw[mA])).1;rw[mA]at this;rw[fA];simpa[ai]using this,LH⟩ (Nat.lt_succ_self n) (oj lx lm bY (fun j=>nx+7<=j) (.osl (nx+7) 1) (.osl (nx+8) 1) _ C4 (fun id h=> .inl h) (.inr ⟨nx+7,1,Nat.le_refl _,rfl,by rw[g3,List.append_assoc]⟩) (.inr ⟨nx+8,1,af,rfl,by rw[k4 _ (by omega) (by omega) (by omega) (by omega)];(repeat(first|rfl|rw[ab]|rw[ae _ _ _ _ (by omega)]))⟩) (fun id ep e7 h h'=>by cases h;cases h') g1 (by rw[g2,fA];simp[ai]) (fun j j1 j2 j3=> ?_) ?_)
     ·right
      rw[k4 j (by omega) j2 j3 (by omega)]
      (repeat(first|rfl|rw[ab]|rw[ae _ _ _ _ (by omega)]))
      exact AE
     ·(repeat(first|exact eC|refine dw ?_|refine cN rfl ?_|refine cN (jZ (mi af)) ?_|refine iN 0 rfl rfl rfl ?_|refine jk rfl Mb ?_|refine jl rfl Mc ?_))
      exact O6
    ·rw[if_neg (by rw[mA];decide)]at hM
     have he:e=5:=by injection hM with hM;rw[hM]at mA;exact mA
     refine bW ?_
     refine pL he _ _ af k2 (fun j j1 j2 j3=> ?_)
     rw[k4 j (by omega) j2 j3 (by omega)]
     (repeat(first|rfl|rw[ab]|rw[ae _ _ _ _ (by omega)]))
     exact GO
    ·rw[if_neg (by rw[mA];decide)]at hM
     have he:e=3:=by injection hM with hM;rw[hM]at mA;exact mA
     refine bW ?_
     refine A5 he _ _ af k2 (fun j j1 j2 j3=> ?_)
     rw[k4 j (by omega) j2 j3 (by omega)]
     (repeat(first|rfl|rw[ab]|rw[ae _ _ _ _ (by omega)]))
     exact GO
  ·rw[if_neg h2]at hM
   have iy:(xu.op==1)=false:=by simpa using h2
   obtain⟨rt,et⟩:=W1.eta h1
   simp+contextual (disch:=first|omega|simp only[go_sem,false_implies]) only[go_sem,wrap64,if_pos,f0,f1,fx,fm,f7,f8,Nat.add_assoc,Nat.left_eq_add,Nat.add_eq_left,Nat.add_left_cancel_iff,kz,eg,iy,Bool.and_false]
   refine bz (EF (s:=s) (lim:=lim) (b:=b++ai E) (L:=L++E) (n:=xt.n) (y:=xu) hA (uxt h1) rt qxu hLE (x:=x) (m:=m) (l:=nx+7) _ _ ?_ ⟨?_, ?_, ?_⟩ _ _ (fun mA o2 n2 k1 k2 k3 k4=> ?_) (fun mA o2 n2 k1 k2 k4=> ?_) (fun mA o2 n2 k1 k2 k4=> ?_))
   ·refine Good.az (Good.az (Good.az (Good.az (Good.az (Good.az (Good.az (Good.mono (jm lx lm bY C4) af) af rfl) af rfl) af rfl) af rfl) af rfl) af rfl) af rfl
   ·exact Ms
   ·exact GM
   ·exact R4
   ·rw[mA,if_pos rfl]at hM
    obtain⟨g1,g2,g3⟩:=k3
    refine bW ?_
    refine aj (n,st,E++[⟨xt.n,xu⟩]) ⟨by rw[fA];simpa[ai]using hM,by have:=(oh (lim:=lim) hA (uxt h1) rt qxu (by rw[mA])).1;rw[mA]at this;rw[fA];simpa[ai]using this,LH⟩ (Nat.lt_succ_self n) (oj lx lm bY (fun j=>nx+7<=j) (.osl (nx+7) 1) (.osl (nx+8) 1) _ C4 (fun id h=> .inl h) (.inr ⟨nx+7,1,Nat.le_refl _,rfl,by rw[g3,List.append_assoc]⟩) (.inr ⟨nx+8,1,af,rfl,by rw[k4 _ (by omega) (by omega) (by omega) (by omega)];(repeat(first|rfl|rw[ab]|rw[ae _ _ _ _ (by omega)]))⟩) (fun id ep e7 h h'=>by cases h;cases h') g1 (by rw[g2,fA];simp[ai]) (fun j j1 j2 j3=> ?_) ?_)
    ·right
     rw[k4 j (by omega) j2 j3 (by omega)]
     (repeat(first|rfl|rw[ab]|rw[ae _ _ _ _ (by omega)]))
     exact AE
    ·(repeat(first|exact eC|refine dw ?_|refine cN rfl ?_|refine cN (jZ (mi af)) ?_|refine iN 0 rfl rfl rfl ?_|refine jk rfl Mb ?_|refine jl rfl Mc ?_))
     exact O6
   ·rw[if_neg (by rw[mA];decide)]at hM
    have he:e=5:=by injection hM with hM;rw[hM]at mA;exact mA
    refine bW ?_
    refine pL he _ _ af k2 (fun j j1 j2 j3=> ?_)
    rw[k4 j (by omega) j2 j3 (by omega)]
    (repeat(first|rfl|rw[ab]|rw[ae _ _ _ _ (by omega)]))
    exact GO
   ·rw[if_neg (by rw[mA];decide)]at hM
    have he:e=3:=by injection hM with hM;rw[hM]at mA;exact mA
    refine bW ?_
    refine A5 he _ _ af k2 (fun j j1 j2 j3=> ?_)
    rw[k4 j (by omega) j2 j3 (by omega)]
    (repeat(first|rfl|rw[ab]|rw[ae _ _ _ _ (by omega)]))
    exact GO
 ·rw[if_neg h1]at hM
  have eg:(xt.op==1)=false:=by simpa using h1
  by_cases h2:xu.op=1
  ·rw[if_pos h2]at hM
   have iy:(xu.op==1)=true:=by simpa using h2
   obtain⟨ru,eu⟩:=qxu.eta h2
   simp+contextual (disch:=first|omega|simp only[go_sem,false_implies]) only[go_sem,wrap64,if_pos,f0,f1,fx,fm,f7,f8,Nat.add_assoc,Nat.left_eq_add,Nat.add_eq_left,Nat.add_left_cancel_iff,kz,eg,iy,Bool.false_and]
   refine bz (EF (s:=s) (lim:=lim) (b:=b++ai E) (L:=L++E) (n:=xu.n) (y:=xt) hA (uxu h2) ru W1 hLE (x:=x) (m:=m) (l:=nx+7) _ _ ?_ ⟨?_, ?_, ?_⟩ _ _ (fun mA o2 n2 k1 k2 k3 k4=> ?_) (fun mA o2 n2 k1 k2 k4=> ?_) (fun mA o2 n2 k1 k2 k4=> ?_))
   ·refine Good.az (Good.az (Good.az (Good.az (Good.az (Good.az (Good.az (Good.mono (jm lx lm bY C4) af) af rfl) af rfl) af rfl) af rfl) af rfl) af rfl) af rfl
   ·exact Ms
   ·exact GM
   ·exact R4
   ·rw[mA,if_pos rfl]at hM
    obtain⟨g1,g2,g3⟩:=k3
    refine bW ?_
    refine aj (n,st,E++[⟨xu.n,xt⟩]) ⟨by rw[fA];simpa[ai]using hM,by have:=(oh (lim:=lim) hA (uxu h2) ru W1 (by rw[mA])).1;rw[mA]at this;rw[fA];simpa[ai]using this,LH⟩ (Nat.lt_succ_self n) (oj lx lm bY (fun j=>nx+7<=j) (.osl (nx+7) 1) (.osl (nx+8) 1) _ C4 (fun id h=> .inl h) (.inr ⟨nx+7,1,Nat.le_refl _,rfl,by rw[g3,List.append_assoc]⟩) (.inr ⟨nx+8,1,af,rfl,by rw[k4 _ (by omega) (by omega) (by omega) (by omega)];(repeat(first|rfl|rw[ab]|rw[ae _ _ _ _ (by omega)]))⟩) (fun id ep e7 h h'=>by cases h;cases h') g1 (by rw[g2,fA];simp[ai]) (fun j j1 j2 j3=> ?_) ?_)
    ·right
     rw[k4 j (by omega) j2 j3 (by omega)]
     (repeat(first|rfl|rw[ab]|rw[ae _ _ _ _ (by omega)]))
     exact AE
    ·(repeat(first|exact eC|refine dw ?_|refine cN rfl ?_|refine cN (jZ (mi af)) ?_|refine iN 0 rfl rfl rfl ?_|refine jk rfl Mb ?_|refine jl rfl Mc ?_))
     exact O6
   ·rw[if_neg (by rw[mA];decide)]at hM
    have he:e=5:=by injection hM with hM;rw[hM]at mA;exact mA
    refine bW ?_
    refine pL he _ _ af k2 (fun j j1 j2 j3=> ?_)
    rw[k4 j (by omega) j2 j3 (by omega)]
    (repeat(first|rfl|rw[ab]|rw[ae _ _ _ _ (by omega)]))
    exact GO
   ·rw[if_neg (by rw[mA];decide)]at hM
    have he:e=3:=by injection hM with hM;rw[hM]at mA;exact mA
    refine bW ?_
    refine A5 he _ _ af k2 (fun j j1 j2 j3=> ?_)
    rw[k4 j (by omega) j2 j3 (by omega)]
    (repeat(first|rfl|rw[ab]|rw[ae _ _ _ _ (by omega)]))
    exact GO
  ·rw[if_neg h2]at hM
   have iy:(xu.op==1)=false:=by simpa using h2
   by_cases h3:xt.op=xu.op/\xt.n=xu.n/\xt.kids.length=xu.kids.length
   ·rw[if_pos h3]at hM
    obtain⟨h3a,h3b,h3c⟩:=h3
    have c1:(xt.op !=xu.op)=false:=by simp[h3a]
    have c2:(xt.n !=xu.n)=false:=by simp[h3b]
    have c3:((xt.kids.length:Int)!=(xu.kids.length:Int))=false:=by simp[h3c]
    have hk2:xt.kids.length<=2000:=by have:=mc xt.kids;have:=Tm.iH xt;have:=W1.sz;omega
    simp+contextual (disch:=first|omega|simp only[go_sem,false_implies]) only[go_sem,wrap64,if_pos,f0,f1,fx,fm,f7,f8,Nat.add_assoc,Nat.left_eq_add,Nat.add_eq_left,Nat.add_left_cancel_iff,kz,eg,iy,Bool.and_self,c1,c2,c3,List.length_map]
    obtain⟨len,oN⟩:∃len,xt.kids.length=len:=⟨_,rfl⟩
    have hlu:xu.kids.length=len:=by rw[<- h3c,oN]
    refine aB (fun j:Nat=>⟨aX [.ptr x 0, .aa, .aa, .aa, .ptr nx 0, .ptr (nx+1) 0, .osl (nx+87) 0, .aa, .ptr (nx+40) 0, .ptr (nx+41) 0, .d (.i ((len:Int) - 1 - (j:Int)))],az (az (az (az (qZ o1 nx x m lim a c (b++ai E) (L++E) []) (nx+8) .no) (nx+40) (.row xt.row)) (nx+41) (.row xu.row)) (nx+87) (.arr 0 106 6 (st.reverse.map qT++((xt.kids.zip xu.kids).reverse.take j).map qT)),nx+88⟩)
     (fun j=>j<=len) (fun j=>len - j) 0 (Nat.zero_le _) (LK lx lm bY (fun id=>id=nx+8) (.osl (nx+8) 1) _ C4 (fun id h=> .inr h) (.inr ⟨nx+8,1,rfl,rfl,by(repeat(first|rfl|rw[ab]|rw[ae _ _ _ _ (by omega)]));simp⟩) c6 c6 (fun j j1 j2 j3 j4=>by(repeat(first|rfl|rw[ab]|rw[ae _ _ _ _ (by omega)]));exact Vq j2) ?_) (fun j hj=> ?_)
    ·(repeat(first|exact eC|refine dw ?_|refine cN rfl ?_|refine cN (jZ (mi af)) ?_|refine iN 0 rfl rfl rfl ?_|refine jk rfl Mb ?_|refine jl rfl Mc ?_))
     refine cN (jZ af) ?_
     exact mE
    ·replace hj:j<=len:=hj
     have q40:∀l,az (az (az (az (qZ o1 nx x m lim a c (b++ai E) (L++E) []) (nx+8) .no) (nx+40) (.row xt.row)) (nx+41) (.row xu.row)) (nx+87) (.arr 0 106 6 l) (nx+40)= .row xt.row:=fun l=>by(repeat(first|rfl|rw[ab]|rw[ae _ _ _ _ (by omega)]))
     have q41:∀l,az (az (az (az (qZ o1 nx x m lim a c (b++ai E) (L++E) []) (nx+8) .no) (nx+40) (.row xt.row)) (nx+41) (.row xu.row)) (nx+87) (.arr 0 106 6 l) (nx+41)= .row xu.row:=fun l=>by(repeat(first|rfl|rw[ab]|rw[ae _ _ _ _ (by omega)]))
     have hrl:(xt.kids.zip xu.kids).reverse.length=len:=by rw[List.length_reverse,List.length_zip,oN,hlu];omega
     refine kR ?_
     refine ak (fun h4=> ?_) (fun h4=> ?_)
     ·have h4:j<len:=by simp at h4;omega
      obtain⟨i0,hi0⟩:∃i0:Nat,(len:Int) - 1 - (j:Int)=(i0:Int):=⟨len - 1 - j,af⟩
      rw[hi0]
      obtain⟨z1,hz1⟩:=ay (show i0<xt.kids.length from af)
      obtain⟨z2,Vo⟩:=ay (show i0<xu.kids.length from af)
      have hrz:(xt.kids.zip xu.kids).reverse[j]? =some (z1,z2):=by
       rw[List.getElem?_reverse (by rw[List.length_zip];omega),List.length_zip,oN,hlu,show min len len - 1 - j=i0 by omega,List.getElem?_zip_eq_some]
       exact⟨hz1,Vo⟩
      have q8:(xt.kids.zip xu.kids).reverse.take (j+1)=(xt.kids.zip xu.kids).reverse.take j++[(z1,z2)]:=by rw[List.take_add_one,hrz];rfl
      have e0:((xt.kids.zip xu.kids).reverse.take j).length=j:=by rw[List.length_take];omega
      have fL:st.length+j<=140737488355327/\(st.length+j+1)*80<=140737488355328:=af
      simp+contextual (disch:=first|omega|simp only[go_sem,false_implies]) only[go_sem,wrap64,if_pos,Nat.add_assoc,Nat.left_eq_add,Nat.add_eq_left,Nat.add_left_cancel_iff,hz1,Vo,List.length_map,List.length_append,List.length_reverse,e0,fL]
      refine aN (eM (ids:=[nx+40,nx+41,nx+102,nx+87]) (nx:=nx+105) aF aF [([],[]),([0],[]),([0],[]),([],[]),([],[]),([],[]),([1],[]),([1],[]),([],[]),([],[]),([],[]),([],[]),([],[2]),([3,2],[3]),([],[])] bV) ?_
      refine kR ?_
      refine aj (j+1) h4 af (LK lx lm bY (fun id=>nx+87<=id) (.osl (nx+87) 1) _ C4 (fun id h=> .inl h) (.inr ⟨nx+87,1,Nat.le_refl _,rfl,by(repeat(first|rfl|rw[ab]|rw[ae _ _ _ _ (by omega)]));rw[q8,List.map_append,List.append_assoc];rfl⟩) c6 c6 (fun j j1 j2 j3 j4=>by(repeat(first|rfl|rw[ab]|rw[ae _ _ _ _ (by omega)]))) ?_)
      (repeat(first|exact eC|refine dw ?_|refine cN rfl ?_|refine cN (jZ (mi af)) ?_|refine iN 0 rfl rfl rfl ?_|refine jk rfl Mb ?_|refine jl rfl Mc ?_))
      refine cN (jZ af) ?_
      exact mE
     ·have h4:j=len:=by simp at h4;omega
      subst h4
      refine kR ?_
      refine aj (n,xt.kids.zip xu.kids++st,E) ⟨hM,hA,fun p hp=> ?_⟩ (Nat.lt_succ_self n) (oj lx lm bY (fun j=>nx+7<=j) (.osl (nx+7) 0) (.osl (nx+87) 0) _ C4 (fun id h=> .inl h) (.inr ⟨nx+7,0,Nat.le_refl _,rfl, ?_⟩) (.inr ⟨nx+87,0,af,rfl, ?_⟩) (fun id ep e7 h h'=>by cases h;cases h') ?_ ?_ (fun j j1 j2 j3=> ?_) ?_)
      ·rcases List.mem_append.1 hp with hp|hp
       ·exact⟨W1.jV (List.of_mem_zip hp).1,qxu.jV (List.of_mem_zip hp).2⟩
       ·exact LH p hp
      ·(repeat(first|rfl|rw[ab]|rw[ae _ _ _ _ (by omega)]))
       exact eqS_7 lx lm bY
      ·(repeat(first|rfl|rw[ab]|rw[ae _ _ _ _ (by omega)]))
       rw[List.take_of_length_le (by omega),List.reverse_append,List.map_append]
      ·(repeat(first|rfl|rw[ab]|rw[ae _ _ _ _ (by omega)]))
       exact LI lx lm bY
      ·(repeat(first|rfl|rw[ab]|rw[ae _ _ _ _ (by omega)]))
       exact LJ lx lm bY
      ·right
       (repeat(first|rfl|rw[ab]|rw[ae _ _ _ _ (by omega)]))
       exact AE
      ·(repeat(first|exact eC|refine dw ?_|refine cN rfl ?_|refine cN (jZ (mi af)) ?_|refine iN 0 rfl rfl rfl ?_|refine jk rfl Mb ?_|refine jl rfl Mc ?_))
       exact O6
   ·rw[if_neg h3]at hM
    injection hM with hM
    injection hM with hM1 hM2
    by_cases c1:(xt.op !=xu.op)=true
    ·simp+contextual (disch:=first|omega|simp only[go_sem,false_implies]) only[go_sem,wrap64,if_pos,f0,f1,fx,fm,f7,f8,Nat.add_assoc,Nat.left_eq_add,Nat.add_eq_left,Nat.add_left_cancel_iff,kz,eg,iy,Bool.and_self,c1,List.length_map]
     exact RX
    have c1':(xt.op !=xu.op)=false:=by simpa using c1
    by_cases c2:(xt.n !=xu.n)=true
    ·simp+contextual (disch:=first|omega|simp only[go_sem,false_implies]) only[go_sem,wrap64,if_pos,f0,f1,fx,fm,f7,f8,Nat.add_assoc,Nat.left_eq_add,Nat.add_eq_left,Nat.add_left_cancel_iff,kz,eg,iy,Bool.and_self,c1',c2,List.length_map]
     exact RX
    have c2':(xt.n !=xu.n)=false:=by simpa using c2
    have c3:((xt.kids.length:Int)!=(xu.kids.length:Int))=true:=by
     rw[bne_iff_ne]
     intro h
     exact h3 ⟨by simpa using c1',by simpa using c2',af⟩
    simp+contextual (disch:=first|omega|simp only[go_sem,false_implies]) only[go_sem,wrap64,if_pos,f0,f1,fx,fm,f7,f8,Nat.add_assoc,Nat.left_eq_add,Nat.add_eq_left,Nat.add_left_cancel_iff,kz,eg,iy,Bool.and_self,c1',c2',c3,List.length_map]
    exact RX
end Go.Proofs.YtlhemmpklhhgoaaGreat
set_option maxHeartbeats 2000000
namespace Go.Proofs.YtlhemmpklhhgoaaGreat
theorem Vt(nb nn:Int)(l m:Int×Int)(ms:List (Int×Int)):w6 nb nn l (m::ms)=(dJ m.1 l.1 nb&&dJ m.2 l.2 nn&&w6 nb nn m ms):=by
 rw[w6]
 congr 1
 unfold dJ
 rw[Bool.eq_iff_iff]
 simp
 omega
theorem EH(s:iU)(hs:s.Fin){ok:Bool}(aW:ok=true↔gO s):a8 Tryz.prog 22 [s.d] (.ret [.bool ok]):=by
 have no: ¬gO s->ok=false:=fun h=>by
  cases ok with
  |false=>rfl
  |true=>exact absurd (aW.1 rfl) h
 have tA:=hs.bl
 have wA:=hs.nl
 have Iw:=hs.ml
 refine a8.aI mix adK aF ?_
 rw[c22]
 refine bW ?_
 refine aw (abV s.sig hs.sig) rfl ?_
 cases h1:np s.sig with
 |false=>
  have:=no fun h=>by have:=h.sig;rw[h1]at this;cases this
  exact yC
 |true=>
 obtain⟨bo,SQ⟩:∃bo:Bool,bo=true↔qO s.sig s.binds:=by
  classical
  exact⟨decide (qO s.sig s.binds),aF⟩
 refine bW ?_
 refine aw (EE s.sig hs.sig h1 s.binds tA (fun x hx=>(hs.bt x hx).fits) SQ) rfl ?_
 cases bo with
 |false=>
  have:=no fun h=>Bool.false_ne_true (SQ.2 h.tp)
  exact yC
 |true=>
 have hb:=SQ.1 rfl
 by_cases h3:12<s.aR.length
 ·have kW:decide ((s.aR.length:Int)>12)=true:=by simp;omega
  have:=no fun h=>by have:=h.Ih;omega
  subst this
  exact IM kW
 have kW:decide ((s.aR.length:Int)>12)=false:=by simp;omega
 by_cases h4:8<s.marks.length
 ·have Hd:decide ((s.marks.length:Int)>8)=true:=by simp;omega
  have:=no fun h=>by have:=h.Vh;omega
  subst this
  exact RV kW Hd
 have Hd:decide ((s.marks.length:Int)>8)=false:=by simp;omega
 obtain⟨l',ρ,R,hS,IA⟩:=uo hb.keys hb.ok hb.N9
 have nL:∀p∈ai s.binds,p.2.fits:=fun p hp=>by
  obtain⟨x,hx,rfl⟩:=eY hp
  exact(hs.bt x hx).fits
 have c8:∀p∈ai s.binds,CE (ai s.binds) p.2:=fun p hp=>by
  obtain⟨x,hx,rfl⟩:=eY hp
  exact hb.WU x hx
 refine GH kW Hd ?_
 refine aB (fun k:Nat=>⟨aX [.aa, .ptr 0 0, .aa, .d (.i k)],az (fun _=> .no) 0 (.row s.row),1⟩)
  (fun k=>k<=s.aR.length/\∀n∈s.aR.take k,jc s.sig n.a=true/\jc s.sig n.b=true/\ ¬Brk (ai s.binds) n) (fun k=>s.aR.length - k) 0 ⟨Nat.zero_le _,fun n hn=>by simp at hn⟩ (bA.bJ _ af af dI (fun j hj=>rfl) ?_) (fun k hk=> ?_)
 ·exact dp
 obtain⟨hk,ho⟩:=hk
 refine sG ?_
 refine ak (fun h6=> ?_) (fun h6=> ?_)
 ·replace h6:k<s.aR.length:=by simp at h6;omega
  obtain⟨n,hn⟩:=ay h6
  have tU:=List.mem_of_getElem? hn
  obtain⟨na,nb⟩:=hs.nt n tU
  have ea:=EB h1 n.a
  have eb:=EB h1 n.b
  refine sF hn ?_
  refine aZ (sw s.sig hs.sig n.a na.fits) rfl ?_
  cases va:(jF s.sig n.a&&fM n.a)with
  |false=>
   have:=no fun h=>by have:=(h.aR n tU).1;rw[ea,va]at this;cases this
   exact Sp
  |true=>
   refine sF hn ?_
   refine aZ (sw s.sig hs.sig n.b nb.fits) rfl ?_
   cases vb:(jF s.sig n.b&&fM n.b)with
   |false=>
    have:=no fun h=>by have:=(h.aR n tU).2.1;rw[eb,vb]at this;cases this
    exact Sp
   |true=>
    obtain⟨a1,a2,a3⟩:=dF (ea.trans va)
    obtain⟨b1,b2,b3⟩:=dF (eb.trans vb)
    have za:=qP hS c8 a1
    have zb:=qP hS c8 b1
    obtain⟨fa,ua⟩:=Li hS a1
    obtain⟨fb,ub⟩:=Li hS b1
    have hbk:=Gq (n:=n) hS a1 b1
    refine sF hn ?_
    refine aZ (CN tA nL (n:=n) na.fits nb.fits ua ub af af) rfl ?_
    cases tQ:fX (aV (ai l') n.a) (aV (ai l') n.b)with
    |true=>
     have:=no fun h=>(h.aR n tU).2.2 (hbk.2 ((fY _ _).1 tQ))
     exact Sp
    |false=>
     refine sF hn ?_
     refine aN (bc rfl) ?_
     refine bW ?_
     refine aj (k+1) ⟨h6,fun y hy=> ?_⟩ af (bA.bJ _ af af dI (fun j hj=>rfl) ?_)
     ·rw[List.take_add_one,hn]at hy
      rcases List.mem_append.1 hy with hy|hy
      ·exact ho y hy
      ·simp at hy
       subst hy
       refine⟨ea.trans va,eb.trans vb,fun h=> ?_⟩
       rw[(fY _ _).2 (hbk.1 h)]at tQ;cases tQ
     ·exact dp
 ·replace h6:k=s.aR.length:=by simp at h6;omega
  subst h6
  rw[List.take_length]at ho
  have fin:w6 s.binds.length s.aR.length (0,0) s.marks=ok:=by
   rw[Bool.eq_iff_iff,aW]
   exact⟨fun h=>⟨h1,af,af,hb,ho,h⟩,fun h=>h.marks⟩
  refine sG ?_
  refine aB (fun i:Nat×Int×Int=>⟨aX [.aa, .ptr 0 0, .aa, .aa, .ptr 7 0, .d (.i i.1)],az (az (fun _=> .no) 0 (.row s.row)) 7 (.row [.d (.i i.2.1), .d (.i i.2.2)]),8⟩)
   (fun i=>i.1<=s.marks.length/\w6 s.binds.length s.aR.length i.2 (s.marks.drop i.1)=ok) (fun i=>s.marks.length - i.1) (0,0,0) ⟨Nat.zero_le _,fin⟩ (bA.bJ _ (show 0<=8 from af) af dI (fun j hj=> ?_) ?_) ?_
  ·by_cases e:j=7
   ·exact oV
   ·exact c6
  ·exact dp
  rintro⟨k,l1,l2⟩ ⟨hk,lK⟩
  dsimp only at hk lK|-
  refine sG ?_
  refine ak (fun h7=> ?_) (fun h7=> ?_)
  ·replace h7:k<s.marks.length:=by simp at h7;omega
   obtain⟨⟨m1,m2⟩,hm⟩:=ay h7
   have Lm:s.marks.drop k=(m1,m2)::s.marks.drop (k+1):=by
    obtain⟨i1,i2⟩:=List.getElem?_eq_some_iff.1 hm
    exact I0
   rw[Lm,Vt]at lK
   dsimp only at lK
   refine sF hm ?_
   refine aw (EA m1 l1 s.binds.length) rfl ?_
   cases g1:dJ m1 l1 s.binds.length with
   |false=>
    rw[g1]at lK
    simp only[Bool.false_and]at lK
    subst lK
    exact pK
   |true=>
    rw[g1]at lK
    refine sF hm ?_
    refine aw (EA m2 l2 s.aR.length) rfl ?_
    cases g2:dJ m2 l2 s.aR.length with
    |false=>
     rw[g2]at lK
     simp only[Bool.true_and,Bool.false_and]at lK
     subst lK
     exact pK
    |true=>
     rw[g2]at lK
     simp only[Bool.true_and]at lK
     refine sF hm ?_
     refine aj (k+1,m1,m2) ⟨h7,lK⟩ kC (bA.bJ _ (show 0<=8 from af) af dI (fun j hj=> ?_) ?_)
     ·have hj:j<8:=hj
      by_cases e:j=7
      ·exact oV
      ·(repeat(first|rfl|rw[ab]|rw[ae _ _ _ _ (by omega)]));rw[ae _ 7 _ _ e]
     ·exact dp
  ·replace h7:k=s.marks.length:=by simp at h7;omega
   subst h7
   rw[List.drop_length]at lK
   have lK:true=ok:=lK
   subst lK
   exact pK
structure iU.Fits (s:iU):Prop where
 sig:s.sig.Fits
 bl:s.binds.length<=9223372036854775807
 nl:s.aR.length<=9223372036854775807
 ml:s.marks.length<=9223372036854775807
 bt:∀x∈s.binds,x.term.fits
 nt:∀n∈s.aR,n.a.fits/\n.b.fits
structure CP (s:iU):Prop where
 sig:ji s.sig=true
 bl:s.binds.length<=22
 nl:s.aR.length<=14
 ml:s.marks.length<=10
 bt:∀x∈s.binds,ik x.term=true
 nt:∀n∈s.aR,ik n.a=true/\ik n.b=true
theorem Vu{s:iU}(hf:s.Fits)(h:CP s):s.Fin:=by
 have sm:∀t:Tm,t.fits->ik t=true->t.Fin:=fun t h1 h2=>⟨h1,by have:=((Eg t).1 h2).2;omega⟩
 have:=h.bl
 have:=h.nl
 have:=h.ml
 exact⟨hf.sig,af,af,af,fun x hx=>sm _ (hf.bt x hx) (h.bt x hx),fun n hn=>⟨sm _ (hf.nt n hn).1 (h.nt n hn).1,sm _ (hf.nt n hn).2 (h.nt n hn).2⟩⟩
theorem EI(s:iU)(hs:s.Fits){ok:Bool}(aW:ok=true↔CP s):a8 Tryz.prog 23 [s.d] (.ret [.bool ok]):=by
 have no: ¬CP s->ok=false:=fun h=>by
  cases ok with
  |false=>rfl
  |true=>exact absurd (aW.1 rfl) h
 have tA:=hs.bl
 have wA:=hs.nl
 have Iw:=hs.ml
 refine a8.aI mix adL aF ?_
 rw[c23]
 refine bW ?_
 refine aw (Ea s.sig hs.sig) rfl ?_
 cases h1:ji s.sig with
 |false=>
  have:=no fun h=>by have:=h.sig;rw[h1]at this;cases this
  exact yC
 |true=>
 by_cases h2:22<s.binds.length
 ·have iy:decide ((s.binds.length:Int)>22)=true:=by simp;omega
  have:=no fun h=>by have:=h.bl;omega
  subst this
  exact IM iy
 have iy:decide ((s.binds.length:Int)>22)=false:=by simp;omega
 by_cases h3:14<s.aR.length
 ·have kW:decide ((s.aR.length:Int)>14)=true:=by simp;omega
  have:=no fun h=>by have:=h.nl;omega
  subst this
  exact RV iy kW
 have kW:decide ((s.aR.length:Int)>14)=false:=by simp;omega
 by_cases h4:10<s.marks.length
 ·have Hd:decide ((s.marks.length:Int)>10)=true:=by simp;omega
  have:=no fun h=>by have:=h.ml;omega
  subst this
  exact RU iy kW Hd
 have Hd:decide ((s.marks.length:Int)>10)=false:=by simp;omega
 refine uu iy kW Hd ?_
 refine aB (fun k:Nat=>⟨aX [.aa, .ptr 0 0, .aa, .d (.i k)],az (fun _=> .no) 0 (.row s.row),1⟩)
  (fun k=>k<=s.binds.length/\∀x∈s.binds.take k,ik x.term=true) (fun k=>s.binds.length - k) 0 ⟨Nat.zero_le _,fun n hn=>by simp at hn⟩ (bA.bJ _ af af dI (fun j hj=>rfl) ?_) (fun k hk=> ?_)
 ·exact dp
 obtain⟨hk,ho⟩:=hk
 refine sG ?_
 refine ak (fun h6=> ?_) (fun h6=> ?_)
 ·replace h6:k<s.binds.length:=by simp at h6;omega
  obtain⟨x,hx⟩:=ay h6
  have bY:=List.mem_of_getElem? hx
  refine sF hx ?_
  refine aw (zQ x.term (hs.bt x bY)) rfl ?_
  cases hv:ik x.term with
  |false=>
   have:=no fun h=>by have:=h.bt x bY;rw[hv]at this;cases this
   exact yC
  |true=>
   refine bW ?_
   refine aj (k+1) ⟨h6,fun y hy=> ?_⟩ af (bA.bJ _ af af dI (fun j hj=>rfl) ?_)
   ·rw[List.take_add_one,hx]at hy
    rcases List.mem_append.1 hy with hy|hy
    ·exact ho y hy
    ·simp at hy
     subst hy
     exact hv
   ·exact dp
 ·replace h6:k=s.binds.length:=by simp at h6;omega
  subst h6
  rw[List.take_length]at ho
  refine sG ?_
  refine aB (fun k:Nat=>⟨aX [.aa, .ptr 0 0, .aa, .aa, .d (.i k)],az (fun _=> .no) 0 (.row s.row),1⟩)
   (fun k=>k<=s.aR.length/\∀n∈s.aR.take k,ik n.a=true/\ik n.b=true) (fun k=>s.aR.length - k) 0 ⟨Nat.zero_le _,fun n hn=>by simp at hn⟩ (bA.bJ _ af af dI (fun j hj=>rfl) ?_) (fun k hk=> ?_)
  ·exact dp
  obtain⟨hk,ZO⟩:=hk
  refine sG ?_
  refine ak (fun h6=> ?_) (fun h6=> ?_)
  ·replace h6:k<s.aR.length:=by simp at h6;omega
   obtain⟨n,hn⟩:=ay h6
   have tU:=List.mem_of_getElem? hn
   obtain⟨na,nb⟩:=hs.nt n tU
   refine sF hn ?_
   refine aw (zQ n.a na) rfl ?_
   cases va:ik n.a with
   |false=>
    have:=no fun h=>by have:=(h.nt n tU).1;rw[va]at this;cases this
    exact yC
   |true=>
    refine sF hn ?_
    refine aw (zQ n.b nb) rfl ?_
    cases vb:ik n.b with
    |false=>
     have:=no fun h=>by have:=(h.nt n tU).2;rw[vb]at this;cases this
     exact yC
    |true=>
     refine bW ?_
     refine aj (k+1) ⟨h6,fun y hy=> ?_⟩ af (bA.bJ _ af af dI (fun j hj=>rfl) ?_)
     ·rw[List.take_add_one,hn]at hy
      rcases List.mem_append.1 hy with hy|hy
      ·exact ZO y hy
      ·simp at hy
       subst hy
       exact⟨va,vb⟩
     ·exact dp
  ·replace h6:k=s.aR.length:=by simp at h6;omega
   subst h6
   rw[List.take_length]at ZO
   have:ok=true:=aW.2 ⟨h1,af,af,af,ho,ZO⟩
   exact yC
end Go.Proofs.YtlhemmpklhhgoaaGreat
namespace Go.Proofs.YtlhemmpklhhgoaaGreat
end Go.Proofs.YtlhemmpklhhgoaaGreat
set_option maxHeartbeats 4000000
namespace Go.Proofs.YtlhemmpklhhgoaaGreat
structure iU.Cp (s:iU):Prop where
 lc:s.sig.cons.length<=1000000
 lf:s.sig.cL.length<=1000000
 bl:s.binds.length<=1000
 nl:s.aR.length<=1000
 ml:s.marks.length<=1000
 bt:∀x∈s.binds,x.term.sz<=1000000
 nt:∀n∈s.aR,n.a.sz<=1000000/\n.b.sz<=1000000
end Go.Proofs.YtlhemmpklhhgoaaGreat
set_option maxHeartbeats 4000000
namespace Go.Proofs.YtlhemmpklhhgoaaGreat
def iU.mark (s:iU):iU:=⟨s.sig,s.binds,s.aR,s.marks++[((s.binds.length:Int),(s.aR.length:Int))]⟩
end Go.Proofs.YtlhemmpklhhgoaaGreat
namespace Go.Proofs.YtlhemmpklhhgoaaGreat
section
section
variable {P:Program}
def sC(P:Program)(n t t1:Nat)(ic:IC)(bI:List V)(u:V)(o:Nat->ad)(nx:Nat)(K:(Nat->ad)->Nat->Prop):Prop:=
 bI.length<=n/\kN P n nx true ic (HB K) ⟨az (az (cj bI) t u) t1 u,o,nx⟩
def qU(P:Program)(n t t1:Nat)(ic:IC)(bI:List V)(rs:List ResultVar)(K X:V->(Nat->ad)->Nat->Prop)(e:fk)(s:S):Prop:=
 match e with
 | .normal| .ret=>sC P n t t1 ic bI (.d .eF) s.o s.nx fun o nx=>rU P rs K X .ret ⟨s.env,o,nx⟩
 | .bF v=>sC P n t t1 ic bI v s.o s.nx fun o nx=>rU P rs K X .ret ⟨s.env,o,nx⟩
 | .exit _=>False
def Ae(P:Program)(n t:Nat)(eR:IC)(eW:List Operand)(g:FuncId)(D:List V->fk->S->Prop)(e:fk)(s:S):Prop:=
 match e with
 | .normal=>kN P n s.nx false eR (D (eW.map s.ev)) ⟨az s.env t (.func (.func g) [] (eW.map s.ev)),s.o,s.nx⟩
 |_=>False
variable {n t t1:Nat}{ic eR:IC}{bI:List V}{rs:List ResultVar}{K X:V->(Nat->ad)->Nat->Prop}{s:S}{v:V}{eW:List Operand}{g:FuncId}{D:List V->fk->S->Prop}{KR:(Nat->ad)->Nat->Prop}
@[go_sem ↓] theorem LM:qU P n t t1 ic bI rs K X .normal s=sC P n t t1 ic bI (.d .eF) s.o s.nx fun o nx=>rU P rs K X .ret ⟨s.env,o,nx⟩:=propext Iff.rfl
@[go_sem ↓] theorem Rx:qU P n t t1 ic bI rs K X .ret s=sC P n t t1 ic bI (.d .eF) s.o s.nx fun o nx=>rU P rs K X .ret ⟨s.env,o,nx⟩:=propext Iff.rfl
@[go_sem ↓] theorem Ry:qU P n t t1 ic bI rs K X (.bF v) s=sC P n t t1 ic bI v s.o s.nx fun o nx=>rU P rs K X .ret ⟨s.env,o,nx⟩:=propext Iff.rfl
@[go_sem ↓] theorem LN:Ae P n t eR eW g D .normal s=kN P n s.nx false eR (D (eW.map s.ev)) ⟨az s.env t (.func (.func g) [] (eW.map s.ev)),s.o,s.nx⟩:=propext Iff.rfl
@[go_sem ↓] theorem Rz:HB KR .normal s=KR s.o s.nx:=propext Iff.rfl
@[go_sem ↓] theorem ach:HB KR .ret s=KR s.o s.nx:=propext Iff.rfl
theorem sC.w {o:Nat->ad}{nx:Nat}{K K':(Nat->ad)->Nat->Prop}(hK:∀o nx,K o nx->K' o nx)(h:sC P n t t1 ic bI v o nx K):D0 P n t t1 ic bI v o nx K':=by
 refine⟨h.1,dR ic _ _ _ (fun e s h=> ?_) h.2⟩
 unfold HB at h|-
 cases e with
 |normal=>exact hK _ _ h
 |ret=>exact hK _ _ h
 |_=>exact h
theorem cI.Ii (bn:P.follows .mixedOrders=true){f g:FuncId}{jr eR x6:IC}{t m r r1:Nat}{eW:List Operand}{rs:List ResultVar}(hf:FK P f n jr eR g t eW rs)(hg:BU P g m r r1 x6)
 {args:List V} {o:Nat->ad} {nx:Nat} {K X:V->(Nat->ad)->Nat->Prop} (hl:args.length<=n)
 (h:kN P n nx true jr (Ae P n t eR eW g fun bI=>qU P m r r1 x6 bI rs K X) ⟨cj args,o,nx⟩):cI P f args o nx K X:=by
 refine cI.BX bn hf hg hl (dR jr _ _ _ (fun e s h=> ?_) h)
 unfold Ae at h
 unfold BV
 cases e with
 |normal=>
  refine dR eR _ _ _ (fun e s h=> ?_) h
  unfold qU at h
  unfold zE
  cases e with
  |normal=>exact sC.w (fun _ _ h=>by unfold rU at h;exact h) h
  |ret=>exact sC.w (fun _ _ h=>by unfold rU at h;exact h) h
  |bF v=>exact sC.w (fun _ _ h=>by unfold rU at h;exact h) h
  |exit _=>exact h
 |_=>exact h
end
attribute [irreducible] sC
theorem pH{P:Program}{n t t1:Nat}{ic:IC}{bI:List V}{v:V}{o:Nat->ad}{nx:Nat}{K:(Nat->ad)->Nat->Prop}(h1:bI.length<=n)(h2:kN P n nx true ic (HB K) ⟨az (az (cj bI) t v) t1 v,o,nx⟩):sC P n t t1 ic bI v o nx K:=by
 unfold sC
 exact⟨h1,h2⟩
end
end Go.Proofs.YtlhemmpklhhgoaaGreat
set_option maxHeartbeats 4000000
namespace Go.Proofs.YtlhemmpklhhgoaaGreat
theorem Vv{o:Nat->ad}:yF Tryz.prog o 20 true (.d .eF) (.d .eF)=some (.d (.bool true)):=ah
theorem Vw{o:Nat->ad}:yF Tryz.prog o 20 true (.d (.iface 162 (.agg []))) (.d .eF)=some (.d (.bool false)):=ah
theorem Vx{o:Nat->ad}:yF Tryz.prog o 20 true (.d (.iface 163 (.agg []))) (.d .eF)=some (.d (.bool false)):=ah
theorem CQ:uF Tryz.prog 162=true:=ah
theorem CS:uF Tryz.prog 163=true:=ah
def AtK(K:V->(Nat->ad)->Nat->Prop)(nx:Nat)(e:Int)(o':Nat->ad)(nx':Nat):Prop:=
 nx+2<=nx'/\Good o' nx'/\o' nx= .row [.d (.i 0)]/\∀o2 n2,nx'<=n2->Good o2 n2->(∀j,j≠nx->j<nx'->o2 j=o' j)->K (.d (.i e)) o2 n2
theorem Ij(g:Nat)(bI:List V)(o:Nat->ad)(nx:Nat)(hg:Good o nx)(K X:V->(Nat->ad)->Nat->Prop)
 (hc:cI Tryz.prog g bI (az o nx (.row [.d (.i 0)])) (nx+2) (fun v o' nx'=>AtK K nx 0 o' nx')
  (fun v o' nx'=>(v= .d (.iface 162 (.agg []))/\AtK K nx 5 o' nx')\/(v= .d (.iface 163 (.agg []))/\AtK K nx 3 o' nx'))):
 cI Tryz.prog 101 [.func (.func g) [] bI] o nx K X:=by
 refine cI.Ii mix KF KA aF ?_
 rw[KC,T2]
 refine kR ?_
 refine ku (cI.mono (fun v o' nx' h=> ?_) (fun v o' nx' h=> ?_) hc)
 ·obtain⟨h1,h2,h3,h4⟩:=h
  refine GJ h3 ?_
  refine pH aF ?_
  rw[Kz]
  simp+contextual (disch:=first|omega|simp only[go_sem,false_implies]) only[go_sem,wrap64,if_pos,Nat.add_assoc,Nat.left_eq_add,Nat.add_eq_left,Nat.add_left_cancel_iff,h3,Vv]
  exact h4 _ _ af (Good.az (h2.mono af) af rfl) (fun j j1 j2=>ae _ _ _ _ j1)
 ·rcases h with⟨rfl,h1,h2,h3,h4⟩|⟨rfl,h1,h2,h3,h4⟩
  ·refine GJ h3 ?_
   refine pH aF ?_
   rw[Kz]
   simp+contextual (disch:=first|omega|simp only[go_sem,false_implies]) only[go_sem,wrap64,if_pos,Nat.add_assoc,Nat.left_eq_add,Nat.add_eq_left,Nat.add_left_cancel_iff,h3,Vw,CQ,CS]
   exact Xj
  ·refine GJ h3 ?_
   refine pH aF ?_
   rw[Kz]
   simp+contextual (disch:=first|omega|simp only[go_sem,false_implies]) only[go_sem,wrap64,if_pos,Nat.add_assoc,Nat.left_eq_add,Nat.add_eq_left,Nat.add_left_cancel_iff,h3,Vx,CQ,CS]
   exact Xj
end Go.Proofs.YtlhemmpklhhgoaaGreat
set_option maxHeartbeats 4000000
namespace Go.Proofs.YtlhemmpklhhgoaaGreat
end Go.Proofs.YtlhemmpklhhgoaaGreat
set_option maxHeartbeats 4000000
namespace Go.Proofs.YtlhemmpklhhgoaaGreat
theorem Gx:∀ (Δ:List (Nat×ad)) (o:Nat->ad) (j:Nat),(∀y∈Δ,y.1≠j)->put o Δ j=o j
 |[],o,j,h=>rfl
 |y::Δ,o,j,h=>by
  show put (az o y.1 y.2) Δ j=o j
  rw[Gx Δ _ j (fun z hz=>h z (by simp[hz])),ae _ _ _ _ (h y (by simp)).symm]
theorem CT{nx:Nat}:∀ (Δ:List (Nat×ad)) (o:Nat->ad),Good o nx->(∀y∈Δ,(nx<=y.1->y.2= .no)/\∀r∈y.2.refs,r<nx)->Good (put o Δ) nx
 |[],o,hg,h=>hg
 |y::Δ,o,hg,h=>by
  show Good (put (az o y.1 y.2) Δ) nx
  refine CT Δ _ ?_ (fun z hz=>h z sJ)
  obtain⟨h1,h2⟩:=h y aF
  by_cases hy:nx<=y.1
  ·rw[h1 hy]
   have:az o y.1 .no=o:=by
    funext j
    by_cases e:j=y.1
    ·subst e;rw[ab,hg.fresh _ hy]
    ·rw[ae _ _ _ _ e]
   rw[this];exact hg
  ·exact hg.az af (by rw[List.all_eq_true];exact fun r hr=>decide_eq_true (h2 r hr))
theorem LO{o:Nat->ad}{nx:Nat}(hg:Good o nx)(ids:List Nat):Good (put o (bL o ids)) nx:=by
 refine CT _ _ hg fun y hy=> ?_
 unfold bL at hy
 obtain⟨id,_,rfl⟩:=List.mem_map.1 hy
 dsimp only
 refine⟨fun h=>by rw[hg.fresh id h],fun r hr=> ?_⟩
 have:=hg.refs id r
 revert this hr
 cases h:o id<;>simp[ad.refs]<;>intros<;>first|omega|simp_all
theorem On(m:Nat)(o:Nat->ad)(nx:Nat)(K X:V->(Nat->ad)->Nat->Prop)(h:K (.func (.func 136) [] [.ptr nx 0]) (az o nx (.row [.mp m])) (nx+4)):cI Tryz.prog 111 [.mp m] o nx K X:=by
 refine cI.aI mix QF aF ?_
 rw[T7]
 refine kR ?_
 exact h
theorem Oo{b:List (Int×Tm)}(base ri p m:Nat)(H:List Int->Nat->ad)(Cg:ri<base)(hp:p<base)(hm:m<base)(hHp:∀l,H l p= .row [.mp m])(hHm:∀l,H l m= .bU (enc (D.int .i64) (jW b)))
 (hHr:∀l id,id<base->∀r∈(H l id).refs,r<base) (hR:∀x l,l.length<b.length->RoC Tryz.prog ri [.d (.i x)] base (H l) (H (l++[x])) (.d (.bool true))) (o:Nat->ad) (nx:Nat) (hI:eA base (H []) o nx) (K X:V->(Nat->ad)->Nat->Prop)
 (hK:∀l o' nx',l.Perm (b.map (·.1))->nx<=nx'->eA base (H l) o' nx'->(∀id,base<=id->id<nx->o' id=o id)->K (.bT []) o' nx'):
 cI Tryz.prog 136 [.j7 ri, .ptr p 0] o nx K X:=by
 have hle:=hI.le
 have op:o p= .row [.mp m]:=by rw[hI.eq p hp,hHp]
 have om:o m= .bU (enc (D.int .i64) (jW b)):=by rw[hI.eq m hm,hHm]
 refine cI.aI mix QO aF ?_
 rw[Ug]
 simp+contextual (disch:=first|omega|simp only[go_sem,false_implies]) only[go_sem,wrap64,if_pos,op,om,Nat.add_assoc,Nat.left_eq_add,Nat.add_eq_left,Nat.add_left_cancel_iff]
 obtain⟨S,hS1,W2⟩:∃S:List Int->Nat->ad,(∀l id,id<base->S l id=H l id)/\∀l id,base<=id->S l id=o id:=
  ⟨fun l id=>if id<base then H l id else o id,fun l id h=>if_pos h,fun l id h=>if_neg af⟩
 have hGS:∀l M,M.refs=[]->Good (az (S l) (nx+1) M) (nx+2):=fun l M hM=>by
  refine⟨fun id au=> ?_,fun id r hr=> ?_⟩
  ·rw[ae _ _ _ _ (by omega),W2 l id (by omega)];exact hI.cm.fresh id af
  ·by_cases e:id=nx+1
   ·subst e;rw[ab,hM]at hr;cases hr
   ·rw[ae _ _ _ _ e]at hr
    by_cases h:id<base
    ·rw[hS1 l id h]at hr;have:=hHr l id h r hr;omega
    ·rw[W2 l id (by omega)]at hr;have:=hI.cm.refs id r hr;omega
 refine aB (fun i:List (Int×Tm)×List Int×Option (D×D)=>⟨aX [.j7 ri, .ptr p 0, .aa, .aa, .aa, .ptr (nx+1) 0],az (S i.2.1) (nx+1) (.ra (enc (D.int .i64) (jW i.1)) i.2.2),nx+2⟩)
  (fun i=>i.1.length+i.2.1.length=b.length/\(i.2.1++i.1.map (·.1)).Perm (b.map (·.1))) (fun i=>i.1.length) (b,[],none) ⟨aF,aF⟩ ?_ ?_
 ·dsimp only
  refine bA.bJ _ af af (hGS _ _ rfl) (fun j hj=> ?_) ?_
  ·by_cases e:j=nx+1
   ·exact oV
   ·rw[ae _ _ _ _ e,ae _ _ _ _ e]
    by_cases h:j<base
    ·rw[hS1 _ _ h];exact hI.eq j h
    ·rw[W2 _ _ (by omega)]
  ·exact dp
 rintro⟨rest,don,last⟩ ⟨hl,uy⟩
 dsimp only at hl uy|-
 refine kR ?_
 refine se (fun h0=> ?_) fun i v x hm=> ?_
 ·subst h0
  refine kR ?_
  refine hK don _ _ (by simpa using uy) af ⟨?_,af,fun id au=> ?_⟩ (fun id h1 h2=> ?_)
  ·exact(hGS _ _ rfl).mono af
  ·rw[ae _ _ _ _ (by omega),hS1 _ _ au]
  ·rw[ae _ _ _ _ (by omega),W2 _ _ h1]
 ·have hlen:(rest.eraseIdx i).length+1=rest.length:=by
   exact Su
  have aeu:=pF hm
  refine kR ?_
  refine nz (hR v don af _ _ ⟨?_,af,fun id au=> ?_⟩ _ _ fun o2 n2 m1 m2 m3=> ?_)
  ·exact((hGS _ _ rfl).mono af).az af rfl
  ·rw[ae _ _ _ _ (by omega),ae _ _ _ _ (by omega),hS1 _ _ au]
  refine kR ?_
  refine aj (rest.eraseIdx i,don++[v],some (.int .i64 v,x.d)) ⟨by dsimp only;simp;omega, ?_⟩ kC (bA.bJ _ (show nx<=nx+2 from af) af (hGS _ _ rfl) (fun j hj=> ?_) ?_)
  ·dsimp only
   refine List.Perm.trans ?_ uy
   rw[List.append_assoc]
   refine List.Perm.append_left _ ?_
   have:=aeu.map (fun p:Int×Tm=>p.1)
   simpa using this
  ·dsimp only
   have PE:j<nx+2:=hj
   by_cases e:j=nx+1
   ·subst e
    rw[ab,m3 _ (by omega) (by omega)]
    exact c6
   ·rw[ae _ _ _ _ e]
    by_cases h:j<base
    ·rw[hS1 _ _ h];exact m2.eq j h
    ·rw[W2 _ _ (by omega),m3 _ (by omega) (by omega),ae _ _ _ _ e,ae _ _ _ _ e,W2 _ _ (by omega)]
  ·exact dp
def Af(o:Nat->ad)(nx:Nat)(l:List Int):Nat->ad:=az (az o nx (.row [.osl (nx+3) l.length])) (nx+3) (.arr l.length 3 1 (l.map .i))
theorem CU{b:List (Int×Tm)}(hb:b.length<=1000){p m:Nat}(o:Nat->ad)(nx:Nat)(hg:Good o nx)(hp:o p= .row [.mp m])(hm:o m= .bU (enc (D.int .i64) (jW b)))(K X:V->(Nat->ad)->Nat->Prop)
 (hK:∀ (l:List Int) (o':Nat->ad) (nx' id ep:Nat),l.Perm (b.map (·.1))->nx<=nx'->nx<=id->Good o' nx'->(∀j,j<nx->o' j=o j)->o' id= .arr ep 3 1 (l.map .i)->K (.osl id ep) o' nx'):
 cI Tryz.prog 161 [.aJ, .func (.func 136) [] [.ptr p 0]] o nx K X:=by
 refine cI.aI mix QZ aF ?_
 rw[Uq]
 refine kR ?_
 have hlp:p<nx:=hg.lt (by rw[hp];exact ad.noConfusion)
 have hlm:m<nx:=hg.lt EU
 have hG:∀l,Good (Af o nx l) (nx+4):=fun l=>by
  unfold Af
  refine Good.az (Good.az (hg.mono af) af ?_) af rfl
  exact pQ
 refine NL (s':=⟨aX [.aa, .aa, .ptr nx 0, .aa, .aa, .aa, .func (.func 136) [] [.ptr p 0]],Af o nx [],nx+4⟩) (bA.ou (fun _=>False) .aJ (nx+3) _ af (fun j hj=> ?_) (by unfold Af;(repeat(first|rfl|rw[ab]|rw[ae _ _ _ _ (by omega)]))) (.inl ⟨rfl,rfl,bV⟩) (fun j hj=> ?_) (fun _ h=>h.elim) ?_) ?_
 ·unfold Af
  by_cases e:j=nx
  ·subst e
   rw[ab,ae _ _ _ _ (by omega),ab]
   exact kS rfl (rm 0 rfl rfl rfl kT)
  ·rw[ae _ _ _ _ e,ae _ _ _ _ (by omega),ae _ _ _ _ e]
   exact a7 rfl (fun r hr=>by have:=hg.refs j r hr;omega)
 ·unfold Af
  rw[ae _ _ _ _ (by omega),ae _ _ _ _ (by omega)]
  exact hg.fresh j af
 ·exact mE
 ·show tM _ _ _ _ _ _ _ _ _ _ (.func (.func 136) [] [.ptr p 0])
  refine D8 [.aa, .aa, .ptr nx 0] IW (fun L hL=> ?_)
  obtain⟨H,rn,Eb,Rn⟩:∃H:List Int->Nat->ad,(∀l id,id<nx+4->H l id=Af o nx l id)/\(∀l,H l (nx+4)=L .ready none)/\∀l id,nx+5<=id->H l id= .no:=
   ⟨fun l id=>if id<nx+4 then Af o nx l id else if id=nx+4 then L .ready none else .no,fun l id h=>if_pos h,fun l=>aF,fun l id h=>by dsimp only;rw[if_neg (by omega),if_neg (by omega)]⟩
  have xa:∀st pd M,nx<M->(L st pd).refs.all (fun r=>decide (r<M))=true:=fun st pd M hM=>by
   rw[hL.refs,List.all_eq_true]
   intro r hr
   simp[V.aQ,V.refs]at hr
   exact decide_eq_true af
  have aP:∀l,Af o nx l p= .row [.mp m]:=fun l=>by unfold Af;(repeat(first|rfl|rw[ab]|rw[ae _ _ _ _ (by omega)]));exact hp
  have aM:∀l,Af o nx l m= .bU (enc (D.int .i64) (jW b)):=fun l=>by unfold Af;(repeat(first|rfl|rw[ab]|rw[ae _ _ _ _ (by omega)]));exact hm
  have a0:∀l,Af o nx l nx= .row [.osl (nx+3) l.length]:=fun l=>by unfold Af;(repeat(first|rfl|rw[ab]|rw[ae _ _ _ _ (by omega)]))
  have a3:∀l,Af o nx l (nx+3)= .arr l.length 3 1 (l.map .i):=fun l=>by unfold Af;(repeat(first|rfl|rw[ab]|rw[ae _ _ _ _ (by omega)]))
  refine Oo (b:=b) (nx+5) (nx+4) p m H af af af (fun l=>by rw[rn _ _ (by omega)];exact aP l) (fun l=>by rw[rn _ _ (by omega)];exact aM l) (fun l id au r hr=> ?_) (fun x l b8=> ?_) _ _ ⟨?_,af,fun id au=> ?_⟩ _ _ (fun l o' nx' h1 h2 h3 h4=> ?_)
  ·by_cases e:id=nx+4
   ·subst e
    rw[Eb]at hr
    have:=List.all_eq_true.1 (xa .ready none (nx+5) af) r hr
    simpa using this
   ·rw[rn _ _ (by omega)]at hr
    have:=(hG l).refs id r hr
    omega
  ·intro o3 n3 hI K X hK
   have hle:=hI.le
   have hg3:=hI.cm
   have Mk:o3 (nx+4)=L .ready none:=by rw[hI.eq _ (by omega),Eb]
   have q0:o3 nx= .row [.osl (nx+3) l.length]:=by rw[hI.eq _ (by omega),rn _ _ (by omega),a0]
   have q3:o3 (nx+3)= .arr l.length 3 1 (l.map .i):=by rw[hI.eq _ (by omega),rn _ _ (by omega),a3]
   have fL:l.length<=140737488355327/\(l.length+1)*8<=140737488355328:=af
   have y1:nx≠n3:=af
   have y2:∀k,nx≠n3+k:=fun k=>af
   have y3:nx+3≠n3:=af
   have y4:∀k,nx+3≠n3+k:=fun k=>af
   refine vH hL mix Mk af bV rfl ?_
   simp only[pq]
   refine bW ?_
   refine nA hL (pd:=none) ?_ ?_
   ·(repeat(first|rfl|rw[ab]|rw[ae _ _ _ _ (by omega)]))
    exact Mk
   simp+contextual (disch:=first|omega|simp only[go_sem,false_implies]) only[go_sem,wrap64,if_pos,q0,q3,y1,y2,y3,y4,Nat.add_assoc,Nat.left_eq_add,Nat.add_eq_left,Nat.add_left_cancel_iff,List.length_map,fL]
   refine rY hL (st:= .busy) (pd:=none) c6 (hK _ _ af ⟨?_,af,fun id au=> ?_⟩ (fun id h1 h2=>by(repeat(first|rfl|rw[ab]|rw[ae _ _ _ _ (by omega)]))))
   ·refine Good.az (Good.az (Good.az (Good.az (Good.az (hg3.mono af) af (xa _ _ _ af)) af rfl) af rfl) af ?_) af (xa _ _ _ af)
    simp[ad.refs,V.aQ,V.refs]
    omega
   ·by_cases e:id=nx+4
    ·subst e;rw[ab,Eb]
    ·rw[ae _ _ _ _ e,rn _ _ (by omega)]
     unfold Af
     by_cases e0:id=nx
     ·subst e0;(repeat(first|rfl|rw[ab]|rw[ae _ _ _ _ (by omega)]));simp
     ·by_cases e3:id=nx+3
      ·subst e3;(repeat(first|rfl|rw[ab]|rw[ae _ _ _ _ (by omega)]));simp
      ·(repeat(first|rfl|rw[ab]|rw[ae _ _ _ _ (by omega)]))
       rw[hI.eq _ au,rn _ _ (by omega)]
       unfold Af
       exact c6
  ·exact(hG []).mono af |>.az af (xa _ _ _ af)
  ·by_cases e:id=nx+4
   ·subst e;rw[ab,Eb]
   ·rw[ae _ _ _ _ e,rn _ _ (by omega)]
  ·have Vy:=h3.le
   refine⟨.ready,none,by rw[h3.eq _ (by omega),Eb],(fun h=>by cases h), ?_⟩
   have q0:o' nx= .row [.osl (nx+3) l.length]:=by rw[h3.eq _ (by omega),rn _ _ (by omega),a0]
   have q3:o' (nx+3)= .arr l.length 3 1 (l.map .i):=by rw[h3.eq _ (by omega),rn _ _ (by omega),a3]
   simp only[qp]
   refine Mp q0 q3 ?_
   refine hK l _ _ (nx+3) l.length h1 ?_ af ?_ (fun j hj=> ?_) R3
   ·omega
   ·exact(h3.cm.mono af).az af (xa _ _ _ af)
   rw[ae _ _ _ _ (by omega),h3.eq _ (by omega),rn _ _ (by omega)]
   unfold Af
   exact c6
theorem EJ{l l':List Int}(h:l.Perm l'):cM l=cM l':=by
 have h1:(cM l).Perm (cM l'):=((List.mergeSort_perm _ _).trans h).trans (List.mergeSort_perm _ _).symm
 have hs:∀l:List Int,(cM l).Pairwise (fun a b=>a<=b):=fun l=>(List.pairwise_mergeSort (le:=fun a b:Int=>decide (a<=b)) (fun a b c h1 h2=>by simp at*;omega) (fun a b=>by simp;omega) l).imp fun h=>by simpa using h
 exact List.Perm.eq_of_pairwise (fun a b _ _ h1 h2=>Int.le_antisymm h1 h2) (hs l) (hs l') h1
theorem LP{b:List (Int×Tm)}(hb:b.length<=1000){p m:Nat}(o:Nat->ad)(nx:Nat)(hg:Good o nx)(hp:o p= .row [.mp m])(hm:o m= .bU (enc (D.int .i64) (jW b)))(K X:V->(Nat->ad)->Nat->Prop)
 (hK:∀ (o':Nat->ad) (nx' id ep:Nat),nx<=nx'->nx<=id->Good o' nx'->(∀j,j<nx->o' j=o j)->o' id= .arr ep 3 1 ((cM (b.map (·.1))).map .i)->K (.osl id ep) o' nx'):
 cI Tryz.prog 110 [.func (.func 136) [] [.ptr p 0]] o nx K X:=by
 refine cI.aI mix QE aF ?_
 rw[T6]
 refine kR ?_
 refine bz ?_
 refine cI.aI mix QN aF ?_
 rw[Uf]
 refine kR ?_
 refine bz (CU hb _ _ (hg.mono af) hp hm _ _ (fun l o' nx' id ep h1 h2 h3 h4 h5 h6=> ?_))
 have au:id<nx':=h4.lt (by rw[h6];exact ad.noConfusion)
 have w1:∀k,id≠nx'+k:=fun k=>af
 refine Mp h6 w1 ?_
 have hlen:l.length<=1000:=by have:=h1.length_eq;rw[List.length_map]at this;omega
 have hs:cM l=cM (b.map (·.1)):=EJ h1
 refine dD (K2 Cr HZ (zs:=l) h6 H3 af ?_)
 refine kR ?_
 refine hK _ _ id ep ?_ af ?_ (fun j hj=> ?_) (by(repeat(first|rfl|rw[ab]|rw[ae _ _ _ _ (by omega)]));rw[hs])
 ·omega
 ·exact(h4.mono af).az af rfl
 ·rw[ae _ _ _ _ (by omega),h5 j (by omega)]
end Go.Proofs.YtlhemmpklhhgoaaGreat
