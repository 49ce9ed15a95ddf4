/-
  A PART OF THE PROOF. Conditions: none.
-/
import Derived.Test.YtlhemmpklhhgoaaGreatQa18
set_option linter.unusedSimpArgs false
set_option linter.unusedVariables false
namespace Go.Proofs.YtlhemmpklhhgoaaGreat
theorem DZ(n low high:Int):aV Tryz.prog 77 [.i n, .i low, .i high] (.ret [.bool (dF n low high)]):=by
 refine aV.aJ mix aco aG ?_
 rw[c77]
 refine cn ?_
 rfl
theorem iZ(s:aB)(hs:s.Fits)(t:Tm)(ht:t.fits):aV Tryz.prog 39 [s.d,t.d] (.ret [.bool (ew s t&&dR t)]):=by
 refine aV.aJ mix ab1 aG ?_
 rw[c39]
 refine bJ ?_
 refine aj (JL s hs t ht) rfl ?_
 cases h:ew s t with
 |false=>exact l6
 |true=>
  refine bJ ?_
  refine aj (MA t ht) rfl ?_
  exact l6
theorem o8{s:aB}(h:lH s=true)(t:Tm):br s t=(ew s t&&dR t):=by
 unfold br iH
 rw[h]
 simp only[List.all_cons,List.all_nil,Bool.and_true,Bool.true_and,oV]
 cases h1:ew s t with
 |false=>rfl
 |true=>rw[nG h1]
theorem kT(l:List TB)(n:Int)(hl:l.length<=1000000):aV Tryz.prog 116 [.sl (l.map TB.d), .i n] (.ret [.i (findF l n)]):=by
 refine aV.aJ mix YZ aG ?_
 rw[YY]
 refine bJ ?_
 refine aF (fun k:Nat=>⟨bf [.d (.sl (l.map TB.d)), .d (.i n), .ab, .ab, .ab, .d (.i k)],fun _=> .no,0⟩)
  (fun k=>k<=l.length/\∀j x,j<k->l[j]? =some x->x.var≠n) (fun k=>l.length - k) 0 ⟨Nat.zero_le _,fun _ _ h=>absurd h ae⟩ (bM.d0 _ ?_) (fun k hk=> ?_)
 ·exact dU
 refine zR ?_
 refine au (fun h2=> ?_) (fun h2=> ?_)
 ·simp at h2
  obtain⟨x,hx⟩:=aD h2
  refine rT hx ?_
  refine au (fun h3=> ?_) (fun h3=> ?_)
  ·have lT:x.var=n:=by simpa using h3
   have:findF l n=k:=by
    have:l.findIdx? (·.var==n)=some k:=by
     rw[List.findIdx?_eq_some_iff_getElem]
     obtain⟨LI,e⟩:=List.getElem?_eq_some_iff.1 hx
     refine⟨LI,by rw[e];simpa using lT,fun j hj=> ?_⟩
     have:=hk.2 j _ hj (List.getElem?_eq_getElem ae)
     simpa using this
    rw[findF,this]
   rw[this]
   exact l6
  ·have lT:x.var≠n:=by simpa using h3
   refine bJ ?_
   refine aq (k+1) ⟨h2,fun j y hj hy=> ?_⟩ ae (bM.d0 _ ?_)
   ·by_cases e:j=k
    ·subst e;rw[hx]at hy;injection hy with hy;rw[<- hy];exact lT
    ·exact hk.2 j y ae hy
   ·exact dU
 ·simp at h2
  have:findF l n= -1:=by
   have:l.findIdx? (·.var==n)=none:=by
    rw[List.findIdx?_eq_none_iff]
    intro x hx
    obtain⟨j,hj,e⟩:=List.getElem_of_mem hx
    have:=hk.2 j x ae (by rw[List.getElem?_eq_getElem hj,e])
    simpa using this
   rw[findF,this]
  rw[this]
  exact l6
theorem FF(l:List Int)(n:Int)(hl:l.length<=1000000):aV Tryz.prog 142 [.sl (l.map .i), .i n] (.ret [.bool (l.contains n)]):=by
 refine aV.aJ mix Zn aG ?_
 rw[Zm]
 refine bJ ?_
 refine aF (fun k:Nat=>⟨bf [.d (.sl (l.map .i)), .d (.i n), .ab, .ab, .ab, .d (.i k)],fun _=> .no,0⟩)
  (fun k=>k<=l.length/\(l.take k).contains n=false) (fun k=>l.length - k) 0 ⟨Nat.zero_le _,aG⟩ (bM.d0 _ ?_) (fun k hk=> ?_)
 ·exact dU
 refine bJ ?_
 refine au (fun h2=> ?_) (fun h2=> ?_)
 ·simp at h2
  obtain⟨x,hx⟩:=aD h2
  refine pk hx ?_
  refine au (fun h3=> ?_) (fun h3=> ?_)
  ·refine bJ ?_
   have:l.contains n=true:=by
    rw[List.contains_iff_mem, <- (by simpa using h3:x=n)];exact List.mem_of_getElem? hx
   rw[this]
  ·refine bJ ?_
   refine aq (k+1) ⟨h2, ?_⟩ ae (bM.d0 _ ?_)
   ·have h4: ¬n=x:=fun e=>by subst e;simp at h3
    have h5:=hk.2
    rw[List.take_add_one,hx]
    rw[Bool.eq_false_iff]at h5|-
    intro hc;apply h5
    rw[List.contains_iff_mem]at hc|-
    rcases List.mem_append.1 hc with hc|hc
    ·exact hc
    ·simp at hc;exact absurd hc h4
   ·exact dU
 ·simp at h2
  refine bJ ?_
  have:=hk.2
  rw[List.take_of_length_le (by omega)]at this
  rw[this]
def Qf(o:Nat->aa)(nx:Nat)(l:List Int):Nat->aa:=aA o nx (.arr 0 3 1 (l.map D.i))
theorem ilH_0(o:Nat->aa)(nx:Nat)(l:List Int):Qf o nx l nx= .arr 0 3 1 (l.map D.i):=by unfold Qf;rw[ad]
theorem rN(o:Nat->aa)(nx:Nat)(l:List Int){j:Nat}(h:j≠nx):Qf o nx l j=o j:=by unfold Qf;rw[ag _ _ _ _ h]
theorem rO{o:Nat->aa}{nx b:Nat}(Ry:Good o nx)(hb:b<=nx){e:Nat->V}{so:Nat->aa}{m:Nat}(L:List V)(l:List Int){x:V}(gone:Nat->Prop)(Bv:∀id,gone id->id<nx->o id= .no)
 (gx:js so gone 3 1 (l.map D.i) x) (sr:∀j,j<nx->so j=o j\/o j= .no) (he:kx nx [⟨x,3,1,l.map D.i⟩] so gone e L 0):bM b ⟨e,so,m⟩ ⟨bf L,Qf o nx l,nx+1⟩:=by
 refine bM.My gone x nx L hb (fun j hj=> ?_) (ilH_0 o nx l) gx (fun j hj=> ?_) (fun j h1 h2=>by rw[rN _ _ _ (by omega)];exact Bv j h1 h2) he
 ·rw[rN _ _ _ (by omega)]
  rcases sr j hj with h|h
  ·exact eQ h (fun r hr=>Ry.refs j r hr)
  ·rw[h];exact nD
 ·rw[rN _ _ _ (by omega)]
  exact Ry.fresh j ae
def IsL(o:Nat->aa)(x:V)(l:List Int):Prop:=(x= .aM/\l=[])\/∃id ep,x= .osl id ep/\o id= .arr ep 3 1 (l.map D.i)
theorem KG:∀ (more l:List Int),(oZ l more).length<=l.length+more.length
 |[],l=>by simp[oZ]
 |u::more,l=>by
  have h1:(dT l u).length<=l.length+1:=by
   unfold dT
   split
   ·omega
   ·rw[List.length_append,List.length_singleton];omega
  have h2:=KG more (dT l u)
  show(oZ (dT l u) more).length<=_
  rw[List.length_cons];omega
theorem IsL.Qg {o:Nat->aa}{x:V}{l:List Int}(h:IsL o x l):js o (fun _=>True) 3 1 (l.map D.i) x:=by
 rcases h with⟨rfl,rfl⟩|⟨id,ep,rfl,ho⟩
 ·exact .inl ⟨rfl,rfl,cE⟩
 ·exact .inr ⟨id,ep,trivial,rfl,ho⟩
theorem KH(l more:List Int)(hl:l.length<=100000)(hm:more.length<=100000){x:V}{o:Nat->aa}{nx:Nat}(hg:Good o nx)(hx:IsL o x l){K X:V->(Nat->aa)->Nat->Prop}
 (hK:∀y o' nx',nx<=nx'->Good o' nx'->(∀j,j<nx->(∀ep,x≠ .osl j ep)->o' j=o j)->IsL o' y (oZ l more)->K y o' nx'):cO Tryz.prog 140 [x, .d (.sl (more.map D.i))] o nx K X:=by
 refine cO.aJ mix Zj aG ?_
 rw[Zi]
 refine ma ?_
 obtain⟨o0,gone,c1,c2,c3,c4,c5⟩:∃ (o0:Nat->aa) (gone:Nat->Prop),Good o0 nx/\(∀j,j<nx->o j=o0 j\/o0 j= .no)/\(∀id,gone id->id<nx->o0 id= .no)/\js o gone 3 1 (l.map D.i) x/\(∀j,j<nx->(∀ep,x≠ .osl j ep)->o0 j=o j):=by
  rcases hx with⟨rfl,rfl⟩|⟨id,ep,rfl,ho⟩
  ·exact⟨o,fun _=>False,hg,fun j _=> .inl rfl,fun _ h=>h.elim, .inl ⟨rfl,rfl,cE⟩,fun j _ _=>rfl⟩
  ·have aw:id<nx:=hg.lt (by rw[ho];exact aa.noConfusion)
   refine⟨aA o id .no,(· =id),hg.aA aw rfl,fun j hj=> ?_,fun j e _=>by rw[e,ad], .inr ⟨id,ep,rfl,rfl,ho⟩,fun j hj j8=> ?_⟩
   ·by_cases e:j=id
    ·subst e;rw[ad];exact .inr rfl
    ·rw[ag _ _ _ _ e];exact .inl rfl
   ·by_cases e:j=id
    ·subst e;exact absurd rfl (j8 ep)
    ·rw[ag _ _ _ _ e]
 refine aF (fun k:Nat=>⟨bf [.osl nx 0, .d (.sl (more.map D.i)), .ab, .ab, .ab, .d (.i k)],Qf o0 nx (oZ l (more.take k)),nx+1⟩)
  (fun k=>k<=more.length) (fun k=>more.length - k) 0 (Nat.zero_le _) (rO c1 (Nat.le_refl _) _ (oZ l []) gone c3 c4 c2 ?_) (fun k hk=> ?_)
 ·exact CA
 replace hk:k<=more.length:=hk
 have q0:=ilH_0 o0 nx (oZ l (more.take k))
 have hlen:=KG (more.take k) l
 rw[List.length_take]at hlen
 refine Vl q0 ?_
 refine au (fun h2=> ?_) (fun h2=> ?_)
 ·replace h2:k<more.length:=by simp at h2;omega
  obtain⟨v,hv⟩:=aD h2
  have zO:oZ l (more.take (k+1))=dT (oZ l (more.take k)) v:=by unfold oZ;rw[List.take_add_one,hv,List.foldl_append];rfl
  simp+contextual (disch:=first|omega|simp only[go_sem,false_implies]) only[go_sem,wrap64,if_pos,q0,hv,List.length_map,Nat.add_assoc,Nat.left_eq_add,Nat.add_eq_left,Nat.add_left_cancel_iff]
  refine aj (FF (oZ l (more.take k)) v ae) rfl ?_
  cases hc:(oZ l (more.take k)).contains v with
  |true=>
   have e1:dT (oZ l (more.take k)) v=oZ l (more.take k):=by unfold dT;rw[if_pos hc]
   refine Vl q0 ?_
   refine aq (k+1) h2 ae ?_
   rw[zO,e1]
   refine rO c1 (Nat.le_refl _) _ _ (fun id=>nx<=id) (fun id h1 h2=>ae) (x:= .osl nx 0) (.inr ⟨nx,0,Nat.le_refl _,rfl,q0⟩) (fun j hj=> .inl (by rw[rN _ _ _ (by omega)])) ?_
   exact CA
  |false=>
   have e1:dT (oZ l (more.take k)) v=oZ l (more.take k)++[v]:=by unfold dT;rw[if_neg (by rw[hc];exact Bool.false_ne_true)]
   have j9:(oZ l (more.take k)).length<=140737488355327/\((oZ l (more.take k)).length+1)*8<=140737488355328:=ae
   simp+contextual (disch:=first|omega|simp only[go_sem,false_implies]) only[go_sem,wrap64,if_pos,q0,hv,List.length_map,if_pos j9,Nat.add_assoc,Nat.left_eq_add,Nat.add_eq_left,Nat.add_left_cancel_iff]
   refine aq (k+1) h2 ae ?_
   rw[zO,e1]
   refine rO c1 (Nat.le_refl _) _ _ (fun id=>nx<=id) (fun id h1 h2=>ae) (x:= .osl nx 1) (.inr ⟨nx,1,Nat.le_refl _,rfl,by(repeat(first|rfl|rw[ad]|rw[ag _ _ _ _ (by omega)]));rw[List.map_append];rfl⟩) (fun j hj=> .inl (by(repeat(first|rfl|rw[ad]|rw[ag _ _ _ _ (by omega)]));rw[rN _ _ _ (by omega)])) ?_
   exact CA
 ·replace h2:k=more.length:=by simp at h2;omega
  subst h2
  rw[List.take_length]at q0|-
  refine HC q0 ?_
  refine hK _ _ _ ?_ ?_ (fun j hj j8=> ?_) (.inr ⟨nx,0,rfl,q0⟩)
  ·omega
  ·unfold Qf;exact(c1.mono ae).aA ae rfl
  ·rw[rN _ _ _ (by omega)];exact c5 j hj j8
theorem MW.done {s:aB}{b:List (Int×Tm)}{t:Tm}{all:List Int}(h:MW s b t all.length all)(n:Int):n∈all↔lY b n t:=by
 refine⟨fun hn=>h.snd n hn,fun hr=> ?_⟩
 have key:∀x,lY b n x->(∀v,fU v x=true->v∈all)->n∈all:=by
  intro x hr
  induction hr with
  |here h1=>exact fun hs=>hs _ h1
  |step h1 h2 _ ih=>
   intro hs
   refine ih fun u hu=> ?_
   obtain⟨j,hj⟩:=List.mem_iff_getElem?.1 (hs _ h1)
   exact h.cl j (List.getElem?_eq_some_iff.1 hj).1 _ _ hj h2 u hu
 exact key t hr h.fst
theorem vo{s:aB}{l:List TB}(hl:l.length<=1000)(hb:∀p∈ah l,Vs s p.2)(hf:∀p∈ah l,p.2.zQ)(n:Int)(t:Tm)(ht:Vs s t)(TG:t.zQ){is:Bool}(zo:is=true↔lY (ah l) n t):
 aV Tryz.prog 117 [.sl (l.map TB.d),t.d, .i n] (.ret [.bool is]):=by
 have aaw:∀t,Vs s t->(cA t).length<=100000:=fun t ht=>by
  have hv:=dm t
  have:(cA t).length<=20:=DM (G4 hv.1) fun v h=>ht.range ((hv.2 v).1 h)
  omega
 refine aV.aJ mix Y1 aG ?_
 rw[Y0]
 refine bJ ?_
 refine ba (Cd t ht TG) ?_
 refine bJ ?_
 refine cz (KH [] (cA t) aG (aaw t ht) dt (.inl ⟨rfl,rfl⟩) (fun y o' nx' w1 w2 w3 w4=> ?_))
 refine bJ ?_
 refine aF (fun i:Nat×List Int=>⟨bf [.d (.sl (l.map TB.d)), .ab, .d (.i n), .ab, .ab, .ab, .ab, .osl 0 0, .d (.i i.1)],Qf (fun _=> .no) 0 i.2,0+1⟩)
  (fun i=>MW s (ah l) t i.1 i.2) (fun i=>21 - i.1) (0,oZ [] (cA t)) (MW.zero ht) (rO Good.nil (Nat.le_refl _) _ _ (fun _=>True) (fun id _ h=>absurd h ae) w4.Qg (fun j hj=>absurd hj ae) ?_) ?_
 ·exact CA
 rintro⟨i,all⟩ hI
 dsimp only at hI|-
 have q0:=ilH_0 (fun _=> .no) 0 all
 have h20:=DM hI.nd hI.rg
 have hle:=hI.le
 refine rT q0 ?_
 refine au (fun h2=> ?_) (fun h2=> ?_)
 ·replace h2:i<all.length:=by simp at h2;omega
  obtain⟨v,hv⟩:=aD h2
  refine zS q0 hv ?_
  refine aj (kT l v ae) rfl ?_
  have iI:=hI.succ hb hv
  rcases tp l v with⟨g1,g2⟩|⟨k,x,g1,g2,g3⟩
  ·have Cv:decide (findF l v≥0)=false:=by simp;omega
   have e1:J8 (ah l) all v=all:=by unfold J8;rw[g2]
   rw[e1]at iI
   refine zS q0 Cv ?_
   refine aq (i+1,all) iI pt (rO Good.nil (Nat.le_refl _) _ _ (fun _=>True) (fun id _ h=>absurd h ae) (x:= .osl 0 0) (.inr ⟨0,0,trivial,rfl,q0⟩) (fun j hj=>absurd hj ae) ?_)
   exact CA
  ·have Cv:decide (((k:Nat):Int)≥0)=true:=aG
   have e1:J8 (ah l) all v=oZ all (cA x.term):=by unfold J8;rw[g3]
   rw[e1]at iI
   have cL:=gY (List.mem_of_getElem? g2)
   refine HH q0 g1 Cv g2 ?_
   refine ba (Cd x.term (hb _ cL) (hf _ cL)) ?_
   refine rT q0 ?_
   refine cz (KH all (cA x.term) ae (aaw _ (hb _ cL)) (Good.aA Good.nil ae rfl) (.inr ⟨0,0,rfl,q0⟩) (fun y o2 nx2 u1 u2 u3 u4=> ?_))
   refine bJ ?_
   refine aq (i+1,oZ all (cA x.term)) iI pt (rO Good.nil (Nat.le_refl _) _ _ (fun _=>True) (fun id _ h=>absurd h ae) u4.Qg (fun j hj=>absurd hj ae) ?_)
   exact CA
 ·replace h2:i=all.length:=by simp at h2;omega
  subst h2
  have:is=all.contains n:=by rw[Bool.eq_iff_iff,zo,List.contains_iff_mem];exact(hI.done n).symm
  refine rT q0 ?_
  refine aj (FF all n ae) rfl ?_
  rw[this]
  exact l6
def Nc:IC:=Mw.snd.snd
theorem D0{l:List TB}{F:Tm->Int->Option Int}{x:Tm}(hx:x.fits){n:Int}{d:Nat}{r:Int}(hn:0<=n/\n<=1000)(hd:d<=1000)(hF:∀k m q,0<=m->F k m=some q-> -1<=q/\q<=m)
 (ih:∀k∈x.kids,∀m q d',d=d'+1->0<=m/\m<=1000->F k m=some q->aV Tryz.prog 143 [.sl (l.map TB.d),k.d, .i m, .i d'] (.ret [.i q]))
 (h:(match d with|0=>some (-1)|_+1=>xH F x.kids (n - 1))=some r) {e:Nat->V} {o:Nat->aa} {nx:Nat} (hg:Good o nx) (e0:e 0= .d (.sl (l.map TB.d))) (e2:e 2= .d (.i n)) (e3:e 3= .d (.i d)) (e5:e 5= .ptr 0 0) (ho:o 0= .row x.row) (h1:1<=nx):
 kq Tryz.prog 55 0 false Nc (yl Tryz.prog [.tmp 8] (.ret [.i r])) ⟨e,o,nx⟩:=by
 have Hc:=(Tm.bF x).1 hx
 simp only[Nc,Mw,IC.snd]
 cases d with
 |zero=>
  cases h
  simp+contextual (disch:=first|omega|simp only[go_sem,false_implies]) only[go_sem,wrap64,if_pos,e0,e2,e3,e5,ho]
 |succ d=>
  dsimp only at h
  have LS:(((d+1:Nat):Int)==0)=false:=by rw[beq_eq_false_iff_ne];omega
  refine FL e0 e2 e3 e5 ho LS ?_
  refine aF (fun i:Nat×Int=>⟨bf [.d (.sl (l.map TB.d)), .ab, .d (.i i.2), .d (.i (d+1:Nat)), .ab, .ptr 0 0, .ab, .ab, .ab, .ab, .d (.i i.1)],aA (fun _=> .no) 0 (.row x.row),1⟩)
   (fun i=>i.1<=x.kids.length/\xH F (x.kids.drop i.1) i.2=some r/\ -1<=i.2/\i.2<=1000) (fun i=>x.kids.length - i.1) (0,n - 1) ⟨Nat.zero_le _,h,by dsimp only;omega,by dsimp only;omega⟩ (bM.bH _ ae ae (Good.aA Good.nil ae rfl) (fun j hj=> ?_) ?_) ?_
  ·have hj:j<1:=hj
   have:j=0:=ae
   subst this
   rw[ad];exact ho
  ·exact nk (by(repeat(first|rfl|rw[ad]|rw[ag _ _ _ _ (by omega)]));exact e0) (fC (nk rfl (nk (by(repeat(first|rfl|rw[ad]|rw[ag _ _ _ _ (by omega)]));exact e3) (fC (D5 (by(repeat(first|rfl|rw[ad]|rw[ag _ _ _ _ (by omega)]));exact e5) xR (fC (fC (fC (fC (nk rfl wh))))))))))
  rintro⟨k,m⟩ ⟨hk,hl,Hv,K5⟩
  simp only at hk hl Hv K5
  by_cases h2:k<x.kids.length
  ·have iK:decide ((k:Int)<(x.kids.length:Int))=true:=by simp;omega
   obtain⟨y,hy⟩:=aD h2
   have MB:=List.mem_of_getElem? hy
   have Ke:x.kids.drop k=y::x.kids.drop (k+1):=by
    obtain⟨i1,i2⟩:=List.getElem?_eq_some_iff.1 hy
    exact zU
   rw[Ke]at hl
   simp only[xH]at hl
   by_cases h0:m<0
   ·have tU:decide (m≥0)=false:=by simp;omega
    rw[if_pos h0]at hl
    cases hl
    exact Qu hy iK tU
   ·have tU:decide (m≥0)=true:=by simp;omega
    rw[if_neg h0]at hl
    cases e:F y m with
    |none=>rw[e]at hl;cases hl
    |some q=>
    rw[e]at hl
    have hq:=hF y m q ae e
    refine Ld hy iK tU ?_
    rw[show(((d+1:Nat):Int) - 1)=((d:Nat):Int) by omega]
    refine aj (ih y MB m q d rfl ae e) rfl ?_
    refine bJ ?_
    refine aq (k+1,q) ⟨h2,hl,by dsimp only;omega,by dsimp only;omega⟩ pt (bM.bH _ ae ae (Good.aA Good.nil ae rfl) (fun j hj=>rfl) ?_)
    exact dU
  ·have iK:decide ((k:Int)<(x.kids.length:Int))=false:=by simp;omega
   have:k=x.kids.length:=ae
   subst this
   rw[List.drop_length]at hl
   cases hl
   exact Le iK
theorem vq{l:List TB}(hl:l.length<=1000)(nh:∀p∈ah l,p.2.fits):∀ (f:Nat) (t:Tm) (n:Int) (d:Nat) (r:Int),t.fits->0<=n/\n<=1000->d<=1000->o6 f (ah l) t n d=some r->
 aV Tryz.prog 143 [.sl (l.map TB.d),t.d, .i n, .i d] (.ret [.i r])
 |0,_,_,_,_,_,_,_,h=>by cases h
 |f+1,t,n,d,r,ht,hn,hd,h=>by
  simp only[o6]at h
  cases ha:jG f (ah l) t with
  |none=>rw[ha]at h;cases h
  |some x=>
  rw[ha]at h
  dsimp only at h
  have Hc:=qA nh f t x ht ha
  have acK:∀ (d':Nat) (k:Tm) (m q:Int),0<=m->o6 f (ah l) k m d'=some q-> -1<=q/\q<=m:=fun d' k m q=>zk f k m d' q
  have rest:∀ {e:Nat->V} {o:Nat->aa} {nx:Nat},Good o nx->e 0= .d (.sl (l.map TB.d))->e 2= .d (.i n)->e 3= .d (.i d)->e 5= .ptr 0 0->o 0= .row x.row->1<=nx->kq Tryz.prog 55 0 false Nc (yl Tryz.prog [.tmp 8] (.ret [.i r])) ⟨e,o,nx⟩:=by
   intro e o nx hg e0 e2 e3 e5 ho h1
   refine D0 (F:=fun k m=>o6 f (ah l) k m (d - 1)) Hc hn hd (fun k m q h1 h2=>acK _ k m q h1 h2) (fun k hk m q d' he hm hF=> ?_) ?_ hg e0 e2 e3 e5 ho h1
   ·subst he
    exact vq hl nh f k m d' q ((Tm.bF x).1 Hc |>.2 k hk) hm ae hF
   ·cases d with
    |zero=>exact h
    |succ d=>exact h
  have chain:∀ (g:Nat) (t:Tm),t.fits->jG g (ah l) t=some x->aV Tryz.prog 143 [.sl (l.map TB.d),t.d, .i n, .i d] (.ret [.i r]):=by
   intro g
   induction g with
   |zero=>intro t _ h;cases h
   |succ g ihg=>
    intro t ht Hu
    simp only[jG]at Hu
    refine aV.aJ mix Zo aG ?_
    rw[Mw]
    show kq _ _ _ _ (.seq _ (.seq _ Nc)) _ _
    by_cases h1:t.op=1
    ·have eM:(t.op==1)=true:=by simpa using h1
     rw[if_pos h1]at Hu
     refine pk eM ?_
     refine aj (kT l t.n ae) rfl ?_
     rcases tp l t.n with⟨g1,g2⟩|⟨k,y,g1,g2,g3⟩
     ·have Cv:decide (findF l t.n≥0)=false:=by simp;omega
      rw[g2]at Hu
      cases Hu
      refine pk Cv ?_
      exact rest dt rfl rfl rfl rfl rfl ae
     ·have Cv:decide (((k:Nat):Int)≥0)=true:=aG
      rw[g3]at Hu
      refine Ld g1 Cv g2 ?_
      refine aj (ihg y.term (nh _ (gY (List.mem_of_getElem? g2))) Hu) rfl ?_
      exact l6
    ·have eM:(t.op==1)=false:=by simpa using h1
     rw[if_neg h1]at Hu
     cases Hu
     refine pk eM ?_
     exact rest dt rfl rfl rfl rfl rfl ae
  exact chain f t ht ha
theorem sG{l:List TB}(hl:l.length<=1000)(nh:∀p∈ah l,p.2.fits)(hle:∀p∈ah l,∃f r,o6 f (ah l) p.2 40 12=some r){ok:Bool}(aS:ok=true↔∀x∈l,sX (ah l) x.term):
 aV Tryz.prog 118 [.sl (l.map TB.d)] (.ret [.bool ok]):=by
 refine aV.aJ mix Y3 aG ?_
 rw[Y2]
 refine bJ ?_
 refine aF (fun k:Nat=>⟨bf [.d (.sl (l.map TB.d)), .ab, .ab, .d (.i k)],fun _=> .no,0⟩)
  (fun k=>k<=l.length/\∀x∈l.take k,sX (ah l) x.term) (fun k=>l.length - k) 0 ⟨Nat.zero_le _,fun x hx=>by simp at hx⟩ (bM.d0 _ ?_) (fun k hk=> ?_)
 ·exact dU
 obtain⟨hk,ho⟩:=hk
 refine zR ?_
 refine au (fun h2=> ?_) (fun h2=> ?_)
 ·replace h2:k<l.length:=by simp at h2;omega
  obtain⟨x,hx⟩:=aD h2
  have cL:=List.mem_of_getElem? hx
  obtain⟨f,r,hf⟩:=hle _ (gY cL)
  have cD:=Fq hf
  refine rT hx ?_
  refine aj (vq hl nh f x.term 40 12 r (nh _ (gY cL)) ae ae hf) rfl ?_
  by_cases h0:r<0
  ·have tU:decide (r<0)=true:=decide_eq_true h0
   have:ok=false:=by
    cases ok with
    |false=>rfl
    |true=>have:=cD.1 (aS.1 rfl x cL);omega
   subst this
   exact Cy tU
  ·have tU:decide (r<0)=false:=decide_eq_false h0
   refine pk tU ?_
   refine aq (k+1) ⟨h2,fun y hy=> ?_⟩ ae (bM.d0 _ ?_)
   ·rw[List.take_add_one,hx]at hy
    rcases List.mem_append.1 hy with hy|hy
    ·exact ho y hy
    ·simp at hy
     subst hy
     exact cD.2 ae
   ·exact dU
 ·replace h2:k=l.length:=by simp at h2;omega
  subst h2
  rw[List.take_length]at ho
  have:ok=true:=aS.2 ho
  exact xS
theorem Nd{l:List TB}{i:Nat}{x:TB}(hx:l[i]? =some x):findF l x.var<(i:Int)↔x.var∈(ah (l.take i)).map (·.1):=by
 have e:(ah (l.take i)).map (·.1)=(l.take i).map (·.var):=by unfold ah;rw[List.map_map];rfl
 rw[e]
 obtain⟨hi,hxe⟩:=List.getElem?_eq_some_iff.1 hx
 unfold findF
 cases h:l.findIdx? (·.var==x.var)with
 |none=>
  rw[List.findIdx?_eq_none_iff]at h
  have:=h x (List.mem_of_getElem? hx)
  simp at this
 |some k=>
  rw[List.findIdx?_eq_some_iff_getElem]at h
  obtain⟨hk,h1,h2⟩:=h
  dsimp only
  constructor
  ·intro bW
   have bW:k<i:=ae
   refine List.mem_map.2 ⟨l[k], ?_,by simpa using h1⟩
   rw[List.mem_iff_getElem?]
   exact⟨k,by rw[List.getElem?_take,if_pos bW,List.getElem?_eq_getElem hk]⟩
  ·intro hm
   obtain⟨y,hy,hyv⟩:=List.mem_map.1 hm
   obtain⟨j,hj⟩:=List.mem_iff_getElem?.1 hy
   rw[List.getElem?_take]at hj
   split at hj
   ·rename_i hji
    obtain⟨hjl,Uc⟩:=List.getElem?_eq_some_iff.1 hj
    rcases Nat.lt_or_ge j k with Oc|Oc
    ·have:=h2 j Oc
     rw[Uc]at this
     simp[hyv]at this
    ·omega
   ·cases hj
theorem D1(s:aB)(hs:s.Fits)(BK:lH s=true)(l:List TB)(hl:l.length<=1000)(hlf:∀x∈l,x.term.fits){ok:Bool}(aS:ok=true↔kQ s l):
 aV Tryz.prog 76 [s.d, .sl (l.map TB.d)] (.ret [.bool ok]):=by
 have no: ¬kQ s l->ok=false:=fun h=>by
  cases ok with
  |false=>rfl
  |true=>exact absurd (aS.1 rfl) h
 refine aV.aJ mix acn aG ?_
 rw[c76]
 by_cases h20:20<l.length
 ·have TQ:decide ((l.length:Int)>20)=true:=by simp;omega
  have:=no fun h=>by have:=h.len;omega
  subst this
  exact Le TQ
 have TQ:decide ((l.length:Int)>20)=false:=by simp;omega
 refine rT TQ ?_
 refine aF (fun k:Nat=>⟨bf [.ab, .d (.sl (l.map TB.d)), .ptr 0 0, .ab, .ab, .d (.i k)],aA (fun _=> .no) 0 (.row [.d (.sl (s.cons.map jD.d)), .d (.sl (s.cC.map jD.d))]),1⟩)
  (fun k=>k<=l.length/\((ah (l.take k)).map (·.1)).Nodup/\∀x∈l.take k,(0<=x.var/\x.var<20)/\br s x.term=true) (fun k=>l.length - k) 0 ⟨Nat.zero_le _,List.nodup_nil,fun x hx=>by simp at hx⟩ (bM.bH _ ae ae dt (fun j hj=>rfl) ?_) (fun k hk=> ?_)
 ·exact dU
 obtain⟨hk,AL,ho⟩:=hk
 refine zR ?_
 refine au (fun h2=> ?_) (fun h2=> ?_)
 ·replace h2:k<l.length:=by simp at h2;omega
  obtain⟨x,hx⟩:=aD h2
  have cL:=List.mem_of_getElem? hx
  have zO:=Ca l hx
  refine rT hx ?_
  refine aX (DZ x.var 0 19) rfl ?_
  have Et:dF x.var 0 19=true↔0<=x.var/\x.var<20:=by unfold dF;simp;omega
  cases h6:dF x.var 0 19 with
  |false=>
   have:=no fun h=>by
    have:=Et.2 (h.ok x cL).1
    rw[h6]at this;cases this
   exact N2
  |true=>
   refine rT hx ?_
   refine aX (kT l x.var ae) rfl ?_
   have bW:=Nd hx
   cases h7:decide (findF l x.var<(k:Int))with
   |true=>
    have:=no fun h=>by
     have h8:=bW.1 (of_decide_eq_true h7)
     have h9:=h.keys.sublist (((List.take_sublist (k+1) l).map _).map _)
     have h9:((ah (l.take (k+1))).map (·.1)).Nodup:=h9
     rw[zO,List.map_append,List.nodup_append]at h9
     exact h9.2.2 x.var h8 x.var aG rfl
    subst this
    refine zS hx h7 ?_
    refine aL (bc rfl) ?_
    exact l6
   |false=>
    refine zS hx h7 ?_
    refine aX (iZ s hs x.term (hlf x cL)) rfl ?_
    have hve:=o8 BK x.term
    cases h8:(ew s x.term&&dR x.term)with
    |false=>
     have:=no fun h=>by
      have:=(h.ok x cL).2
      rw[hve,h8]at this;cases this
     exact N2
    |true=>
     refine rT hx ?_
     refine aL (bc rfl) ?_
     refine bJ ?_
     refine aq (k+1) ⟨h2, ?_,fun y hy=> ?_⟩ ae (bM.bH _ ae ae dt (fun j hj=>rfl) ?_)
     ·rw[zO,List.map_append,List.nodup_append]
      refine⟨AL,aG,fun a ha c hc e=> ?_⟩
      simp at hc
      rw[e,hc]at ha
      exact of_decide_eq_false h7 (bW.2 ha)
     ·rw[List.take_add_one,hx]at hy
      rcases List.mem_append.1 hy with hy|hy
      ·exact ho y hy
      ·simp at hy
       subst hy
       exact⟨Et.1 h6,by rw[hve,h8]⟩
     ·exact dU
 ·replace h2:k=l.length:=by simp at h2;omega
  subst h2
  rw[List.take_length]at AL ho
  have Ek:∀p∈ah l,Vs s p.2:=fun p hp=>by
   obtain⟨x,hx,rfl⟩:=dg hp
   exact(cV (ho x hx).2).1
  have nh:∀p∈ah l,p.2.zQ:=fun p hp=>by
   obtain⟨x,hx,rfl⟩:=dg hp
   exact Tm.DY _ (by have:=(cV (ho x hx).2).2.1;show x.term.sz<=1000;omega)
  refine bJ ?_
  refine aF (fun k:Nat=>⟨bf [.ab, .d (.sl (l.map TB.d)), .ab, .ab, .ab, .ab, .d (.i k)],fun _=> .no,0⟩)
   (fun k=>k<=l.length/\∀x∈l.take k, ¬lY (ah l) x.var x.term) (fun k=>l.length - k) 0 ⟨Nat.zero_le _,fun x hx=>by simp at hx⟩ (bM.d0 _ ?_) (fun k hk=> ?_)
  ·exact dU
  obtain⟨hk,hc⟩:=hk
  refine zR ?_
  refine au (fun h2=> ?_) (fun h2=> ?_)
  ·replace h2:k<l.length:=by simp at h2;omega
   obtain⟨x,hx⟩:=aD h2
   have cL:=List.mem_of_getElem? hx
   obtain⟨is,zo⟩:∃is:Bool,is=true↔lY (ah l) x.var x.term:=by
    classical
    exact⟨decide (lY (ah l) x.var x.term),aG⟩
   refine rT hx ?_
   refine aX (vo hl Ek nh x.var x.term (Ek _ (gY cL)) (nh _ (gY cL)) zo) rfl ?_
   cases is with
   |true=>
    have:=no fun h=>h.Ha x.var x.term ((m7 h.keys).2 (gY cL)) (zo.1 rfl)
    subst this
    exact Lp
   |false=>
    refine bJ ?_
    refine aL (bc rfl) ?_
    refine bJ ?_
    refine aq (k+1) ⟨h2,fun y hy=> ?_⟩ ae (bM.d0 _ ?_)
    ·rw[List.take_add_one,hx]at hy
     rcases List.mem_append.1 hy with hy|hy
     ·exact hc y hy
     ·simp at hy
      subst hy
      exact fun h=>Bool.false_ne_true (zo.2 h)
    ·exact dU
  ·replace h2:k=l.length:=by simp at h2;omega
   subst h2
   rw[List.take_length]at hc
   have KA:Tz (ah l):=fun v t ht=>by
    obtain⟨x,hx,e⟩:=dg (cB ht)
    cases e
    exact hc x hx
   obtain⟨l',ρ,R,hS,Ez⟩:=nJ AL ho KA
   have hle:∀p∈ah l,∃f r,o6 f (ah l) p.2 40 12=some r:=fun p hp=>by
    exact Ob
   refine bJ ?_
   refine aj (sG (ok:=ok) hl (fun p hp=>Tm.KF _ (nh p hp)) hle (aS.trans ⟨fun h=>h.Qe,fun h=>⟨ae,AL,ho,KA,h⟩⟩)) rfl ?_
   exact l6
theorem FG(gone:Nat->Prop)(x:V)(L:List V)(Bv:∀id,gone id->12<=id){op n:Int}{ks:List Tm}{k:Nat}{t:Tm}{e:Nat->V}{so:Nat->aa}{m:Nat}(gx:js so gone 33 3 ((ks.take k).map Tm.d) x)
 (s0:so 0= .row t.row) (s1:so 1= .row [.d (.i 0), .d (.i 0), .aM]) (s11:so 11= .row [.d (.i op), .d (.i n),x]) (he:kx 12 [⟨x,33,3,(ks.take k).map Tm.d⟩] so gone e L 0):bM 0 ⟨e,so,m⟩ ⟨bf L,aA (DP op n ks k) 0 (.row t.row),12+1⟩:=by
 refine bM.My gone x 12 L ae (fun j hj=> ?_) (by rw[ag _ _ _ _ (by omega)];exact fuH_12 op n ks k) gx (fun j hj=>by rw[ag _ _ _ _ (by omega)];exact zm _ _ _ _ ae ae ae) (fun j h1 h2=>absurd (Bv j h1) ae) he
 by_cases e0:j=0
 ·subst e0
  rw[ad]
  exact eQ s0 (fun r hr=>by simp[aa.refs,V.aN,V.refs]at hr)
 rw[ag _ _ _ _ e0]
 by_cases e1:j=1
 ·subst e1
  rw[fuH_1]
  exact ND
 ·by_cases e2:j=11
  ·subst e2
   rw[fuH_11]
   exact NK
  ·rw[zm _ _ _ _ e1 e2 (by omega)]
   exact nD
theorem rP{l:List TB}(hl:l.length<=1000)(nh:∀p∈ah l,p.2.fits):∀ (f:Nat) (t y:Tm) (d:Nat),t.fits->d<=1000->Fs f (ah l) t d=some y->y.sz<=1000000->
 aV Tryz.prog 93 [.sl (l.map TB.d),t.d, .i d] (.ret [y.d, .bool true])
 |0,_,_,_,_,_,h,_=>by cases h
 |f+1,t,y,d,ht,hd,h,hz=>by
  simp only[Fs]at h
  have TG:=(Tm.bF t).1 ht
  refine aV.aJ mix acu aG ?_
  rw[c93]
  by_cases h1:t.op=1
  ·have eM:(t.op==1)=true:=by simpa using h1
   rw[if_pos h1]at h
   refine pk eM ?_
   refine aj (kT l t.n ae) rfl ?_
   rcases tp l t.n with⟨g1,g2⟩|⟨k,z,g1,g2,g3⟩
   ·have Cv:decide (findF l t.n<0)=true:=by simp;omega
    rw[g2]at h
    cases h
    exact Cy Cv
   ·have Cv:decide (((k:Nat):Int)<0)=false:=aG
    rw[g3]at h
    cases d with
    |zero=>cases h
    |succ d=>
     have LS:(((d+1:Nat):Int)==0)=false:=by rw[beq_eq_false_iff_ne];omega
     refine HH g1 Cv g2 LS ?_
     rw[show(((d+1:Nat):Int) - 1)=((d:Nat):Int) by omega]
     refine ba (rP hl nh f z.term y d (nh _ (gY (List.mem_of_getElem? g2))) ae h hz) ?_
     exact l6
  ·have eM:(t.op==1)=false:=by simpa using h1
   rw[if_neg h1]at h
   cases hL:DN (fun k=>Fs f (ah l) k d) t.kids with
   |none=>rw[hL]at h;cases h
   |some ks=>
   rw[hL]at h
   cases h
   obtain⟨LI,FW⟩:=zl hL
   have dV:qN ks+1<=1000000:=by rw[Tm.jt]at hz;simp only[Tm.kids]at hz;omega
   have hle:=lN ks
   refine pk eM ?_
   refine aF (fun i:Nat=>⟨bf [.d (.sl (l.map TB.d)), .ab, .d (.i d), .ab, .ptr 0 0, .ab, .ptr 1 0, .ab, .ab, .ptr 11 0, .d (.i i)],aA (DP t.op t.n ks i) 0 (.row t.row),12+1⟩)
    (fun i=>i<=t.kids.length) (fun i=>t.kids.length - i) 0 (Nat.zero_le _) (FG (fun _=>False) .aM _ (fun _ h=>h.elim) (.inl ⟨rfl,rfl,cE⟩) dH dH dH ?_) (fun k hk=> ?_)
   ·exact CA
   replace hk:k<=t.kids.length:=hk
   have q0:aA (DP t.op t.n ks k) 0 (.row t.row) 0= .row t.row:=ad _ _ _
   have q1:aA (DP t.op t.n ks k) 0 (.row t.row) 1= .row [.d (.i 0), .d (.i 0), .aM]:=rfl
   have M0:aA (DP t.op t.n ks k) 0 (.row t.row) 11= .row [.d (.i t.op), .d (.i t.n), .osl 12 0]:=rfl
   have M3:aA (DP t.op t.n ks k) 0 (.row t.row) 12= .arr 0 33 3 ((ks.take k).map Tm.d):=rfl
   refine HH q0 q1 M0 M3 ?_
   refine au (fun h2=> ?_) (fun h2=> ?_)
   ·replace h2:k<t.kids.length:=by simp at h2;omega
    obtain⟨z,TM⟩:=aD h2
    obtain⟨z',LD,hF⟩:=FW k z TM
    have hzm:=List.mem_of_getElem? TM
    have zO:ks.take (k+1)=ks.take k++[z']:=by rw[List.take_add_one,LD];rfl
    have e0:(ks.take k).length=k:=by rw[List.length_take];omega
    have hzs:z'.sz<=1000000:=by have:=Fx (List.mem_of_getElem? LD);omega
    have j9:k<=140737488355327/\(k+1)*24<=140737488355328:=ae
    simp+contextual (disch:=first|omega|simp only[go_sem,false_implies]) only[go_sem,wrap64,if_pos,q0,q1,M0,M3,TM,List.length_map]
    refine ba (rP hl nh f z z' d (TG.2 z hzm) hd hF hzs) ?_
    simp+contextual (disch:=first|omega|simp only[go_sem,false_implies]) only[go_sem,wrap64,if_pos,q0,q1,M0,M3,TM,List.length_map,e0,if_pos j9]
    refine aq (k+1) h2 ae (FG (fun j=>12<=j) (.osl 12 1) _ (fun _ h=>h) (.inr ⟨12,1,Nat.le_refl _,rfl,by(repeat(first|rfl|rw[ad]|rw[ag _ _ _ _ (by omega)]));rw[zO,List.map_append];rfl⟩) dH V4 dH ?_)
    exact CA
   ·replace h2:k=t.kids.length:=by simp at h2;omega
    subst h2
    have TE:aA (DP t.op t.n ks t.kids.length) 0 (.row t.row) 12= .arr 0 33 3 (ks.map Tm.d):=by rw[M3, <- LI,List.take_length]
    simp+contextual (disch:=first|omega|simp only[go_sem,false_implies]) only[go_sem,wrap64,if_pos,q0,q1,M0,TE]
    rw[Tm.Mc]
theorem rQ{l:List TB}(hl:l.length<=1000)(nh:∀p∈ah l,p.2.fits){t y:Tm}{f:Nat}(ht:t.fits)(h:Fs f (ah l) t (ah l).length=some y)(hz:y.sz<=1000000):aV Tryz.prog 42 [.sl (l.map TB.d),t.d] (.ret [y.d]):=by
 have e:(ah l).length=l.length:=by unfold ah;rw[List.length_map]
 rw[e]at h
 refine aV.aJ mix ab3 aG ?_
 rw[c42]
 refine zR ?_
 refine ba (rP hl nh f t y l.length ht hl h hz) ?_
 exact l6
theorem sH{l:List TB}(hl:l.length<=1000)(nh:∀p∈ah l,p.2.fits){n:Nt}{x y:Tm}{f g:Nat}(ha:n.a.fits)(hb:n.b.fits)(hx:Fs f (ah l) n.a (ah l).length=some x)(hy:Fs g (ah l) n.b (ah l).length=some y)(zx:x.sz<=1000000)(zy:y.sz<=1000000):
 aV Tryz.prog 71 [.sl (l.map TB.d),n.d] (.ret [.bool (ir x y)]):=by
 refine aV.aJ mix ack aG ?_
 rw[c71]
 refine bJ ?_
 refine dk (rQ hl nh ha hx zx) ?_
 refine bJ ?_
 refine dk (rQ hl nh hb hy zy) ?_
 refine bJ ?_
 refine aX (rD x (Tm.cI _ zx) y (Tm.cI _ zy)) rfl ?_
 exact Lp
end Go.Proofs.YtlhemmpklhhgoaaGreat
set_option maxHeartbeats 2000000
namespace Go.Proofs.YtlhemmpklhhgoaaGreat
theorem TR(nb nn:Int)(l m:Int×Int)(ms:List (Int×Int)):wb nb nn l (m::ms)=(dF m.1 l.1 nb&&dF m.2 l.2 nn&&wb nb nn m ms):=by
 rw[wb]
 congr 1
 unfold dF
 rw[Bool.eq_iff_iff]
 simp
 omega
theorem vr(s:gG)(hs:s.Fin){ok:Bool}(aS:ok=true↔ck s):aV Tryz.prog 22 [s.d] (.ret [.bool ok]):=by
 have no: ¬ck s->ok=false:=fun h=>by
  cases ok with
  |false=>rfl
  |true=>exact absurd (aS.1 rfl) h
 have tL:=hs.bl
 have vE:=hs.nl
 have Ht:=hs.ml
 refine aV.aJ mix abX aG ?_
 rw[c22]
 refine bJ ?_
 refine aj (aad s.sig hs.sig) rfl ?_
 cases h1:lH s.sig with
 |false=>
  have:=no fun h=>by have:=h.sig;rw[h1]at this;cases this
  exact xS
 |true=>
 obtain⟨bo,Rg⟩:∃bo:Bool,bo=true↔kQ s.sig s.binds:=by
  classical
  exact⟨decide (kQ s.sig s.binds),aG⟩
 refine bJ ?_
 refine aj (D1 s.sig hs.sig h1 s.binds tL (fun x hx=>(hs.bt x hx).fits) Rg) rfl ?_
 cases bo with
 |false=>
  have:=no fun h=>Bool.false_ne_true (Rg.2 h.lZ)
  exact xS
 |true=>
 have hb:=Rg.1 rfl
 by_cases h3:12<s.aR.length
 ·have lT:decide ((s.aR.length:Int)>12)=true:=by simp;omega
  have:=no fun h=>by have:=h.Hd;omega
  subst this
  exact Le lT
 have lT:decide ((s.aR.length:Int)>12)=false:=by simp;omega
 by_cases h4:8<s.marks.length
 ·have Gg:decide ((s.marks.length:Int)>8)=true:=by simp;omega
  have:=no fun h=>by have:=h.TH;omega
  subst this
  exact HI lT Gg
 have Gg:decide ((s.marks.length:Int)>8)=false:=by simp;omega
 obtain⟨l',ρ,R,hS,Ez⟩:=nJ hb.keys hb.ok hb.Ha
 have nh:∀p∈ah s.binds,p.2.fits:=fun p hp=>by
  obtain⟨x,hx,rfl⟩:=dg hp
  exact(hs.bt x hx).fits
 have cD:∀p∈ah s.binds,sX (ah s.binds) p.2:=fun p hp=>by
  obtain⟨x,hx,rfl⟩:=dg hp
  exact hb.Qe x hx
 refine zS lT Gg ?_
 refine aF (fun k:Nat=>⟨bf [.ab, .ptr 0 0, .ab, .d (.i k)],aA (fun _=> .no) 0 (.row s.row),1⟩)
  (fun k=>k<=s.aR.length/\∀n∈s.aR.take k,br s.sig n.a=true/\br s.sig n.b=true/\ ¬DU (ah s.binds) n) (fun k=>s.aR.length - k) 0 ⟨Nat.zero_le _,fun n hn=>by simp at hn⟩ (bM.bH _ ae ae dt (fun j hj=>rfl) ?_) (fun k hk=> ?_)
 ·exact dU
 obtain⟨hk,ho⟩:=hk
 refine zR ?_
 refine au (fun h6=> ?_) (fun h6=> ?_)
 ·replace h6:k<s.aR.length:=by simp at h6;omega
  obtain⟨n,hn⟩:=aD h6
  have vC:=List.mem_of_getElem? hn
  obtain⟨na,nb⟩:=hs.nt n vC
  have ea:=o8 h1 n.a
  have eb:=o8 h1 n.b
  refine rT hn ?_
  refine aX (iZ s.sig hs.sig n.a na.fits) rfl ?_
  cases va:(ew s.sig n.a&&dR n.a)with
  |false=>
   have:=no fun h=>by have:=(h.aR n vC).1;rw[ea,va]at this;cases this
   exact QS
  |true=>
   refine rT hn ?_
   refine aX (iZ s.sig hs.sig n.b nb.fits) rfl ?_
   cases vb:(ew s.sig n.b&&dR n.b)with
   |false=>
    have:=no fun h=>by have:=(h.aR n vC).2.1;rw[eb,vb]at this;cases this
    exact QS
   |true=>
    obtain⟨a1,a2,a3⟩:=cV (ea.trans va)
    obtain⟨b1,b2,b3⟩:=cV (eb.trans vb)
    have za:=lO hS cD a1
    have zb:=lO hS cD b1
    obtain⟨fa,ua⟩:=vi hS a1
    obtain⟨fb,ub⟩:=vi hS b1
    have we:=zp (n:=n) hS a1 b1
    refine rT hn ?_
    refine aX (sH tL nh (n:=n) na.fits nb.fits ua ub ae ae) rfl ?_
    cases ya:ir (aZ (ah l') n.a) (aZ (ah l') n.b)with
    |true=>
     have:=no fun h=>(h.aR n vC).2.2 (we.2 ((fT _ _).1 ya))
     exact QS
    |false=>
     refine rT hn ?_
     refine aL (bc rfl) ?_
     refine bJ ?_
     refine aq (k+1) ⟨h6,fun y hy=> ?_⟩ ae (bM.bH _ ae ae dt (fun j hj=>rfl) ?_)
     ·rw[List.take_add_one,hn]at hy
      rcases List.mem_append.1 hy with hy|hy
      ·exact ho y hy
      ·simp at hy
       subst hy
       refine⟨ea.trans va,eb.trans vb,fun h=> ?_⟩
       rw[(fT _ _).2 (we.1 h)]at ya;cases ya
     ·exact dU
 ·replace h6:k=s.aR.length:=by simp at h6;omega
  subst h6
  rw[List.take_length]at ho
  have fin:wb s.binds.length s.aR.length (0,0) s.marks=ok:=by
   rw[Bool.eq_iff_iff,aS]
   exact⟨fun h=>⟨h1,ae,ae,hb,ho,h⟩,fun h=>h.marks⟩
  refine zR ?_
  refine aF (fun i:Nat×Int×Int=>⟨bf [.ab, .ptr 0 0, .ab, .ab, .ptr 7 0, .d (.i i.1)],aA (aA (fun _=> .no) 0 (.row s.row)) 7 (.row [.d (.i i.2.1), .d (.i i.2.2)]),8⟩)
   (fun i=>i.1<=s.marks.length/\wb s.binds.length s.aR.length i.2 (s.marks.drop i.1)=ok) (fun i=>s.marks.length - i.1) (0,0,0) ⟨Nat.zero_le _,fin⟩ (bM.bH _ (show 0<=8 from ae) ae dt (fun j hj=> ?_) ?_) ?_
  ·by_cases e:j=7
   ·exact vL
   ·exact dH
  ·exact dU
  rintro⟨k,l1,l2⟩ ⟨hk,kY⟩
  dsimp only at hk kY|-
  refine zR ?_
  refine au (fun h7=> ?_) (fun h7=> ?_)
  ·replace h7:k<s.marks.length:=by simp at h7;omega
   obtain⟨⟨m1,m2⟩,hm⟩:=aD h7
   have Ke:s.marks.drop k=(m1,m2)::s.marks.drop (k+1):=by
    obtain⟨i1,i2⟩:=List.getElem?_eq_some_iff.1 hm
    exact zU
   rw[Ke,TR]at kY
   dsimp only at kY
   refine rT hm ?_
   refine aj (DZ m1 l1 s.binds.length) rfl ?_
   cases g1:dF m1 l1 s.binds.length with
   |false=>
    rw[g1]at kY
    simp only[Bool.false_and]at kY
    subst kY
    exact l6
   |true=>
    rw[g1]at kY
    refine rT hm ?_
    refine aj (DZ m2 l2 s.aR.length) rfl ?_
    cases g2:dF m2 l2 s.aR.length with
    |false=>
     rw[g2]at kY
     simp only[Bool.true_and,Bool.false_and]at kY
     subst kY
     exact l6
    |true=>
     rw[g2]at kY
     simp only[Bool.true_and]at kY
     refine rT hm ?_
     refine aq (k+1,m1,m2) ⟨h7,kY⟩ pt (bM.bH _ (show 0<=8 from ae) ae dt (fun j hj=> ?_) ?_)
     ·have hj:j<8:=hj
      by_cases e:j=7
      ·exact vL
      ·(repeat(first|rfl|rw[ad]|rw[ag _ _ _ _ (by omega)]));rw[ag _ 7 _ _ e]
     ·exact dU
  ·replace h7:k=s.marks.length:=by simp at h7;omega
   subst h7
   rw[List.drop_length]at kY
   have kY:true=ok:=kY
   subst kY
   exact l6
structure gG.Fits (s:gG):Prop where
 sig:s.sig.Fits
 bl:s.binds.length<=9223372036854775807
 nl:s.aR.length<=9223372036854775807
 ml:s.marks.length<=9223372036854775807
 bt:∀x∈s.binds,x.term.fits
 nt:∀n∈s.aR,n.a.fits/\n.b.fits
structure xL (s:gG):Prop where
 sig:iX s.sig=true
 bl:s.binds.length<=22
 nl:s.aR.length<=14
 ml:s.marks.length<=10
 bt:∀x∈s.binds,dS x.term=true
 nt:∀n∈s.aR,dS n.a=true/\dS n.b=true
theorem TS{s:gG}(hf:s.Fits)(h:xL s):s.Fin:=by
 have sm:∀t:Tm,t.fits->dS t=true->t.Fin:=fun t h1 h2=>⟨h1,by have:=((uX t).1 h2).2;omega⟩
 have:=h.bl
 have:=h.nl
 have:=h.ml
 exact⟨hf.sig,ae,ae,ae,fun x hx=>sm _ (hf.bt x hx) (h.bt x hx),fun n hn=>⟨sm _ (hf.nt n hn).1 (h.nt n hn).1,sm _ (hf.nt n hn).2 (h.nt n hn).2⟩⟩
theorem D2(s:gG)(hs:s.Fits){ok:Bool}(aS:ok=true↔xL s):aV Tryz.prog 23 [s.d] (.ret [.bool ok]):=by
 have no: ¬xL s->ok=false:=fun h=>by
  cases ok with
  |false=>rfl
  |true=>exact absurd (aS.1 rfl) h
 have tL:=hs.bl
 have vE:=hs.nl
 have Ht:=hs.ml
 refine aV.aJ mix abY aG ?_
 rw[c23]
 refine bJ ?_
 refine aj (Dw s.sig hs.sig) rfl ?_
 cases h1:iX s.sig with
 |false=>
  have:=no fun h=>by have:=h.sig;rw[h1]at this;cases this
  exact xS
 |true=>
 by_cases h2:22<s.binds.length
 ·have iK:decide ((s.binds.length:Int)>22)=true:=by simp;omega
  have:=no fun h=>by have:=h.bl;omega
  subst this
  exact Le iK
 have iK:decide ((s.binds.length:Int)>22)=false:=by simp;omega
 by_cases h3:14<s.aR.length
 ·have lT:decide ((s.aR.length:Int)>14)=true:=by simp;omega
  have:=no fun h=>by have:=h.nl;omega
  subst this
  exact HI iK lT
 have lT:decide ((s.aR.length:Int)>14)=false:=by simp;omega
 by_cases h4:10<s.marks.length
 ·have Gg:decide ((s.marks.length:Int)>10)=true:=by simp;omega
  have:=no fun h=>by have:=h.ml;omega
  subst this
  exact Qu iK lT Gg
 have Gg:decide ((s.marks.length:Int)>10)=false:=by simp;omega
 refine Ld iK lT Gg ?_
 refine aF (fun k:Nat=>⟨bf [.ab, .ptr 0 0, .ab, .d (.i k)],aA (fun _=> .no) 0 (.row s.row),1⟩)
  (fun k=>k<=s.binds.length/\∀x∈s.binds.take k,dS x.term=true) (fun k=>s.binds.length - k) 0 ⟨Nat.zero_le _,fun n hn=>by simp at hn⟩ (bM.bH _ ae ae dt (fun j hj=>rfl) ?_) (fun k hk=> ?_)
 ·exact dU
 obtain⟨hk,ho⟩:=hk
 refine zR ?_
 refine au (fun h6=> ?_) (fun h6=> ?_)
 ·replace h6:k<s.binds.length:=by simp at h6;omega
  obtain⟨x,hx⟩:=aD h6
  have cL:=List.mem_of_getElem? hx
  refine rT hx ?_
  refine aj (qj x.term (hs.bt x cL)) rfl ?_
  cases hv:dS x.term with
  |false=>
   have:=no fun h=>by have:=h.bt x cL;rw[hv]at this;cases this
   exact xS
  |true=>
   refine bJ ?_
   refine aq (k+1) ⟨h6,fun y hy=> ?_⟩ ae (bM.bH _ ae ae dt (fun j hj=>rfl) ?_)
   ·rw[List.take_add_one,hx]at hy
    rcases List.mem_append.1 hy with hy|hy
    ·exact ho y hy
    ·simp at hy
     subst hy
     exact hv
   ·exact dU
 ·replace h6:k=s.binds.length:=by simp at h6;omega
  subst h6
  rw[List.take_length]at ho
  refine zR ?_
  refine aF (fun k:Nat=>⟨bf [.ab, .ptr 0 0, .ab, .ab, .d (.i k)],aA (fun _=> .no) 0 (.row s.row),1⟩)
   (fun k=>k<=s.aR.length/\∀n∈s.aR.take k,dS n.a=true/\dS n.b=true) (fun k=>s.aR.length - k) 0 ⟨Nat.zero_le _,fun n hn=>by simp at hn⟩ (bM.bH _ ae ae dt (fun j hj=>rfl) ?_) (fun k hk=> ?_)
  ·exact dU
  obtain⟨hk,XW⟩:=hk
  refine zR ?_
  refine au (fun h6=> ?_) (fun h6=> ?_)
  ·replace h6:k<s.aR.length:=by simp at h6;omega
   obtain⟨n,hn⟩:=aD h6
   have vC:=List.mem_of_getElem? hn
   obtain⟨na,nb⟩:=hs.nt n vC
   refine rT hn ?_
   refine aj (qj n.a na) rfl ?_
   cases va:dS n.a with
   |false=>
    have:=no fun h=>by have:=(h.nt n vC).1;rw[va]at this;cases this
    exact xS
   |true=>
    refine rT hn ?_
    refine aj (qj n.b nb) rfl ?_
    cases vb:dS n.b with
    |false=>
     have:=no fun h=>by have:=(h.nt n vC).2;rw[vb]at this;cases this
     exact xS
    |true=>
     refine bJ ?_
     refine aq (k+1) ⟨h6,fun y hy=> ?_⟩ ae (bM.bH _ ae ae dt (fun j hj=>rfl) ?_)
     ·rw[List.take_add_one,hn]at hy
      rcases List.mem_append.1 hy with hy|hy
      ·exact XW y hy
      ·simp at hy
       subst hy
       exact⟨va,vb⟩
     ·exact dU
  ·replace h6:k=s.aR.length:=by simp at h6;omega
   subst h6
   rw[List.take_length]at XW
   have:ok=true:=aS.2 ⟨h1,ae,ae,ae,ho,XW⟩
   exact xS
end Go.Proofs.YtlhemmpklhhgoaaGreat
namespace Go.Proofs.YtlhemmpklhhgoaaGreat
end Go.Proofs.YtlhemmpklhhgoaaGreat
set_option maxHeartbeats 4000000
namespace Go.Proofs.YtlhemmpklhhgoaaGreat
structure gG.Cp (s:gG):Prop where
 lc:s.sig.cons.length<=1000000
 lf:s.sig.cC.length<=1000000
 bl:s.binds.length<=1000
 nl:s.aR.length<=1000
 ml:s.marks.length<=1000
 bt:∀x∈s.binds,x.term.sz<=1000000
 nt:∀n∈s.aR,n.a.sz<=1000000/\n.b.sz<=1000000
end Go.Proofs.YtlhemmpklhhgoaaGreat
set_option maxHeartbeats 4000000
namespace Go.Proofs.YtlhemmpklhhgoaaGreat
def gG.mark (s:gG):gG:=⟨s.sig,s.binds,s.aR,s.marks++[((s.binds.length:Int),(s.aR.length:Int))]⟩
end Go.Proofs.YtlhemmpklhhgoaaGreat
namespace Go.Proofs.YtlhemmpklhhgoaaGreat
section
section
variable {P:Program}
def rR(P:Program)(n t t1:Nat)(ic:IC)(bE:List V)(u:V)(o:Nat->aa)(nx:Nat)(K:(Nat->aa)->Nat->Prop):Prop:=
 bE.length<=n/\kq P n nx true ic (GH K) ⟨aA (aA (bZ bE) t u) t1 u,o,nx⟩
def qF(P:Program)(n t t1:Nat)(ic:IC)(bE:List V)(rs:List ResultVar)(K X:V->(Nat->aa)->Nat->Prop)(e:fw)(s:S):Prop:=
 match e with
 | .normal| .ret=>rR P n t t1 ic bE (.d .eD) s.o s.nx fun o nx=>rA P rs K X .ret ⟨s.env,o,nx⟩
 | .bB v=>rR P n t t1 ic bE v s.o s.nx fun o nx=>rA P rs K X .ret ⟨s.env,o,nx⟩
 | .exit _=>False
def zu(P:Program)(n t:Nat)(eT:IC)(eX:List Operand)(g:FuncId)(D:List V->fw->S->Prop)(e:fw)(s:S):Prop:=
 match e with
 | .normal=>kq P n s.nx false eT (D (eX.map s.ev)) ⟨aA s.env t (.func (.func g) [] (eX.map s.ev)),s.o,s.nx⟩
 |_=>False
variable {n t t1:Nat}{ic eT:IC}{bE:List V}{rs:List ResultVar}{K X:V->(Nat->aa)->Nat->Prop}{s:S}{v:V}{eX:List Operand}{g:FuncId}{D:List V->fw->S->Prop}{KR:(Nat->aa)->Nat->Prop}
@[go_sem ↓] theorem KI:qF P n t t1 ic bE rs K X .normal s=rR P n t t1 ic bE (.d .eD) s.o s.nx fun o nx=>rA P rs K X .ret ⟨s.env,o,nx⟩:=propext Iff.rfl
@[go_sem ↓] theorem Qh:qF P n t t1 ic bE rs K X .ret s=rR P n t t1 ic bE (.d .eD) s.o s.nx fun o nx=>rA P rs K X .ret ⟨s.env,o,nx⟩:=propext Iff.rfl
@[go_sem ↓] theorem Qi:qF P n t t1 ic bE rs K X (.bB v) s=rR P n t t1 ic bE v s.o s.nx fun o nx=>rA P rs K X .ret ⟨s.env,o,nx⟩:=propext Iff.rfl
@[go_sem ↓] theorem KJ:zu P n t eT eX g D .normal s=kq P n s.nx false eT (D (eX.map s.ev)) ⟨aA s.env t (.func (.func g) [] (eX.map s.ev)),s.o,s.nx⟩:=propext Iff.rfl
@[go_sem ↓] theorem Qj:GH KR .normal s=KR s.o s.nx:=propext Iff.rfl
@[go_sem ↓] theorem aax:GH KR .ret s=KR s.o s.nx:=propext Iff.rfl
theorem rR.w {o:Nat->aa}{nx:Nat}{K K':(Nat->aa)->Nat->Prop}(hK:∀o nx,K o nx->K' o nx)(h:rR P n t t1 ic bE v o nx K):Dm P n t t1 ic bE v o nx K':=by
 refine⟨h.1,dQ ic _ _ _ (fun e s h=> ?_) h.2⟩
 unfold GH at h|-
 cases e with
 |normal=>exact hK _ _ h
 |ret=>exact hK _ _ h
 |_=>exact h
theorem cO.Hg (aY:P.follows .mixedOrders=true){f g:FuncId}{je eT xi:IC}{t m r r1:Nat}{eX:List Operand}{rs:List ResultVar}(hf:EU P f n je eT g t eX rs)(hg:Br P g m r r1 xi)
 {args:List V} {o:Nat->aa} {nx:Nat} {K X:V->(Nat->aa)->Nat->Prop} (hl:args.length<=n)
 (h:kq P n nx true je (zu P n t eT eX g fun bE=>qF P m r r1 xi bE rs K X) ⟨bZ args,o,nx⟩):cO P f args o nx K X:=by
 refine cO.Bu aY hf hg hl (dQ je _ _ _ (fun e s h=> ?_) h)
 unfold zu at h
 unfold Bs
 cases e with
 |normal=>
  refine dQ eT _ _ _ (fun e s h=> ?_) h
  unfold qF at h
  unfold yM
  cases e with
  |normal=>exact rR.w (fun _ _ h=>by unfold rA at h;exact h) h
  |ret=>exact rR.w (fun _ _ h=>by unfold rA at h;exact h) h
  |bB v=>exact rR.w (fun _ _ h=>by unfold rA at h;exact h) h
  |exit _=>exact h
 |_=>exact h
end
attribute [irreducible] rR
theorem o9{P:Program}{n t t1:Nat}{ic:IC}{bE:List V}{v:V}{o:Nat->aa}{nx:Nat}{K:(Nat->aa)->Nat->Prop}(h1:bE.length<=n)(h2:kq P n nx true ic (GH K) ⟨aA (aA (bZ bE) t v) t1 v,o,nx⟩):rR P n t t1 ic bE v o nx K:=by
 unfold rR
 exact⟨h1,h2⟩
end
end Go.Proofs.YtlhemmpklhhgoaaGreat
set_option maxHeartbeats 4000000
namespace Go.Proofs.YtlhemmpklhhgoaaGreat
theorem TT{o:Nat->aa}:xW Tryz.prog o 20 true (.d .eD) (.d .eD)=some (.d (.bool true)):=ai
theorem TU{o:Nat->aa}:xW Tryz.prog o 20 true (.d (.iface 162 (.agg []))) (.d .eD)=some (.d (.bool false)):=ai
theorem TV{o:Nat->aa}:xW Tryz.prog o 20 true (.d (.iface 163 (.agg []))) (.d .eD)=some (.d (.bool false)):=ai
theorem Ce:tJ Tryz.prog 162=true:=ai
theorem Cf:tJ Tryz.prog 163=true:=ai
def AtK(K:V->(Nat->aa)->Nat->Prop)(nx:Nat)(e:Int)(o':Nat->aa)(nx':Nat):Prop:=
 nx+2<=nx'/\Good o' nx'/\o' nx= .row [.d (.i 0)]/\∀o2 n2,nx'<=n2->Good o2 n2->(∀j,j≠nx->j<nx'->o2 j=o' j)->K (.d (.i e)) o2 n2
theorem Hh(g:Nat)(bE:List V)(o:Nat->aa)(nx:Nat)(hg:Good o nx)(K X:V->(Nat->aa)->Nat->Prop)
 (hc:cO Tryz.prog g bE (aA o nx (.row [.d (.i 0)])) (nx+2) (fun v o' nx'=>AtK K nx 0 o' nx')
  (fun v o' nx'=>(v= .d (.iface 162 (.agg []))/\AtK K nx 5 o' nx')\/(v= .d (.iface 163 (.agg []))/\AtK K nx 3 o' nx'))):
 cO Tryz.prog 101 [.func (.func g) [] bE] o nx K X:=by
 refine cO.Hg mix JB Jz aG ?_
 rw[JA,Ss]
 refine ma ?_
 refine jS (cO.mono (fun v o' nx' h=> ?_) (fun v o' nx' h=> ?_) hc)
 ·obtain⟨h1,h2,h3,h4⟩:=h
  refine HC h3 ?_
  refine o9 aG ?_
  rw[Jy]
  simp+contextual (disch:=first|omega|simp only[go_sem,false_implies]) only[go_sem,wrap64,if_pos,Nat.add_assoc,Nat.left_eq_add,Nat.add_eq_left,Nat.add_left_cancel_iff,h3,TT]
  exact h4 _ _ ae (Good.aA (h2.mono ae) ae rfl) (fun j j1 j2=>ag _ _ _ _ j1)
 ·rcases h with⟨rfl,h1,h2,h3,h4⟩|⟨rfl,h1,h2,h3,h4⟩
  ·refine HC h3 ?_
   refine o9 aG ?_
   rw[Jy]
   simp+contextual (disch:=first|omega|simp only[go_sem,false_implies]) only[go_sem,wrap64,if_pos,Nat.add_assoc,Nat.left_eq_add,Nat.add_eq_left,Nat.add_left_cancel_iff,h3,TU,Ce,Cf]
   exact Vx
  ·refine HC h3 ?_
   refine o9 aG ?_
   rw[Jy]
   simp+contextual (disch:=first|omega|simp only[go_sem,false_implies]) only[go_sem,wrap64,if_pos,Nat.add_assoc,Nat.left_eq_add,Nat.add_eq_left,Nat.add_left_cancel_iff,h3,TV,Ce,Cf]
   exact Vx
theorem tw(s:gG)(hs:s.Fin)(a c:Tm)(ha:a.Fin)(hc:c.Fin)(o:Nat->aa)(nx:Nat)(hg:Good o nx)(K X:V->(Nat->aa)->Nat->Prop)
 (TN:ck s->br s.sig a=true->br s.sig c=true->∀o' nx' id,nx<=nx'->Good o' nx'->(∀j,j<nx->o' j=o j)->o' id= .cZ (enc (D.int .i64) (ou (ah s.binds)))->K (.bN [.agg (s.row++[.mp id]), .d (.bool true)]) o' nx')
 (pq: ¬ (ck s/\br s.sig a=true/\br s.sig c=true)->∀o' nx' id m,nx<=nx'->id<nx'->Good o' nx'->(∀j,j<nx->o' j=o j)->o' id=eJ m\/o' id= .cZ (enc (D.int .i64) (ou m))->K (.bN [.agg (s.row++[.mp id]), .d (.bool false)]) o' nx'):
 cO Tryz.prog 63 [.d s.d, .d a.d, .d c.d] o nx K X:=by
 refine cO.aJ mix Yv aG ?_
 rw[c63]
 refine ma ?_
 refine cz (Na s hs _ _ dt _ _ (fun h o' nx' id i1 i2 i3 i4=> ?_) (fun h o' nx' id m i1 i0 i2 i3 i4=> ?_))
 ·have e0:o' nx= .row s.row:=(i3 _ ae).trans dH
  have e1:o' (nx+1)= .row a.row:=(i3 _ ae).trans dH
  have e2:o' (nx+2)= .row c.row:=(i3 _ ae).trans dH
  have e3:o' (nx+3)= .row [.aM, .aM, .aM, .aM, .aM, .d .dC]:=(i3 _ ae).trans dH
  have aw:id<nx':=Good.lt i2 H9
  have w1:∀k,nx≠nx'+k:=fun k=>ae
  have w2:∀k j,nx+j≠nx'+k\/True:=fun k j=> .inr trivial
  have w3:∀k,id≠nx'+k:=fun k=>ae
  have hgr:Good (aA (aA o' (nx'+3) (.row [.aM, .aM, .aM, .aM, .aM, .d .dC])) (nx'+3) (.row (s.row++[.mp id]))) (nx'+6):=by
   refine Good.aA (Good.aA (i2.mono ae) ae rfl) ae ?_
   simp[aa.refs,V.aN,V.refs]
   omega
  have d1:id≠nx+1:=fun e=>by subst e;rw[i4]at e1;cases e1
  have d2:id≠nx+2:=fun e=>by subst e;rw[i4]at e2;cases e2
  have d3:id≠nx+3:=fun e=>by subst e;rw[i4]at e3;cases e3
  have kno: ¬ (br s.sig a=true/\br s.sig c=true)->∀o2 n2,nx'<=n2->Good o2 n2->(∀j,j<nx->o2 j=o' j)->o2 id=o' id->K (.bN [.agg (s.row++[.mp id]), .d (.bool false)]) o2 n2:=fun hv o2 n2 q1 q2 q3 q4=>
   pq (fun h=>hv h.2) o2 n2 id (ah s.binds) ae ae q2 (fun j hj=>by rw[q3 j hj,i3 j (by omega)];(repeat(first|rfl|rw[ad]|rw[ag _ _ _ _ (by omega)]))) (.inr (by rw[q4,i4]))
  refine Nz e0 e1 e2 e3 i4 w1 w3 ?_
  refine aX (ni s hs.sig (ah s.binds) a ha) rfl ?_
  cases va:br s.sig a with
  |false=>
   refine Nz e0 e1 e2 e3 i4 w1 w3 ?_
   refine aL (cK (ids:=[nx'+3,nx+1,nx+2,nx+3,id]) (nx:=nx'+20) gH gH [([0],[]),([],[]),([],[]),([0],[]),([1],[]),([4],[]),([],[]),([],[]),([],[]),([],[]),([],[]),([],[]),([3,4],[3]),([],[])] cE) ?_
   refine ma ?_
   exact kno (fun h=>by rw[va]at h;exact Bool.false_ne_true h.1) _ _ ae (Good.aA (Good.mono hgr ae) ae HN) (fun j hj=>by(repeat(first|rfl|rw[ad]|rw[ag _ _ _ _ (by omega)]))) dH
  |true=>
   refine Nz e0 e1 e2 e3 i4 w1 w3 ?_
   refine aX (ni s hs.sig (ah s.binds) c hc) rfl ?_
   cases vc:br s.sig c with
   |false=>
    refine Nz e0 e1 e2 e3 i4 w1 w3 ?_
    refine aL (cK (ids:=[nx'+3,nx+1,nx+2,nx+3,id]) (nx:=nx'+20) gH gH [([0],[]),([],[]),([],[]),([0],[]),([1],[]),([4],[]),([],[]),([],[]),([0],[]),([2],[]),([4],[]),([],[]),([3,4],[3]),([],[])] cE) ?_
    refine ma ?_
    exact kno (fun h=>by rw[vc]at h;exact Bool.false_ne_true h.2) _ _ ae (Good.aA (Good.mono hgr ae) ae HN) (fun j hj=>by(repeat(first|rfl|rw[ad]|rw[ag _ _ _ _ (by omega)]))) dH
   |true=>
    refine Nz e0 e1 e2 e3 i4 w1 w3 ?_
    refine aL (cK (ids:=[nx'+3,nx+1,nx+2,nx+3,id]) (nx:=nx'+20) gH gH [([0],[]),([],[]),([],[]),([0],[]),([1],[]),([4],[]),([],[]),([],[]),([0],[]),([2],[]),([4],[]),([],[]),([3,4],[3]),([],[])] cE) ?_
    refine ma ?_
    exact TN h va vc _ _ id ae (Good.aA (Good.mono hgr ae) ae HN) (fun j hj=>by(repeat(first|rfl|rw[ad]|rw[ag _ _ _ _ (by omega)]));rw[i3 j (by omega)];(repeat(first|rfl|rw[ad]|rw[ag _ _ _ _ (by omega)]))) QA
 ·have e0:o' nx= .row s.row:=(i3 _ ae).trans dH
  have e3:o' (nx+3)= .row [.aM, .aM, .aM, .aM, .aM, .d .dC]:=(i3 _ ae).trans dH
  have w1:∀k,nx≠nx'+k:=fun k=>ae
  have w3:∀k,id≠nx'+k:=fun k=>ae
  simp only[gG.row,List.cons_append,List.nil_append]at pq|-
  have e1:o' (nx+1)= .row a.row:=(i3 _ ae).trans dH
  have e2:o' (nx+2)= .row c.row:=(i3 _ ae).trans dH
  have d1:id≠nx+1:=fun e=>by subst e;rw[e1]at i4;rcases i4 with h|h<;>cases h
  have d2:id≠nx+2:=fun e=>by subst e;rw[e2]at i4;rcases i4 with h|h<;>cases h
  have d3:id≠nx+3:=fun e=>by subst e;rw[e3]at i4;rcases i4 with h|h<;>cases h
  refine Cr e0 e3 w1 w3 ?_
  refine aL (cK (ids:=[nx'+3,nx+1,nx+2,nx+3,id]) (nx:=nx'+20) gH gH [([0],[]),([],[]),([],[]),([],[]),([],[]),([],[]),([],[]),([],[]),([],[]),([],[]),([],[]),([],[]),([3,4],[3]),([],[])] cE) ?_
  refine ma ?_
  refine pq (fun h'=>h h'.1) _ _ id m ae ae ?_ (fun j hj=>by(repeat(first|rfl|rw[ad]|rw[ag _ _ _ _ (by omega)]));rw[i3 j (by omega)];(repeat(first|rfl|rw[ad]|rw[ag _ _ _ _ (by omega)]))) QA
  refine Good.aA (Good.aA (Good.aA (i2.mono ae) ae rfl) ae ?_) ae ?_
  all_goals (simp[aa.refs,V.aN,V.refs];omega)
end Go.Proofs.YtlhemmpklhhgoaaGreat
set_option maxHeartbeats 4000000
namespace Go.Proofs.YtlhemmpklhhgoaaGreat
theorem KK(l:List Nt)(hl:l.length<=1000)(g:Nat)(kv:V)(kd:D)(brk:Nt->Bool)(hb:∀x∈l,aV Tryz.prog g [kd,x.d] (.ret [.bool (brk x)]))(o:Nat->aa)(nx:Nat)(hg:Good o nx)(hr:∀r∈kv.refs,r<nx)(hk:dL o kv=some kd)(K X:V->(Nat->aa)->Nat->Prop)
 (hK:∀r:Int,decide (0<=r)=l.any brk->∀nx',nx<=nx'->K (.d (.i r)) o nx'):
 cO Tryz.prog 126 [.d (.sl (l.map Nt.d)), .func (.func g) [kv] []] o nx K X:=by
 refine cO.aJ mix Ps aG ?_
 rw[SB]
 refine Vm ?_
 refine aF (fun i:Nat=>⟨bf [.d (.sl (l.map Nt.d)), .func (.func g) [kv] [], .ab, .ab, .ab, .ab, .ab, .d (.i l.length), .d (.i i)],o,nx⟩)
  (fun i=>i<=l.length/\l.any brk=(l.drop i).any brk) (fun i=>l.length - i) 0 ⟨Nat.zero_le _,rfl⟩ ?_ ?_
 ·exact N7
 rintro k ⟨LP,ML⟩
 refine Vm ?_
 refine au (fun h1=> ?_) (fun h1=> ?_)
 ·have h1:k<l.length:=by simp at h1;omega
  obtain⟨x,hx⟩:=aD h1
  have cL:=List.mem_of_getElem? hx
  have hd:l.drop k=x::l.drop (k+1):=by
   obtain⟨i1,i2⟩:=List.getElem?_eq_some_iff.1 hx
   exact zU
  rw[hd,List.any_cons]at ML
  simp+contextual (disch:=first|omega|simp only[go_sem,false_implies]) only[go_sem,wrap64,if_pos,hx,Nat.add_assoc,Nat.left_eq_add,Nat.add_eq_left,Nat.add_left_cancel_iff,List.length_map,hk]
  refine aj (hb x cL) rfl ?_
  cases CX:brk x with
  |true=>
   rw[CX]at ML
   refine ma ?_
   exact hK k (by rw[ML,Bool.true_or,decide_eq_true_eq];omega) _ ae
  |false=>
   rw[CX]at ML
   refine ma ?_
   refine aq (k+1) ⟨h1,ML⟩ ae ?_
   exact N7
 ·have h1:k=l.length:=by simp at h1;omega
  subst h1
  refine ma ?_
  exact hK _ (by rw[ML,List.drop_length];rfl) _ ae
theorem ow(l:List Nt)(hl:l.length<=1000)(g:Nat)(kv:V)(kd:D)(brk:Nt->Bool)(hb:∀x∈l,aV Tryz.prog g [kd,x.d] (.ret [.bool (brk x)]))(o:Nat->aa)(nx:Nat)(hg:Good o nx)(hr:∀r∈kv.refs,r<nx)(hk:dL o kv=some kd)(K X:V->(Nat->aa)->Nat->Prop)
 (hK:∀nx',nx<=nx'->K (.d (.bool (l.any brk))) o nx'):
 cO Tryz.prog 88 [.d (.sl (l.map Nt.d)), .func (.func g) [kv] []] o nx K X:=by
 refine cO.aJ mix YD aG ?_
 rw[c88]
 refine ma ?_
 refine bp (KK l hl g kv kd brk hb o _ (hg.mono ae) (fun r h=>by have:=hr r h;omega) hk _ _ fun r h1 nx' h2=> ?_)
 refine HC h1 ?_
 exact hK _ ae
end Go.Proofs.YtlhemmpklhhgoaaGreat
set_option maxHeartbeats 8000000
namespace Go.Proofs.YtlhemmpklhhgoaaGreat
theorem Nf(l:List TB)(hl:l.length<=1000):OI Tryz.prog 104 [.sl (l.map TB.d)] (.oA (l.map TB.d)):=by
 refine OI.lD rfl ?_
 refine cO.aJ mix Pm aG ?_
 rw[Sw]
 have hc:((l.map TB.d).all fun z=>z.cells.length==4)=true:=by
  rw[List.all_eq_true]
  intro z hz
  obtain⟨r,_,rfl⟩:=List.mem_map.1 hz
  rfl
 have hk:(l.map TB.d).take l.length=l.map TB.d:=List.take_of_length_le aG
 simp+contextual (disch:=first|omega|simp only[go_sem,false_implies]) only[go_sem,wrap64,if_pos,hc,List.length_map,if_true,Nat.zero_le,Nat.le_refl,List.take_length,hk]
theorem Ng{s:aB}{b:List (Int×Tm)}{a c:Tm}(hb:o7 s b)(ha:QT s a)(hc:QT s c){f:Nat}{e:Int}{b':List (Int×Tm)}(hf:iQ true f a c b=some (e,b')){p q r x m:Nat}(o:Nat->aa)(nx:Nat)(hg:Good o nx)
 (hp:o p= .row [.ptr x 0]) (hq:o q= .row a.row) (hr:o r= .row c.row) (hx:o x= .row [.mp m, .aM, .d (.bool true)]) (hm:o m=eJ b) (K X:V->(Nat->aa)->Nat->Prop)
 (aS:e=0->∀E:List TB,b'=b++ah E->∀o' nx' l,nx<=l->nx<=nx'->Good o' nx'->EqH o' x m l 0 true b' E->(∀j,j<nx->j≠x->j≠m->o' j=o j)->K (.bN []) o' nx')
 (pq:e=5->∀o' nx',nx<=nx'->Good o' nx'->(∀j,j<nx->j≠x->j≠m->o' j=o j)->X (.d (.iface 162 (.agg []))) o' nx')
 (yc:e=3->∀o' nx',nx<=nx'->Good o' nx'->(∀j,j<nx->j≠x->j≠m->o' j=o j)->X (.d (.iface 163 (.agg []))) o' nx'):
 cO Tryz.prog 102 [.ptr p 0, .ptr q 0, .ptr r 0] o nx K X:=by
 have lp:p<nx:=hg.lt (by rw[hp];exact aa.noConfusion)
 have lq:q<nx:=hg.lt (by rw[hq];exact aa.noConfusion)
 have lr:r<nx:=hg.lt (by rw[hr];exact aa.noConfusion)
 refine cO.aJ mix Pk aG ?_
 rw[Su]
 simp+contextual (disch:=first|omega|simp only[go_sem,false_implies]) only[go_sem,wrap64,if_pos,hp,hq,hr,Nat.add_assoc,Nat.left_eq_add,Nat.add_eq_left,Nat.add_left_cancel_iff]
 refine bp (DX hb ha hc (L:=[]) aG hf (x:=x) (m:=m) (xl:= .aM) o o _ (fun _=>False) ?_ ?_ hx hm (.inl ⟨rfl,rfl,cE⟩) (fun _ h=>h.elim) (fun j _=> .inr rfl) _ _ (fun h0 E hE o' nx' h1 h2 h3 h4=> ?_) (fun h5 o' nx' h1 h2 h4=> ?_) (fun h3 o' nx' h1 h2 h4=> ?_))
 ·exact hg.mono ae
 ·exact hg.mono ae
 ·refine bJ ?_
  exact aS h0 E hE _ _ _ ae ae h2 h3 (fun j j1 j2 j3=>h4 j ae j2 j3)
 ·refine bJ ?_
  exact pq h5 _ _ ae h2 (fun j j1 j2 j3=>h4 j ae j2 j3)
 ·refine bJ ?_
  exact yc h3 _ _ ae h2 (fun j j1 j2 j3=>h4 j ae j2 j3)
theorem ck.aci {s:gG}(h:ck s):o7 s.sig (ah s.binds):=⟨h.lZ.keys,fun p hp=>by obtain⟨x,hx,rfl⟩:=dg hp;exact⟨(h.lZ.ok x hx).1,jx (h.lZ.ok x hx).2⟩,h.lZ.Ha⟩
def IsB(o:Nat->aa)(vb:V)(a b:Nat)(L:List D):Prop:=vb= .oA L\/∃l,vb= .osl l 0/\a<=l/\l<b/\o l= .arr 0 59 4 L
theorem TW{s:gG}(hs:ck s){a c:Tm}(ha:br s.sig a=true)(hc:br s.sig c=true){f:Nat}{e:Int}{b':List (Int×Tm)}(hf:iQ true f a c (ah s.binds)=some (e,b')){id:Nat}(o:Nat->aa)(nx:Nat)(hg:Good o nx)
 (aw:o id= .cZ (enc (D.int .i64) (ou (ah s.binds)))) (brk:Nt->Bool) (we:e=0->∀E,b'=ah (s.binds++E)->∀n∈s.aR,aV Tryz.prog 66 [gG.kd ⟨s.sig,s.binds++E,s.aR,s.marks⟩ b',n.d] (.ret [.bool (brk n)])) (K X:V->(Nat->aa)->Nat->Prop)
 (pq:e=5\/e=3->∀o' nx',nx<=nx'->Good o' nx'->(∀j,j<nx->o' j=o j)->K (.bN [.agg [.aM, .aM, .aM, .aM, .aM, .d .dC], .d (.i e)]) o' nx')
 (hbr:e=0->s.aR.any brk=true->∀o' nx',nx<=nx'->Good o' nx'->(∀j,j<nx->o' j=o j)->K (.bN [.agg [.aM, .aM, .aM, .aM, .aM, .d .dC], .d (.i 5)]) o' nx')
 (aS:e=0->∀E,b'=ah (s.binds++E)->s.aR.any brk=false->∀o' nx' vb mid,nx<=nx'->Good o' nx'->(∀j,j<nx->o' j=o j)->IsB o' vb nx nx' ((s.binds++E).map TB.d)->nx<=mid->o' mid=eJ b'->K (.bN [.agg [.d (.sl (s.sig.cons.map jD.d)), .d (.sl (s.sig.cC.map jD.d)),vb, .d (.sl (s.aR.map Nt.d)), .d (.sl (s.marks.map Vc)), .mp mid], .d (.i 0)]) o' nx'):
 cO Tryz.prog 64 [.agg (s.row++[.mp id]), .d a.d, .d c.d] o nx K X:=by
 have tn:id<nx:=hg.lt (by rw[aw];exact aa.noConfusion)
 refine cO.aJ mix Yw aG ?_
 rw[c64]
 simp only[gG.row,List.cons_append,List.nil_append]
 refine HC aw ?_
 refine cz (cO.EW JD (kt:=3) (vt:=33) (l:=enc (D.int .i64) (ou (ah s.binds))) (by(repeat(first|rfl|rw[ad]|rw[ag _ _ _ _ (by omega)]));exact aw) ?_)
 refine HC aw ?_
 have hgH:Good (aA (aA (aA (aA (aA (aA (aA (aA o nx (.row (s.row++[.mp id]))) (nx+1) (.row a.row)) (nx+2) (.row c.row)) (nx+3) (.row [.aM, .aM, .aM, .aM, .aM, .d .dC])) (nx+7) (eJ (ah s.binds))) (nx+9) (.row [.mp (nx+7), .aM, .d (.bool true)])) (nx+10) (.row [.d .kC])) (nx+10) (.row [.ptr (nx+9) 0])) (nx+13):=by
  refine Good.aA (Good.aA (Good.aA (Good.aA (Good.aA (Good.aA (Good.aA (Good.aA (hg.mono ae) ae ?_) ae rfl) ae rfl) ae rfl) ae rfl) ae ?_) ae rfl) ae ?_
  all_goals (simp[aa.refs,V.aN,V.refs]<;>omega)
 refine bp (Hh _ _ _ _ hgH _ _ (Ng hs.aci (jx ha) (jx hc) hf (p:=nx+10) (q:=nx+1) (r:=nx+2) (x:=nx+9) (m:=nx+7) _ _ ?_ dH dH dH dH dH _ _ (fun h0 E hE o1 n1 l g1 g2 g3 g4 g5=>⟨ae,g3, ?_,fun o2 n2 k1 k2 k3=> ?_⟩) (fun h5 o1 n1 g2 g3 g5=> .inl ⟨rfl,ae,g3, ?_,fun o2 n2 k1 k2 k3=> ?_⟩) (fun h3 o1 n1 g2 g3 g5=> .inr ⟨rfl,ae,g3, ?_,fun o2 n2 k1 k2 k3=> ?_⟩)))
 ·exact Good.aA (hgH.mono ae) ae rfl
 ·exact Qx
 ·have ll:l<n1:=g3.lt (by rw[g4.Si];exact aa.noConfusion)
  have f0:o2 nx= .row (s.row++[.mp id]):=by rw[k3 _ (by omega) (by omega),g5 _ (by omega) (by omega) (by omega)];(repeat(first|rfl|rw[ad]|rw[ag _ _ _ _ (by omega)]))
  have f3:o2 (nx+3)= .row [.aM, .aM, .aM, .aM, .aM, .d .dC]:=by rw[k3 _ (by omega) (by omega),g5 _ (by omega) (by omega) (by omega)];(repeat(first|rfl|rw[ad]|rw[ag _ _ _ _ (by omega)]))
  have f10:o2 (nx+10)= .row [.ptr (nx+9) 0]:=by rw[k3 _ (by omega) (by omega),g5 _ (by omega) (by omega) (by omega)];(repeat(first|rfl|rw[ad]|rw[ag _ _ _ _ (by omega)]))
  have f9:o2 (nx+9)= .row [.mp (nx+7), .osl l 0, .d (.bool true)]:=by rw[k3 _ (by omega) (by omega)];exact g4.row
  have f7:o2 (nx+7)=eJ b':=by rw[k3 _ (by omega) (by omega)];exact g4.map
  have fl:o2 l= .arr 0 59 4 (E.map TB.d):=by rw[k3 _ (by omega) (by omega)];exact g4.Si
  have cD:∀j,j<nx->o2 j=o j:=fun j hj=>by rw[k3 _ (by omega) (by omega),g5 _ (by omega) (by omega) (by omega)];(repeat(first|rfl|rw[ad]|rw[ag _ _ _ _ (by omega)]))
  have w1:∀k,nx≠n2+k:=fun k=>ae
  have w2:∀k,l≠n2+k:=fun k=>ae
  have w3:l≠nx:=ae
  refine FK f0 f3 f10 f9 f7 fl w1 w2 w3 ?_
  refine GF (Nf s.binds (by have:=hs.lZ.len;omega)) ?_
  refine FK f0 f3 f10 f9 f7 fl w1 w2 w3 ?_
  have hbE:b'=ah (s.binds++E):=by rw[hE,dZ]
  have hlen:s.binds.length+E.length<=20:=by
   have h1:=(vm f a c _ b' (h0 ▸ hf) hs.aci (jx ha) (jx hc)).1
   have h2:=DM h1.keys fun v hv=>by
    obtain⟨p,hp,rfl⟩:=List.mem_map.1 hv
    exact(h1.ok p hp).1
   rw[List.length_map,hbE]at h2
   unfold ah at h2
   rw[List.length_map,List.length_append]at h2
   exact h2
  have j9:s.binds.length+E.length<=1099511627776/\(s.binds.length+E.length)*48<=1099511627776:=ae
  by_cases hn:E=[]
  ·subst hn
   simp+contextual (disch:=first|omega|simp only[go_sem,false_implies]) only[go_sem,wrap64,if_pos,List.map_nil,if_true]
   refine aL (cK (ids:=[nx,nx+10,nx+9,l]) (nx:=n2+21) gH gH [([0],[]),([0],[]),([0],[]),([],[]),([1],[]),([2],[]),([2],[]),([2],[]),([3],[]),([0],[]),([0],[]),([0],[0])] cE) ?_
   refine Cw f3 f10 f9 f7 w1 ?_
   have vE:=hs.Hd
   refine bp (ow s.aR ae 66 _ _ brk (we h0 [] hbE) _ _ ?_ ?_ ?_ _ _ (fun n3 h3=> ?_))
   ·refine(Good.aA (Good.aA (k2.mono ae) ae ?_) ae ?_)
    all_goals (simp[aa.refs,V.aN,V.refs]<;>omega)
   ·intro r hr
    simp[V.aN,V.refs]at hr
    omega
   ·simp+contextual (disch:=first|omega|simp only[go_sem,false_implies]) only[go_sem,wrap64,if_pos,f7,w1,Nat.add_assoc,Nat.left_eq_add,Nat.add_eq_left,Nat.add_left_cancel_iff,List.append_nil]
   cases Od:s.aR.any brk with
   |true=>
    refine Cw f3 f10 f9 f7 w1 ?_
    refine hbr h0 Od _ _ ae (Good.aA (Good.aA (Good.aA (k2.mono ae) ae ?_) ae ?_) ae ?_) (fun j hj=>by(repeat(first|rfl|rw[ad]|rw[ag _ _ _ _ (by omega)]));exact cD j hj)
    all_goals (simp[aa.refs,V.aN,V.refs]<;>omega)
   |false=>
    refine Cw f3 f10 f9 f7 w1 ?_
    refine aS h0 [] hbE Od _ _ (.oA (s.binds.map TB.d)) (nx+7) ae (Good.aA (Good.aA (Good.aA (k2.mono ae) ae ?_) ae ?_) ae ?_) (fun j hj=>by(repeat(first|rfl|rw[ad]|rw[ag _ _ _ _ (by omega)]));exact cD j hj) (.inl (by rw[List.append_nil])) ae HL
    all_goals (simp[aa.refs,V.aN,V.refs]<;>omega)
  ·have IB: ¬List.map TB.d E=[]:=by simpa using hn
   rw[if_neg IB,if_pos j9]
   refine FK f0 f3 f10 f9 f7 fl w1 w2 w3 ?_
   refine aL (cK (ids:=[nx,nx+10,nx+9,l,n2+17]) (nx:=n2+21) gH gH [([0],[]),([0],[]),([0],[]),([],[]),([1],[]),([2],[]),([2],[]),([2],[]),([3],[4]),([0],[]),([0],[]),([0,4],[0])] cE) ?_
   refine Cw f3 f10 f9 f7 w1 ?_
   have vE:=hs.Hd
   refine bp (ow s.aR ae 66 _ _ brk (we h0 E hbE) _ _ ?_ ?_ ?_ _ _ (fun n3 h3=> ?_))
   ·refine(Good.aA (Good.aA (Good.aA (k2.mono ae) ae ?_) ae ?_) ae ?_)
    all_goals (simp[aa.refs,V.aN,V.refs]<;>omega)
   ·intro r hr
    simp[V.aN,V.refs]at hr
    omega
   ·refine Qr f7 w1 ?_
    rw[<- List.map_append]
   cases Od:s.aR.any brk with
   |true=>
    refine Cw f3 f10 f9 f7 w1 ?_
    refine hbr h0 Od _ _ ae (Good.aA (Good.aA (Good.aA (Good.aA (k2.mono ae) ae ?_) ae ?_) ae ?_) ae ?_) (fun j hj=>by(repeat(first|rfl|rw[ad]|rw[ag _ _ _ _ (by omega)]));exact cD j hj)
    all_goals (simp[aa.refs,V.aN,V.refs]<;>omega)
   |false=>
    refine Cw f3 f10 f9 f7 w1 ?_
    refine aS h0 E hbE Od _ _ (.osl (n2+17) 0) (nx+7) ae (Good.aA (Good.aA (Good.aA (Good.aA (k2.mono ae) ae ?_) ae ?_) ae ?_) ae ?_) (fun j hj=>by(repeat(first|rfl|rw[ad]|rw[ag _ _ _ _ (by omega)]));exact cD j hj) (.inr ⟨n2+17,rfl,ae,ae,by(repeat(first|rfl|rw[ad]|rw[ag _ _ _ _ (by omega)]));rw[List.map_append]⟩) ae HL
    all_goals (simp[aa.refs,V.aN,V.refs]<;>omega)
 ·exact Qx
 ·have h9:o2 (nx+3)= .row [.aM, .aM, .aM, .aM, .aM, .d .dC]:=by rw[k3 _ (by omega) (by omega),g5 _ (by omega) (by omega) (by omega)];(repeat(first|rfl|rw[ad]|rw[ag _ _ _ _ (by omega)]))
  refine HC h9 ?_
  have e5:e=5:=h5
  subst e5
  exact pq (.inl rfl) _ _ ae (Good.aA (k2.mono ae) ae rfl) (fun j hj=>by rw[ag _ _ _ _ (by omega),k3 _ (by omega) (by omega),g5 _ (by omega) (by omega) (by omega)];(repeat(first|rfl|rw[ad]|rw[ag _ _ _ _ (by omega)])))
 ·exact Qx
 ·have h9:o2 (nx+3)= .row [.aM, .aM, .aM, .aM, .aM, .d .dC]:=by rw[k3 _ (by omega) (by omega),g5 _ (by omega) (by omega) (by omega)];(repeat(first|rfl|rw[ad]|rw[ag _ _ _ _ (by omega)]))
  refine HC h9 ?_
  have e5:e=3:=h3
  subst e5
  exact pq (.inr rfl) _ _ ae (Good.aA (k2.mono ae) ae rfl) (fun j hj=>by rw[ag _ _ _ _ (by omega),k3 _ (by omega) (by omega),g5 _ (by omega) (by omega) (by omega)];(repeat(first|rfl|rw[ad]|rw[ag _ _ _ _ (by omega)])))
end Go.Proofs.YtlhemmpklhhgoaaGreat
set_option maxHeartbeats 4000000
namespace Go.Proofs.YtlhemmpklhhgoaaGreat
theorem nN(l:List TB):wc (ah l)=l:=by
 unfold ah wc
 rw[List.map_map]
 exact List.map_id _
theorem zw{s:aB}{t:Tm}(h:br s t=true):t.zQ:=Tm.DY _ (by have:=(cV h).2.1;omega)
theorem o7.len {s:aB}{l:List TB}(h:o7 s (ah l)):l.length<=20:=by
 have:=DM h.keys fun v hv=>by
  obtain⟨p,hp,rfl⟩:=List.mem_map.1 hv
  exact(h.ok p hp).1
 rw[List.length_map]at this
 unfold ah at this
 rwa [List.length_map]at this
theorem xM{l:List TB}(hl:l.length<=1000){t x:Tm}{f:Nat}(h:jG f (ah l) t=some x):aV Tryz.prog 137 [.sl (l.map TB.d),t.d] (.ret [x.d]):=by
 refine aV.aJ mix Zd aG ?_
 rw[Zc]
 refine bJ ?_
 refine aF (fun i:Nat×Tm=>⟨bf [.d (.sl (l.map TB.d)), .ab, .ab, .ptr 0 0, .ptr 1 0],aA (aA (fun _=> .no) 0 (.row i.2.row)) 1 (.row [.d (.i 0), .d (.i 0), .aM]),2⟩)
  (fun i=>jG i.1 (ah l) i.2=some x) (fun i=>i.1) (f,t) h ?_ ?_
 ·exact Lq
 rintro⟨f,t⟩ hf
 simp only at hf
 cases f with
 |zero=>cases hf
 |succ f=>
 simp only[jG]at hf
 by_cases h1:t.op=1
 ·have eM:(t.op==1)=true:=by simpa using h1
  rw[if_pos h1]at hf
  refine pk eM ?_
  refine aj (kT l t.n ae) rfl ?_
  rcases tp l t.n with⟨g1,g2⟩|⟨k,y,g1,g2,g3⟩
  ·have Cv:decide (findF l t.n≥0)=false:=by simp;omega
   rw[g2]at hf
   injection hf with hf
   subst hf
   simp+contextual (disch:=first|omega|simp only[go_sem,false_implies]) only[go_sem,wrap64,if_pos,eM,Cv]
  ·have Cv:decide (((k:Nat):Int)≥0)=true:=aG
   rw[g3]at hf
   refine Cz eM g1 Cv ?_
   refine aj (kT l t.n ae) rfl ?_
   refine HH eM g1 Cv g2 ?_
   refine aq (f,y.term) hf pt (bM.bH _ ae ae dt (fun j hj=> ?_) ?_)
   ·have Q5:j<2:=hj
    rcases(show j=0\/j=1 from ae)with rfl|rfl
    ·exact dH
    ·exact dH
   ·exact dU
 ·have eM:(t.op==1)=false:=by simpa using h1
  exact Oa
theorem pa{s:aB}{l:List TB}(hb:o7 s (ah l))(hv:∀p∈ah l,br s p.2=true){n:Int}{y:Tm}(hn:bL (ah l) n=none)(hr:0<=n/\n<20)(hy:br s y=true){e:Int}{b':List (Int×Tm)}(h:dY true (ah l) n y=(e,b')):
 aV Tryz.prog 138 [.sl (l.map TB.d), .i n,y.d] (.ret [.sl (if e=0 then(wc b').map TB.d else []), .i e]):=by
 have hlen:=hb.len
 have hyq:=jx hy
 obtain⟨is,zo⟩:∃is:Bool,is=true↔lY (ah l) n y:=by
  classical
  exact⟨decide (lY (ah l) n y),aG⟩
 refine aV.aJ mix Zf aG ?_
 rw[Ze]
 refine bJ ?_
 refine aj (vo ae (fun p hp=>(hb.ok p hp).2.vs) (fun p hp=>zw (hv p hp)) n y hyq.vs (zw hy) zo) rfl ?_
 cases is with
 |true=>
  have ky:dY true (ah l) n y=(5,ah l):=by unfold dY;rw[if_pos (zo.1 rfl)]
  rw[ky]at h
  cases h
  exact l6
 |false=>
  have Lb: ¬lY (ah l) n y:=fun h=>Bool.false_ne_true (zo.2 h)
  have wI:=vl hb hn hr hyq Lb
  have ea:ah l++[(n,y)]=ah (l++[⟨n,y⟩]):=by rw[dZ];rfl
  obtain⟨fo,vH⟩:∃fo:Bool,fo=true↔∀x∈l++[(⟨n,y⟩:TB)],sX (ah (l++[⟨n,y⟩])) x.term:=by
   classical
   exact⟨decide (∀x∈l++[(⟨n,y⟩:TB)],sX (ah (l++[⟨n,y⟩])) x.term),aG⟩
  rw[ea]at wI
  obtain⟨l',MR,R',He,Ez⟩:=wI.sim
  have aW:(∀p∈ah l++[(n,y)],sX (ah l++[(n,y)]) p.2)↔∀x∈l++[(⟨n,y⟩:TB)],sX (ah (l++[⟨n,y⟩])) x.term:=by
   rw[ea]
   exact⟨fun h x hx=>h _ (gY hx),fun h p hp=>by obtain⟨x,hx,rfl⟩:=dg hp;exact h x hx⟩
  have aay:=sG (l:=l++[⟨n,y⟩]) gH (fun p hp=>(wI.ok p hp).2.fits) (fun p hp=>by obtain⟨r,hr⟩:=Ac He 12 p.2 40 (wI.ok p hp).2.vs;exact⟨_,r,hr⟩) vH
  rw[List.map_append]at aay
  have j9:(l.length<=140737488355327/\(l.length+1)*48<=140737488355328):=ae
  refine rT j9 ?_
  refine aL ai ?_
  refine rT j9 ?_
  refine aj aay rfl ?_
  cases fo with
  |false=>
   have ky:dY true (ah l) n y=(3,ah l++[(n,y)]):=by unfold dY;rw[if_neg Lb,if_pos ⟨rfl,fun h=>Bool.false_ne_true (vH.2 (aW.1 h))⟩]
   rw[ky]at h
   cases h
   exact l6
  |true=>
   have ky:dY true (ah l) n y=(0,ah l++[(n,y)]):=by unfold dY;rw[if_neg Lb,if_neg (fun h=>h.2 (aW.2 (vH.1 rfl)))]
   rw[ky]at h
   cases h
   rw[ea,nN]
   refine bJ ?_
   rw[List.map_append]
   rfl
theorem vu{s:aB}:∀ (f:Nat) (t u:Tm) (l:List TB) (e:Int) (b':List (Int×Tm)),iQ true f t u (ah l)=some (e,b')->o7 s (ah l)->Inv s true (ah l)->br s t=true->br s u=true->
 aV Tryz.prog 113 [.sl (l.map TB.d),t.d,u.d] (.ret [.sl (if e=0 then(wc b').map TB.d else []), .i e])
 |0,_,_,_,_,_,h,_,_,_,_=>by cases h
 |f+1,t,u,l,e,b',h,hb,hI,ht,hu=>by
  have hlen:=hb.len
  simp only[iQ]at h
  obtain⟨x,hx,qx,nx⟩:=eL hb (jx ht)
  obtain⟨y,hy,qy,ny⟩:=eL hb (jx hu)
  rw[hx,hy]at h
  dsimp only at h
  obtain⟨ga,Kd⟩:=kR hx
  obtain⟨gc,tY⟩:=kR hy
  have K2:∀p∈ah l,br s p.2=true:=fun p hp=>(hI.ok p hp).2
  have vx:=vj K2 ga t x Kd ht
  have vy:=vj K2 gc u y tY hu
  have hsg:=(qC.1 vx).1
  have Hc:=((Tm.bF x).1 qx.fits).1
  refine aV.aJ mix YT aG ?_
  rw[YS]
  refine bJ ?_
  refine dk (xM ae Kd) ?_
  refine bJ ?_
  refine dk (xM ae tY) ?_
  refine bJ ?_
  refine aL ai ?_
  by_cases h1:x.op=1
  ·obtain⟨rx,ex⟩:=nK vx h1
   have eM:(x.op==1)=true:=by simpa using h1
   rw[if_pos h1]at h
   by_cases h2:y.op=1
   ·obtain⟨ry,ey⟩:=nK vy h2
    have iK:(y.op==1)=true:=by simpa using h2
    rw[if_pos h2]at h
    by_cases h3:x.n=y.n
    ·have lT:(x.n==y.n)=true:=by simpa using h3
     rw[if_pos h3]at h
     cases h
     rw[nN]
     simp+contextual (disch:=first|omega|simp only[go_sem,false_implies]) only[go_sem,wrap64,if_pos,eM,iK,lT]
    ·have lT:(x.n==y.n)=false:=by simpa using h3
     rw[if_neg h3]at h
     injection h with h
     have M6:bL (ah l) (max x.n y.n)=none:=by
      rw[Int.max_def];split
      ·exact ny h2
      ·exact nx h1
     have Az:max x.n y.n=if y.n>x.n then y.n else x.n:=by rw[Int.max_def];split<;>split<;>omega
     have hmn:min x.n y.n=if y.n<x.n then y.n else x.n:=by rw[Int.min_def];split<;>split<;>omega
     have hrx:0<=max x.n y.n/\max x.n y.n<20:=ae
     have hry:=FA hsg (v:=min x.n y.n) ae
     rw[Az]at h M6 hrx
     rw[hmn]at h hry
     refine Cz eM iK lT ?_
     refine dk (Tt _) ?_
     refine bJ ?_
     refine dk (pa hb K2 M6 hrx hry h) ?_
     exact Lp
   ·have iK:(y.op==1)=false:=by simpa using h2
    rw[if_neg h2]at h
    injection h with h
    refine Lg eM iK ?_
    refine ba (pa hb K2 (nx h1) rx vy h) ?_
    exact l6
  ·have eM:(x.op==1)=false:=by simpa using h1
   rw[if_neg h1]at h
   by_cases h2:y.op=1
   ·obtain⟨ry,ey⟩:=nK vy h2
    have iK:(y.op==1)=true:=by simpa using h2
    rw[if_pos h2]at h
    injection h with h
    refine Lg eM iK ?_
    refine ba (pa hb K2 (ny h2) ry vx h) ?_
    exact l6
   ·have iK:(y.op==1)=false:=by simpa using h2
    rw[if_neg h2]at h
    by_cases h3:x.op=y.op/\x.n=y.n/\x.kids.length=y.kids.length
    ·rw[if_pos h3]at h
     obtain⟨k1,k2,k3⟩:=h3
     have On:(x.op !=y.op)=false:=by simpa using k1
     have k2':(x.n !=y.n)=false:=by simpa using k2
     have k3':((x.kids.length:Int)!=(y.kids.length:Int))=false:=by rw[bne_eq_false_iff_eq];omega
     simp+contextual (disch:=first|omega|simp only[go_sem,false_implies]) only[go_sem,wrap64,if_pos,eM,iK,On,k2',k3',List.length_map]
     refine aF (fun i:Nat×List TB=>⟨bf [.d (.sl (i.2.map TB.d)), .ab, .ab, .ab, .ptr 0 0, .ptr 1 0, .ab, .ab, .d (.i i.1)],aA (aA (fun _=> .no) 0 (.row x.row)) 1 (.row y.row),2⟩)
      (fun i=>i.1<=x.kids.length/\np (iQ true f) (x.kids.drop i.1) (y.kids.drop i.1) (ah i.2)=some (e,b')/\o7 s (ah i.2)/\Inv s true (ah i.2)) (fun i=>x.kids.length - i.1) (0,l) ⟨Nat.zero_le _,h,hb,hI⟩ ?_ ?_
     ·refine bM.bH _ ae ae dt (fun j hj=> ?_) ?_
      ·have Q5:j<2:=hj
       rcases(show j=0\/j=1 from ae)with rfl|rfl
       ·exact dH
       ·exact dH
      ·exact dU
     rintro⟨k,L⟩ ⟨hk,hL,hA,hJ⟩
     dsimp only at hk hL hA hJ|-
     refine zR ?_
     refine au (fun h6=> ?_) (fun h6=> ?_)
     ·replace h6:k<x.kids.length:=by simp at h6;omega
      obtain⟨xk,hxk⟩:=aD h6
      obtain⟨yk,hyk⟩:=aD (k3 ▸ h6:k<y.kids.length)
      have dx:x.kids.drop k=xk::x.kids.drop (k+1):=by
       obtain⟨i1,i2⟩:=List.getElem?_eq_some_iff.1 hxk
       exact zU
      have dy:y.kids.drop k=yk::y.kids.drop (k+1):=by
       obtain⟨i1,i2⟩:=List.getElem?_eq_some_iff.1 hyk
       exact zU
      rw[dx,dy]at hL
      simp only[np]at hL
      have vxk:=tu vx (List.mem_of_getElem? hxk)
      have vyk:=tu vy (List.mem_of_getElem? hyk)
      cases hq:iQ true f xk yk (ah L)with
      |none=>rw[hq]at hL;cases hL
      |some q=>
       obtain⟨e1,b1⟩:=q
       rw[hq]at hL
       dsimp only at hL
       refine zS hxk hyk ?_
       refine dk (vu f xk yk L e1 b1 hq hA hJ vxk vyk) ?_
       by_cases e0:e1=0
       ·subst e0
        rw[if_pos rfl]at hL|-
        have hA':=(vm f xk yk _ b1 hq hA (jx vxk) (jx vyk)).1
        have hJ':=(eq_inv f xk yk _ b1 hq hJ vxk vyk).1
        refine bJ ?_
        refine aL (bc rfl) ?_
        refine bJ ?_
        refine aq (k+1,wc b1) ⟨h6,by rw[tv];exact hL,by rw[tv];exact hA',by rw[tv];exact hJ'⟩ pt (bM.bH _ ae ae dt (fun j hj=>rfl) ?_)
        exact dU
       ·have e0':(e1 !=0)=true:=by simpa using e0
        rw[if_neg e0]at hL|-
        cases hL
        rw[if_neg e0]
        refine bJ ?_
        refine aL (bc rfl) ?_
        exact Cy e0'
     ·replace h6:k=x.kids.length:=by simp at h6;omega
      subst h6
      rw[List.drop_length]at hL
      simp only[np]at hL
      cases hL
      rw[if_pos rfl,nN]
      exact l6
    ·rw[if_neg h3]at h
     cases h
     by_cases k1:x.op=y.op
     ·have On:(x.op !=y.op)=false:=by simpa using k1
      by_cases k2:x.n=y.n
      ·have k2':(x.n !=y.n)=false:=by simpa using k2
       have k3':((x.kids.length:Int)!=(y.kids.length:Int))=true:=by
        rw[bne_iff_ne]
        exact fun e=>h3 ⟨k1,k2,ae⟩
       simp+contextual (disch:=first|omega|simp only[go_sem,false_implies]) only[go_sem,wrap64,if_pos,eM,iK,On,k2',k3',List.length_map]
      ·have k2':(x.n !=y.n)=true:=by simpa using k2
       simp+contextual (disch:=first|omega|simp only[go_sem,false_implies]) only[go_sem,wrap64,if_pos,eM,iK,On,k2',List.length_map]
     ·have On:(x.op !=y.op)=true:=by simpa using k1
      exact Qu eM iK On
end Go.Proofs.YtlhemmpklhhgoaaGreat
