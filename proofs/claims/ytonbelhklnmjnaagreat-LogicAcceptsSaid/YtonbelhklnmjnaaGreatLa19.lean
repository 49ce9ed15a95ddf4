/-
  A PART OF THE PROOF. Conditions: none.
-/
import Derived.Test.YtonbelhklnmjnaaGreatLa18
set_option linter.unusedSimpArgs false
set_option linter.unusedVariables false
namespace Go.Proofs.YtonbelhklnmjnaaGreat
theorem MQ:gA.d= .agg [.i 16, .i 0, .sl []]:=by unfold gA;rw[Tm.lH];rfl
theorem FJ(b:Bool):(dT b).d= .agg [.i 3, .i (if b=true then 1 else 0), .sl []]:=by unfold dT;rw[Tm.lH];rfl
theorem MR:aR Tryz.prog 45 [] (.ret [gA.d]):=by
 refine aR.ay mix aax au ?_
 rw[c45,MQ]
 exact bR
theorem oR:aR Tryz.prog 149 [] (.ret [(dT true).d]):=by
 refine aR.ay mix abT au ?_
 rw[abS,FJ]
 exact bR
theorem MS:aR Tryz.prog 203 [] (.ret [(dT false).d]):=by
 refine aR.ay mix acq au ?_
 rw[acp,FJ]
 exact bR
theorem DU(b:Bool):aR Tryz.prog 151 [.bool b] (.ret [(dT b).d]):=by
 refine aR.ay mix abX au ?_
 rw[abW]
 cases b with
 |true=>
  refine aG ?_
  refine aO oR ?_
  exact bR
 |false=>
  refine aG ?_
  refine aO MS ?_
  exact bR
def bdN(n:Int):Prop:= -1000000<=n/\n<=1000000
theorem Bj(op a b:Int):(om op a b).d=if op=15 then(dT (decide (a<b))).d else .agg [.i 2, .i (if op=14 then a - b else a+b), .sl []]:=by
 unfold om
 split
 ·rfl
 ·rw[Tm.lH];rfl
def Jk(op a b:Int):Bool:=if op=15 then true else cP (if op=14 then a - b else a+b) (-1000000) 1000000
theorem XG(op a b:Int)(ha:bdN a)(hb:bdN b):aR Tryz.prog 152 [.i op, .i a, .i b] (.ret [(om op a b).d, .bool (Jk op a b)]):=by
 obtain⟨a0,a1⟩:=ha
 obtain⟨b0,b1⟩:=hb
 refine aR.ay mix abZ au ?_
 rw[abY,Bj,Jk]
 by_cases h1:op=15
 ·subst h1
  refine aG ?_
  refine aO (DU _) ?_
  exact bR
 ·have bJ:(op==15)=false:=by simpa using h1
  rw[if_neg h1,if_neg h1]
  by_cases h2:op=14
  ·subst h2
   refine aG ?_
   refine ag (wz _ _ _) rfl ?_
   exact bR
  ·have iR:(op==14)=false:=by simpa using h2
   rw[if_neg h2]
   refine s9 bJ iR ?_
   refine ag (wz _ _ _) rfl ?_
   exact bR
theorem Qh(l:List Pf)(hl:l.length<=1000000):aR Tryz.prog 143 [.sl (l.map Pf.d)] (.ret [.sl ((l.map Pf.val).map Tm.d)]):=by
 refine aR.ay mix abH au ?_
 rw[abG]
 refine aG ?_
 refine aE (fun i:Nat=>⟨bz [.d (.sl (l.map Pf.d)), .aa, .aa, .osl 0 0, .d (.i i)],aK (fun _=> .no) 0 (.arr 0 31 3 (((l.take i).map Pf.val).map Tm.d)),1⟩)
  (fun i=>i<=l.length) (fun i=>l.length - i) 0 (Nat.zero_le _) (bE.gU (ty:=31) (sz:=3) (es:=[]) (fun _=>False) .bT 0 _ ad (fun j hj=>absurd hj ad) (by rw[ab];simp) (.inl ⟨rfl,rfl,aT⟩) (fun j hj=>by(repeat(first|rfl|rw[ab]|rw[aj _ _ _ _ (by omega)]))) (fun _ h=>h.elim) ?_) ?_
 ·exact nj
 rintro k hk
 replace hk:k<=l.length:=hk
 have e0:(l.take k).length=k:=by rw[List.length_take];omega
 refine dn e0 ?_
 refine aq (fun h2=> ?_) (fun h2=> ?_)
 ·simp at h2
  obtain⟨x,hx⟩:=aw h2
  have wU:l.take (k+1)=l.take k++[x]:=by rw[List.take_add_one,hx];rfl
  refine iT hx e0 ?_
  refine ax (k+1) h2 ad (bE.gU (fun j=>j=0) (.osl 0 1) 0 _ ad (fun j hj=>absurd hj ad) (ab _ _ _) (.inr ⟨0,1,rfl,rfl,by rw[ab,wU,List.map_append,List.map_append];rfl⟩) (fun j hj=>by(repeat(first|rfl|rw[ab]|rw[aj _ _ _ _ (by omega)]))) (fun j h h2=>ad) ?_)
  exact nj
 ·simp at h2
  have rT:k=l.length:=ad
  subst rT
  rw[List.take_length]
  exact bR
theorem DV{l:List Tm}{t x:Tm}(h1:t.op=1)(hx:l[t.n.toNat]? =some x):eS l t=x:=by rw[rE,if_pos h1,hx];rfl
def s5(n:Nat)(t:Tm):Prop:=∀x∈iV t,x.op=1->0<=x.n/\x.n<n
theorem s5.gx {n:Nat}{t k:Tm}(h:s5 n t)(hk:k∈t.kids):s5 n k:=fun x hx=>h x (by rw[mH];exact List.mem_cons_of_mem _ (List.mem_flatMap.2 ⟨k,hk,hx⟩))
theorem XH(l:List Tm)(hl:l.length<=1000000):∀t:Tm,t.fits->t.sz<=1000000->s5 l.length t->aR Tryz.prog 145 [t.d, .sl (l.map Tm.d)] (.ret [(eS l t).d]):=by
 refine Tm.cB fun t ih hf hz ho=> ?_
 have fy:=(Tm.aJ _).1 hf
 have rS:=Tm.iU t
 refine aR.ay mix abL au ?_
 rw[abK]
 by_cases h1:t.op=1
 ·have bJ:(t.op==1)=true:=by simpa using h1
  obtain⟨n0,n1⟩:=ho t (by rw[mH];simp) h1
  obtain⟨x,hx⟩:=aw (l:=l) (k:=t.n.toNat) ad
  rw[DV h1 hx]
  exact TH bJ hx n0
 ·have bJ:(t.op==1)=false:=by simpa using h1
  rw[rE,if_neg h1]
  refine cg bJ ?_
  refine aE (fun i:Nat=>⟨bz [.aa, .d (.sl (l.map Tm.d)), .ptr 0 0, .aa, .ptr 1 0, .osl 2 0, .d (.i i)],aK (aK (aK (fun _=> .no) 0 (.row t.row)) 1 (.row [.d (.i 0), .d (.i 0), .bT])) 2 (.arr 0 31 3 (((t.kids.take i).map (eS l)).map Tm.d)),3⟩)
   (fun i=>i<=t.kids.length) (fun i=>t.kids.length - i) 0 (Nat.zero_le _) (bE.gU (ty:=31) (sz:=3) (es:=[]) (fun _=>False) .bT 2 _ ad (lt2 (bw rfl fH) (bw rfl fH)) (by rw[ab];simp) (.inl ⟨rfl,rfl,aT⟩) (fun j hj=>by(repeat(first|rfl|rw[ab]|rw[aj _ _ _ _ (by omega)]))) (fun _ h=>h.elim) ?_) ?_
  ·exact nj
  rintro k hk
  replace hk:k<=t.kids.length:=hk
  refine fT ?_
  refine aq (fun h2=> ?_) (fun h2=> ?_)
  ·simp at h2
   obtain⟨x,hx⟩:=aw h2
   have cw:=List.mem_of_getElem? hx
   have Ea:=kP cw
   have rT:t.kids.length<=1000000:=by
    have:∀l:List Tm,l.length<=fU l:=fun l=>by
     induction l with
     |nil=>simp
     |cons k l ih=>rw[ej,List.length_cons];have:=Tm.A1 k;omega
    have:=this t.kids;omega
   have wU:t.kids.take (k+1)=t.kids.take k++[x]:=by rw[List.take_add_one,hx];rfl
   have e0:(t.kids.take k).length=k:=by rw[List.length_take];omega
   refine iT hx e0 ?_
   refine aO (ih x cw (fy.2 x cw) ad (ho.gx cw)) ?_
   refine iT hx e0 ?_
   refine ax (k+1) h2 ad (bE.gU (fun j=>j=2) (.osl 2 1) 2 _ ad (lt2 (cp (y:= .row t.row) cY cY (bw rfl fH)) (cp (y:= .row [.d (.i 0), .d (.i 0), .bT]) cY cY (bw rfl fH))) (ab _ _ _) (.inr ⟨2,1,rfl,rfl,by(repeat(first|rfl|rw[ab]|rw[aj _ _ _ _ (by omega)]));rw[wU,List.map_append,List.map_append];rfl⟩) (fun j hj=>by(repeat(first|rfl|rw[ab]|rw[aj _ _ _ _ (by omega)]))) (fun j h h2=>ad) ?_)
   exact nj
  ·simp at h2
   have rT:k=t.kids.length:=ad
   subst rT
   rw[List.take_length]
   refine fT ?_
   rw[Tm.lH]
def iO(n:Nat):List Tm:=(List.range n).map fun i:Nat=> .mk 1 (i:Int) []
theorem wV(n:Nat):iO (n+1)=iO n++[.mk 1 (n:Int) []]:=by simp[iO,List.range_succ]
theorem Qi(n:Nat)(hn:n<=1000):aR Tryz.prog 237 [.i n] (.ret [.sl ((iO n).map Tm.d)]):=by
 refine aR.ay mix acE au ?_
 rw[acD]
 refine aG ?_
 refine aE (fun i:Nat=>⟨bz [.d (.i n), .aa, .aa, .osl 0 0, .d (.i i)],aK (fun _=> .no) 0 (.arr 0 31 3 ((iO i).map Tm.d)),1⟩)
  (fun i=>i<=n) (fun i=>n - i) 0 (Nat.zero_le _) (bE.gU (ty:=31) (sz:=3) (es:=[]) (fun _=>False) .bT 0 _ ad (fun j hj=>absurd hj ad) (by rw[ab];simp[iO]) (.inl ⟨rfl,rfl,aT⟩) (fun j hj=>by(repeat(first|rfl|rw[ab]|rw[aj _ _ _ _ (by omega)]))) (fun _ h=>h.elim) ?_) ?_
 ·exact nj
 rintro k hk
 replace hk:k<=n:=hk
 have e0:(iO k).length=k:=by simp[iO]
 refine dn e0 ?_
 refine aq (fun h2=> ?_) (fun h2=> ?_)
 ·simp at h2
  refine dn e0 ?_
  refine aO (Xp k) ?_
  refine dn e0 ?_
  refine ax (k+1) h2 ad (bE.gU (fun j=>j=0) (.osl 0 1) 0 _ ad (fun j hj=>absurd hj ad) (ab _ _ _) (.inr ⟨0,1,rfl,rfl,by rw[ab,wV,List.map_append];rfl⟩) (fun j hj=>by(repeat(first|rfl|rw[ab]|rw[aj _ _ _ _ (by omega)]))) (fun j h h2=>ad) ?_)
  exact nj
 ·simp at h2
  have rT:k=n:=ad
  subst rT
  exact bR
theorem MT(p:Pg)(f:Int)(x:jW)(h0:0<=f)(hx:p.sig.bZ[f.toNat]? =some x)(h1:0<=x.args)(h2:x.args<=1000):aR Tryz.prog 202 [p.d, .i f] (.ret [.sl ((iO x.args.toNat).map Tm.d)]):=by
 have:=Qi x.args.toNat ad
 rw[show((x.args.toNat:Nat):Int)=x.args by omega]at this
 refine aR.ay mix aco au ?_
 rw[acn]
 refine s9 hx h0 ?_
 refine aO this ?_
 exact bR
theorem Jl(p:Pg)(f:Int)(x:jW)(h0:0<=f)(hx:p.sig.bZ[f.toNat]? =some x)(h1:0<=x.args)(h2:x.args<=1000):aR Tryz.prog 148 [p.d, .i f] (.ret [(lr p.sig f).d]):=by
 have e:(lr p.sig f).d= .agg [.i 4, .i f, .sl ((iO x.args.toNat).map Tm.d)]:=by
  unfold lr
  rw[Tm.lH,fl hx];rfl
 refine aR.ay mix abR au ?_
 rw[abQ,e]
 refine aG ?_
 refine aO (MT p f x h0 hx h1 h2) ?_
 exact bR
theorem zE:aR Tryz.prog 94 [.sl []] (.ret [.sl []]):=by
 refine aR.ay mix LK au ?_
 rw[YR]
 have hu:Tryz.prog.underlying 28=some (.slice 31):=ah
 have heq:∀O,qx Tryz.prog O 28 true (.d (.sl [])) .bT=some .fm:=by
  intro O
  unfold qx
  rw[hu]
  rfl
 refine cg heq ?_
 simp only[List.isEmpty_nil,if_true]
 exact uU heq
theorem wW(l:List Tm)(iQ:l≠[])(hl:l.length<=1000000)(o:Nat->ae)(nx:Nat)(K X:V->(Nat->ae)->Nat->Prop)
 (hK:K (.osl (nx+3) 1) (aK o (nx+3) (.arr 1 31 3 (l.map Tm.d))) (nx+7)):
 cU Tryz.prog 94 [.d (.sl (l.map Tm.d))] o nx K X:=by
 refine cU.ay mix LK au ?_
 rw[YR]
 have hu:Tryz.prog.underlying 28=some (.slice 31):=ah
 have heq:∀O,qx Tryz.prog O 28 true (.d (.sl (l.map Tm.d))) .bT=some (.d (.bool false)):=by
  intro O
  unfold qx
  rw[hu]
  cases l with
  |nil=>exact absurd rfl iQ
  |cons a l=>rfl
 refine BD heq ?_
 simp only[List.isEmpty_nil,if_true]
 refine BD heq ?_
 rw[iG]
 exact hK
theorem DW(l:List Tm)(hl:l.length<=1000000)(h:∀t∈l,aR Tryz.prog 53 [.sl (t.kids.map Tm.d)] (.ret [.sl (t.kids.map Tm.d)])):aR Tryz.prog 53 [.sl (l.map Tm.d)] (.ret [.sl (l.map Tm.d)]):=by
 refine aR.ay mix aaz au ?_
 rw[c53]
 cases iQ:l with
 |nil=>
  refine aG ?_
  refine aO zE ?_
  refine aG ?_
  refine aE (fun _:Unit=>⟨bz [.aa, .aa, .aa, .d (.sl []), .aa, .aa, .aa, .aa, .d (.sl []), .d (.i 0), .d (.i 0)],fun _=> .no,1⟩) (fun _=>True) (fun _=>0) () trivial (bE.bS _ ad ad dp (fun _ _=>rfl) ?_) (fun _ _=> ?_)
  ·exact cz
  exact bR
 |cons a r=>
  rw[<- iQ]
  have XI:l≠[]:=by rw[iQ];simp
  refine aG ?_
  refine c6 (wW l XI hl _ _ _ _ ?_)
  refine aG ?_
  refine aE (fun i:Nat=>⟨bz [.aa, .aa, .aa, .osl 5 1, .aa, .aa, .aa, .aa, .osl 5 1, .d (.i l.length), .d (.i i)],aK (fun _=> .no) 5 (.arr 1 31 3 (l.map Tm.d)),6⟩)
   (fun k=>k<=l.length) (fun k=>l.length - k) 0 (Nat.zero_le _) (bE.bS _ ad ad dp (fun j hj=>by(repeat(first|rfl|rw[ab]|rw[aj _ _ _ _ (by omega)]))) ?_) (fun k hk=> ?_)
  ·exact cz
  replace hk:k<=l.length:=hk
  refine aG ?_
  refine aq (fun h2=> ?_) (fun h2=> ?_)
  ·simp at h2
   obtain⟨x,hx⟩:=aw h2
   have cw:=List.mem_of_getElem? hx
   refine cg hx ?_
   refine aO (h x cw) ?_
   refine cg hx ?_
   have hxd:x.d= .agg [.i x.op, .i x.n, .sl (x.kids.map Tm.d)]:=by cases x;rw[Tm.lH];rfl
   have mZ:(l.map Tm.d).set k x.d=l.map Tm.d:=by
    apply List.ext_getElem?
    intro i
    rw[List.getElem?_set]
    by_cases e:k=i
    ·subst e
     rw[if_pos rfl,if_pos (by simpa using h2),List.getElem?_map,hx];rfl
    ·rw[if_neg e]
   simp only[hxd,List.length_cons,List.length_nil,List.take,List.drop,List.append_nil,List.cons_append,List.nil_append]
   rw[if_pos (by omega)]
   refine cg mZ ?_
   refine ax (k+1) h2 ad (bE.bS _ ad ad dp (fun j hj=> ?_) ?_)
   ·skip
    by_cases e:j=5
    ·subst e;(repeat(first|rfl|rw[ab]|rw[aj _ _ _ _ (by omega)]))
    ·rw[aj _ _ _ _ e,aj _ _ _ _ (by omega),aj _ _ _ _ (by omega)]
   ·exact cz
  ·simp at h2
   exact bR
theorem Qj{l:List Tm}{k:Tm}(h:k∈l):k.sz<=fU l:=by
 induction l with
 |nil=>cases h
 |cons x l ih=>
  rw[ej]
  rcases List.mem_cons.1 h with rfl|h
  ·omega
  ·have:=ih h;omega
theorem Hd:∀l:List Tm,l.length<=fU l
 |[]=>Nat.zero_le _
 |x::l=>by
  have:=Hd l
  have:=Tm.A1 x
  rw[ej,List.length_cons];omega
theorem DX:∀t:Tm,t.sz<=1000000->aR Tryz.prog 53 [.sl (t.kids.map Tm.d)] (.ret [.sl (t.kids.map Tm.d)]):=by
 refine Tm.cB fun t ih hz=> ?_
 rw[Tm.iU]at hz
 have h1:=Hd t.kids
 exact DW t.kids ad fun k hk=>ih k hk (by have:=Qj hk;omega)
theorem MU(l:List Tm)(hl:l.length<=1000000)(h:∀t∈l,t.sz<=1000000):aR Tryz.prog 53 [.sl (l.map Tm.d)] (.ret [.sl (l.map Tm.d)]):=
 DW l hl fun t ht=>DX t (h t ht)
def uv:Tm:= .mk 0 0 []
theorem qh:uv.d= .agg [.i 0, .i 0, .sl []]:=by unfold uv;rw[Tm.lH];rfl
theorem Qk(t:Tm)(ht:t.fits):aR Tryz.prog 14 [t.d] (.ret [.bool (aI t uv)]):=by
 refine aR.ay mix aef au ?_
 rw[c14]
 have h:=ei t ht uv (by simp[uv,Tm.fits,Tm.jB])
 rw[qh]at h
 refine aG ?_
 refine ag h rfl ?_
 exact bR
theorem rJ{c:Nat}{G:List Gr}{so:Nat->ae}{gone:Nat->Prop}{x x' y y':ae}(h:x=y)(h':x'=y')(hs:xK c G so gone y y'):xK c G so gone x x':=by rw[h,h'];exact hs
@[reducible] def DY (B:Nat->ae) (r c:Nat) (ds:List D) (ty sz:Nat) (es:List D):Nat->ae:=aK (aK B r (.row (ds.map .d++[.osl c 0]))) c (.arr 0 ty sz es)
theorem Bk{c:Nat}{G:List Gr}{so:Nat->ae}{gone:Nat->Prop}{l l':List V}:∀ds:List D,v7 c G so gone l l'->v7 c G so gone (ds.map .d++l) (ds.map .d++l')
 |[],h=>h
 |d::ds,h=>Xb (Bk ds h)
theorem MV(B:Nat->ae)(r c:Nat)(ds:List D)(ty sz:Nat)(es:List D):DY B r c ds ty sz es c= .arr 0 ty sz es:=ab _ _ _
theorem MW(B:Nat->ae){r c:Nat}(h:r<c)(ds:List D)(ty sz:Nat)(es:List D):DY B r c ds ty sz es r= .row (ds.map .d++[.osl c 0]):=(aj _ _ _ _ ad).trans (ab _ _ _)
theorem uQ(B:Nat->ae){r c j:Nat}(h:j≠r)(h2:j≠c)(ds:List D)(ty sz:Nat)(es:List D):DY B r c ds ty sz es j=B j:=(aj _ _ _ _ h2).trans (aj _ _ _ _ h)
theorem s6{B:Nat->ae}{r c:Nat}{ds:List D}{ty sz:Nat}{e:Nat->V}{so:Nat->ae}{m:Nat}(l:List V)(hg:Good B c)(xz:∀j,c<=j->B j= .no)(hr:r<c)(ho:∀j,j<c->j≠r->so j=B j)(ck:so r= .row (ds.map .d++[.bT]))(ed:0<sz)
 (he:na c [⟨.bT,ty,sz,[]⟩] so (fun _=>False) e l 0):bE 0 ⟨e,so,m⟩ ⟨bz l,DY B r c ds ty sz [],c+1⟩:=by
 refine bE.gU (fun _=>False) .bT c _ ad (fun j hj=> ?_) (MV _ _ _ _ _ _ _) (.inl ⟨rfl,rfl,ed⟩) (fun j hj=> ?_) (fun _ h=>h.elim) he
 ·by_cases e1:j=r
  ·subst e1
   exact rJ (y:= .row (ds.map .d++[.bT])) ck (MW B hr ds ty sz _) (Dc rfl (Bk ds (LP (g:=⟨.bT,ty,sz,[]⟩) 0 rfl rfl rfl Db)))
  ·exact rJ (y:=B j) (ho j hj e1) (uQ B e1 ad ds ty sz _) (bw rfl (fun q hq=>hg.refs j q hq))
 ·exact(uQ B ad ad ds ty sz _).trans (xz j ad)
theorem DZ{B:Nat->ae}{r c ep:Nat}{ds:List D}{ty sz:Nat}{es:List D}{e:Nat->V}{so:Nat->ae}{m:Nat}(l:List V)(hg:Good B c)(xz:∀j,c<=j->B j= .no)(hr:r<c)(ho:∀j,j<c->j≠r->so j=B j)(ck:so r= .row (ds.map .d++[.osl c ep]))(cV:so c= .arr ep ty sz es)
 (he:na c [⟨.osl c ep,ty,sz,es⟩] so (fun j=>j=c) e l 0):bE 0 ⟨e,so,m⟩ ⟨bz l,DY B r c ds ty sz es,c+1⟩:=by
 refine bE.gU (fun j=>j=c) (.osl c ep) c _ ad (fun j hj=> ?_) (MV _ _ _ _ _ _ _) (.inr ⟨c,ep,rfl,rfl,cV⟩) (fun j hj=> ?_) (fun j h h2=>ad) he
 ·by_cases e1:j=r
  ·subst e1
   exact rJ (y:= .row (ds.map .d++[.osl c ep])) ck (MW B hr ds ty sz _) (Dc rfl (Bk ds (LP (g:=⟨.osl c ep,ty,sz,es⟩) 0 rfl rfl rfl Db)))
  ·exact rJ (y:=B j) (ho j hj e1) (uQ B e1 ad ds ty sz _) (bw rfl (fun q hq=>hg.refs j q hq))
 ·exact(uQ B ad ad ds ty sz _).trans (xz j ad)
theorem cX:∀a:Tm,a.fits->∀b:Tm,b.fits->aR Tryz.prog 218 [a.d,b.d] (.ret [.bool (aI a b)]):=by
 refine Tm.cB fun a ih ha b hb=> ?_
 have PO:=(Tm.aJ _).1 ha
 have FX:=(Tm.aJ _).1 hb
 refine aR.ay mix SJ au ?_
 rw[WD,nZ]
 refine aG ?_
 refine CU (aq (fun h1=> ?_) (fun h1=> ?_))
 ·rw[h1]
  refine cg h1 ?_
  refine br (Mi a.kids b.kids PO.1 FX.1 218 (fun x hx y hy=>ih x hx (PO.2 x hx) y (FX.2 y hy)) _ _ dp _ _ fun o2 n2 m1 m2 m3=> ?_)
  exact uU h1
 ·rw[h1]
  exact uU h1
def ow:D:= .iface 117 (.agg [])
theorem bY:aR Tryz.prog 128 [.bool true] (.ret []):=by
 refine aR.ay mix LM au ?_
 rw[Pw]
 exact bR
theorem a7:aR Tryz.prog 128 [.bool false] (.cc ow):=by
 refine aR.ay mix LM au ?_
 rw[Pw]
 refine aG ?_
 rfl
theorem kQ(b:Bool):aR Tryz.prog 227 [.bool b] (.ret [(dT b).d]):=by
 refine aR.ay mix SS au ?_
 rw[WN,FJ]
 cases b<;>simp+contextual (disch:=first|omega|simp only[go_sem,false_implies]) only[go_sem,wrap64,if_pos,and_self]
theorem wX:aR Tryz.prog 225 [.agg []] (.ret [gA.d]):=by
 refine aR.ay mix SQ au ?_
 rw[WL,MQ]
 exact bR
theorem MX(n:Int):aR Tryz.prog 256 [.i n] (.ret [(Tm.mk 1 n []).d]):=by
 refine aR.ay mix Tc au ?_
 rw[W6,Tm.lH]
 exact bR
theorem MY(l:List Tm)(hl:l.length<=1000000):∀t:Tm,t.fits->t.sz<=1000000->s5 l.length t->aR Tryz.prog 220 [t.d, .sl (l.map Tm.d)] (.ret [(eS l t).d]):=by
 refine Tm.cB fun t ih hf hz ho=> ?_
 have fy:=(Tm.aJ _).1 hf
 have rS:=Tm.iU t
 refine aR.ay mix SL au ?_
 rw[WG]
 by_cases h1:t.op=1
 ·have bJ:(t.op==1)=true:=by simpa using h1
  obtain⟨n0,n1⟩:=ho t (by rw[mH];simp) h1
  obtain⟨x,hx⟩:=aw (l:=l) (k:=t.n.toNat) ad
  rw[DV h1 hx]
  exact TH bJ hx n0
 ·have bJ:(t.op==1)=false:=by simpa using h1
  rw[rE,if_neg h1]
  refine cg bJ ?_
  have hB:Good (aK (aK (fun _=> .no) 0 (.row t.row)) 1 (.row [.d (.i 0), .d (.i 0), .bT])) 16:=dp
  have xz:∀j,16<=j->(aK (aK (fun _=>ae.no) 0 (.row t.row)) 1 (.row [.d (.i 0), .d (.i 0), .bT])) j= .no:=fun j hj=>by(repeat(first|rfl|rw[ab]|rw[aj _ _ _ _ (by omega)]))
  refine aE (fun i:Nat=>⟨bz [.aa, .d (.sl (l.map Tm.d)), .ptr 0 0, .aa, .ptr 1 0, .ptr 10 0, .aa, .aa, .aa, .aa, .aa, .aa, .aa, .aa, .aa, .aa, .aa, .aa, .aa, .aa, .aa, .aa, .d (.sl (t.kids.map Tm.d)), .d (.i t.kids.length), .d (.i i)],aK (aK (aK (aK (fun _=> .no) 0 (.row t.row)) 1 (.row [.d (.i 0), .d (.i 0), .bT])) 10 (.row [.d (.i t.op), .d (.i t.n), .osl 16 0])) 16 (.arr 0 31 3 (((t.kids.take i).map (eS l)).map Tm.d)),17⟩)
   (fun i=>i<=t.kids.length) (fun i=>t.kids.length - i) 0 (Nat.zero_le _) (s6 (r:=10) (ds:=[.i t.op, .i t.n]) _ hB xz ad (fun j hj iQ=>rY) cY ad ?_) ?_
  ·exact nj
  rintro k hk
  replace hk:k<=t.kids.length:=hk
  refine fT ?_
  refine aq (fun h2=> ?_) (fun h2=> ?_)
  ·simp at h2
   obtain⟨x,hx⟩:=aw h2
   have cw:=List.mem_of_getElem? hx
   have Ea:=kP cw
   have rT:t.kids.length<=1000000:=by have:=wO t.kids;omega
   have wU:t.kids.take (k+1)=t.kids.take k++[x]:=by rw[List.take_add_one,hx];rfl
   have e0:(t.kids.take k).length=k:=by rw[List.length_take];omega
   refine iT hx e0 ?_
   refine aZ (ih x cw (fy.2 x cw) ad (ho.gx cw)) ?_
   refine iT hx e0 ?_
   refine ai aT ?_
   refine iT hx e0 ?_
   refine ax (k+1) h2 ad (DZ (r:=10) (c:=16) (ep:=1) (ds:=[.i t.op, .i t.n]) _ hB xz ad (fun j hj iQ=>rY) cY (by(repeat(first|rfl|rw[ab]|rw[aj _ _ _ _ (by omega)]));rw[wU,List.map_append,List.map_append];rfl) ?_)
   exact nj
  ·simp at h2
   have rT:k=t.kids.length:=ad
   subst rT
   rw[List.take_length]
   refine fT ?_
   rw[Tm.lH]
theorem Ql(p:Pg)(f:Int)(x:jW)(h0:0<=f)(hx:p.sig.bZ[f.toNat]? =some x)(h1:0<=x.args)(h2:x.args<=1000):aR Tryz.prog 228 [p.d, .i f] (.ret [(lr p.sig f).d]):=by
 have e:(lr p.sig f).d= .agg [.i 4, .i f, .sl ((iO x.args.toNat).map Tm.d)]:=by
  unfold lr
  rw[Tm.lH,fl hx];rfl
 refine aR.ay mix SU au ?_
 rw[WO,e]
 refine s9 hx h0 ?_
 have hB:Good (aK (aK (fun _=> .no) 0 (.row p.row)) 1 (.row [.d (.i 0), .d (.i 0), .bT])) 14:=dp
 have xz:∀j,14<=j->(aK (aK (fun _=>ae.no) 0 (.row p.row)) 1 (.row [.d (.i 0), .d (.i 0), .bT])) j= .no:=fun j hj=>by(repeat(first|rfl|rw[ab]|rw[aj _ _ _ _ (by omega)]))
 obtain⟨n,hn⟩:∃n:Nat,x.args=n:=⟨x.args.toNat,ad⟩
 rw[hn]
 have Eh:n<=1000:=ad
 refine aE (fun i:Nat=>⟨bz [.aa, .aa, .ptr 0 0, .aa, .ptr 1 0, .ptr 4 0, .aa, .aa, .aa, .aa, .aa, .aa, .aa, .aa, .aa, .d (.i n), .d (.i i)],aK (aK (aK (aK (fun _=> .no) 0 (.row p.row)) 1 (.row [.d (.i 0), .d (.i 0), .bT])) 4 (.row [.d (.i 4), .d (.i f), .osl 14 0])) 14 (.arr 0 31 3 ((iO i).map Tm.d)),15⟩)
  (fun i=>i<=n) (fun i=>n - i) 0 (Nat.zero_le _) (s6 (r:=4) (ds:=[.i 4, .i f]) _ hB xz ad (fun j hj iQ=>rY) cY ad ?_) ?_
 ·exact nj
 rintro k hk
 replace hk:k<=n:=hk
 have e0:(iO k).length=k:=by simp[iO]
 refine fT ?_
 refine aq (fun h2=> ?_) (fun h2=> ?_)
 ·simp at h2
  refine dn e0 ?_
  refine aZ (MX k) ?_
  refine dn e0 ?_
  refine ai aT ?_
  refine dn e0 ?_
  refine ax (k+1) h2 ad (DZ (r:=4) (c:=14) (ep:=1) (ds:=[.i 4, .i f]) _ hB xz ad (fun j hj iQ=>rY) cY (by(repeat(first|rfl|rw[ab]|rw[aj _ _ _ _ (by omega)]));rw[wV,List.map_append];rfl) ?_)
  exact nj
 ·simp at h2
  have rT:k=n:=ad
  subst rT
  exact TF
@[reducible] def xp (p:Pg) (env:List Tm):D:= .agg [.sl (p.sig.cons.map jW.d), .sl (p.sig.bZ.map jW.d), .sl (p.rules.map Rl.d), .sl (env.map Tm.d)]
@[reducible] def He (p:Pg) (env:List Tm):List V:=[.d (.sl (p.sig.cons.map jW.d)), .d (.sl (p.sig.bZ.map jW.d)), .d (.sl (p.rules.map Rl.d)), .d (.sl (env.map Tm.d))]
theorem MZ(p:Pg)(a b:List Tm):aR Tryz.prog 222 [xp p a, .sl (b.map Tm.d)] (.ret [xp p b]):=by
 refine aR.ay mix SN au ?_
 rw[WI]
 exact bR
theorem Jm{pr:List (List Nat)}{fp:List (List Nat×List Nat)}(h:((List.range fp.length).all fun j=>(List.range j).all fun i=>((eM pr []).getD j 0).testBit i||((fp.getD i ([],[])).2.isEmpty&&(fp.getD j ([],[])).2.isEmpty))=true):iX pr fp=true:=by
 unfold iX
 rw[List.all_eq_true]at h|-
 intro j hj
 have h:=h j hj
 rw[List.all_eq_true]at h|-
 intro i hi
 have h:=h i hi
 rw[Bool.or_eq_true]at h|-
 refine h.imp id fun h=> ?_
 simp only[Bool.and_eq_true,List.isEmpty_iff]at h
 rw[h.1,h.2]
 rfl
def fS(ls:List Int)(L:List Tm):List Tm:=L.mapIdx fun i x=>if ls.contains (i:Int)=true then gA else x
theorem M0(r:Rl)(b:List Tm):fS (bV r.rhs) b=nh r b:=rfl
theorem M3(ls:List Int)(L:List Tm):(fS ls L).length=L.length:=by simp[fS]
theorem M4(L:List Tm):fS [] L=L:=by
 refine List.ext_getElem (by simp[fS]) fun i h1 h2=> ?_
 simp[fS]
theorem tR(a b:List Int)(L:List Tm):fS (a++b) L=fS b (fS a L):=by
 refine List.ext_getElem (by simp[fS]) fun i h1 h2=> ?_
 simp only[fS,List.getElem_mapIdx,List.contains_eq_mem,List.mem_append]
 by_cases ha:(i:Int)∈a
 ·by_cases hb:(i:Int)∈b<;>simp[ha,hb]
 ·by_cases hb:(i:Int)∈b<;>simp[ha,hb]
theorem M5{n:Int}{L:List Tm}(h0:0<=n)(h1:n<L.length):fS [n] L=L.set n.toNat gA:=by
 refine List.ext_getElem (by simp[fS]) fun i h1 h2=> ?_
 simp only[fS,List.getElem_mapIdx,List.getElem_set,List.contains_eq_mem,List.mem_singleton]
 by_cases h:n.toNat=i
 ·rw[if_pos h,if_pos (by simp;omega)]
 ·rw[if_neg h,if_neg (by simp;omega)]
structure M6 (base eb vb:Nat) (ev:V) (H:List Tm->Nat->ae):Prop where
 e1:eb<base
 v1:vb<base
 he:∀L,H L eb= .row [ev]
 hv:∀L,H L vb= .row [.func (.func 254) [] [.ptr eb 0, .ptr vb 0]]
 own:ev= .d (.sl [])\/∃a ep,ev= .osl a ep/\a<base/\(∀L,H L a= .arr ep 31 3 (L.map Tm.d))/\∀L L' j,j≠a->H L j=H L' j
def ada:IC:=LN.snd.snd.snd.fst.fst
def adb{base eb vb:Nat}{ev:V}{H:List Tm->Nat->ae}(hH:M6 base eb vb ev H)(t:Tm):Prop:=t.fits->∀L:List Tm,(∀v∈bV t,0<=v/\v<L.length)->(ev= .d (.sl [])->L=[])->
    fR Tryz.prog 254 [.d t.d, .ptr eb 0, .ptr vb 0] base (H L) (H (fS (bV t) L)) (.cA [])
theorem D0{base eb vb:Nat}{ev:V}{H:List Tm->Nat->ae}(hH:M6 base eb vb ev H){t:Tm}(hf:t.fits)(ih:∀k∈t.kids,adb hH k)(L:List Tm)(hr:∀v∈bH t.kids,0<=v/\v<L.length)(hL:ev= .d (.sl [])->L=[])
 {o o1:Nat->ae} {nx n1:Nat} {e:Nat->V} {Q:fG->S->Prop} (hb:base<=nx) (hn:nx<=n1) (hI:cW base (H L) o1 n1) (dh:∀id,base<=id->id<nx->o1 id=o id)
 (he:kD n1 e [.aa, .ptr eb 0, .ptr vb 0, .aa, .aa, .aa, .aa, .aa, .aa, .aa, .aa, .aa, .aa, .aa, .aa, .aa, .d (.sl (t.kids.map Tm.d)), .d (.i t.kids.length), .d (.i 0)] 0)
 (hQ:∀e' o' n',nx<=n'->cW base (H (fS (bH t.kids) L)) o' n'->(∀id,base<=id->id<nx->o' id=o id)->Q (.exit 0) ⟨e',o',n'⟩):
 rb nx (fun Q s=>kS Tryz.prog 26 nx false ada Q s) Q ⟨e,o1,n1⟩:=by
 have fy:=(Tm.aJ _).1 hf
 have e1:=hH.e1
 have v1:=hH.v1
 refine aE (fun i:Nat×(Nat->ae)×Nat=>⟨bz [.aa, .ptr eb 0, .ptr vb 0, .aa, .aa, .aa, .aa, .aa, .aa, .aa, .aa, .aa, .aa, .aa, .aa, .aa, .d (.sl (t.kids.map Tm.d)), .d (.i t.kids.length), .d (.i i.1)],i.2.1,i.2.2⟩)
  (fun i=>i.1<=t.kids.length/\cW base (H (fS (bH (t.kids.take i.1)) L)) i.2.1 i.2.2/\nx<=i.2.2/\(∀id,base<=id->id<nx->i.2.1 id=o id)) (fun i=>t.kids.length - i.1) (0,o1,n1)
  ⟨Nat.zero_le _,by simpa[bH,M4]using hI,hn,dh⟩ ?_ ?_
 ·dsimp only
  exact bE.bS _ hn (Nat.le_refl _) hI.bU (fun _ _=>rfl) he
 rintro⟨k,o',n'⟩ ⟨hk,oX,NH,XJ⟩
 simp only at hk oX NH XJ
 have hg:=oX.bU
 have hle:=oX.le
 have ov:o' vb= .row [.func (.func 254) [] [.ptr eb 0, .ptr vb 0]]:=by rw[oX.eq vb v1,hH.hv]
 have y3:vb≠n':=ad
 have y4:∀k,vb≠n'+k:=fun k=>ad
 simp only[ada,LN,IC.snd,IC.fst]
 refine fT ?_
 refine aq (fun h2=> ?_) (fun h2=> ?_)
 ·simp at h2
  obtain⟨x,hx⟩:=aw h2
  have cw:=List.mem_of_getElem? hx
  have wU:t.kids.take (k+1)=t.kids.take k++[x]:=by rw[List.take_add_one,hx];rfl
  have Uj:∀a b:List Tm,bH (a++b)=bH a++bH b:=fun a b=>by
   induction a with
   |nil=>simp[bH]
   |cons k a ih=>simp[bH,ih]
  have sw:∀v∈bV x,v∈bH t.kids:=fun v hv=>by
   rw[<- List.take_append_drop (k+1) t.kids,Uj,wU,Uj]
   simp[bH,hv]
  have ade:fS (bH (t.kids.take (k+1))) L=fS (bV x) (fS (bH (t.kids.take k)) L):=by
   rw[wU,Uj,tR];simp[bH]
  refine NU hx ov y3 y4 ?_
  refine br (ih x cw (fy.2 x cw) (fS (bH (t.kids.take k)) L) (fun v hv=>by rw[M3];exact hr v (sw v hv)) (fun h=>by rw[hL h];rfl) _ _ ?_ _ _ fun o2 n2 m1 m2 m3=> ?_)
  ·exact⟨dp,ad,fun j hj=>by(repeat(first|rfl|rw[ab]|rw[aj _ _ _ _ (by omega)]));exact oX.eq j hj⟩
  rw[<- ade]at m2
  refine iP ?_
  refine ax (k+1,o2,n2+2) ⟨h2,m2.mono (show n2<=n2+2 from ad),(show nx<=n2+2 from ad),fun id i1 i2=> ?_⟩ mX (bE.bS _ (show nx<=n2+2 from ad) (Nat.le_refl _) (m2.mono (show n2<=n2+2 from ad)).bU (fun _ _=>rfl) ?_)
  ·dsimp only
   rw[m3 id i1 (by omega)]
   (repeat(first|rfl|rw[ab]|rw[aj _ _ _ _ (by omega)]))
   exact XJ id i1 i2
  ·dsimp only
   exact cz
 ·simp at h2
  refine aG ?_
  rw[List.take_of_length_le h2]at oX
  exact hQ _ _ _ ad (oX.mono ad) XJ
theorem zF{base eb vb:Nat}{ev:V}{H:List Tm->Nat->ae}(hH:M6 base eb vb ev H):∀t:Tm,adb hH t:=by
 refine Tm.cB fun t ih hf L hr hL=> ?_
 have fy:=(Tm.aJ _).1 hf
 have e1:=hH.e1
 have v1:=hH.v1
 intro o nx hI K X hK
 have hle:=hI.le
 have hg:=hI.bU
 have oe:o eb= .row [ev]:=by rw[hI.eq eb e1,hH.he]
 have ov:o vb= .row [.func (.func 254) [] [.ptr eb 0, .ptr vb 0]]:=by rw[hI.eq vb v1,hH.hv]
 have y1:eb≠nx:=ad
 have y2:∀k,eb≠nx+k:=fun k=>ad
 have y3:vb≠nx:=ad
 have y4:∀k,vb≠nx+k:=fun k=>ad
 refine cU.ay mix Ta au ?_
 rw[LN]
 by_cases h8:t.op=8
 ·have Ei:(t.op==8)=true:=by simpa using h8
  obtain⟨n0,n1⟩:=hr t.n (by rw[iq,if_pos h8];simp)
  rcases hH.own with hn|⟨a,ep,ha,a1,hA,hA2⟩
  ·rw[hL hn]at n1;simp at n1;omega
  have oa:o a= .arr ep 31 3 (L.map Tm.d):=by rw[hI.eq a a1,hA]
  rw[ha]at oe
  have y5:a≠nx:=ad
  have y6:∀k,a≠nx+k:=fun k=>ad
  obtain⟨x,hx⟩:=aw (l:=L) (k:=t.n.toNat) ad
  obtain⟨xo,xn,xk⟩:=x
  simp+contextual (disch:=first|omega|simp only[go_sem,false_implies]) only[go_sem,wrap64,if_pos,Ei,oe,ov,oa,y1,y2,y3,y4,y5,y6,Nat.add_assoc,Nat.left_eq_add,Nat.add_eq_left,Nat.add_left_cancel_iff]
  refine aZ wX ?_
  simp+contextual (disch:=first|omega|simp only[go_sem,false_implies]) only[go_sem,wrap64,if_pos,Ei,oe,ov,oa,y1,y2,y3,y4,y5,y6,Nat.add_assoc,Nat.left_eq_add,Nat.add_eq_left,Nat.add_left_cancel_iff,n0,hx,Tm.lH,List.length_map]
  refine ai (Jm ah) ?_
  refine iP ?_
  rw[iq,if_pos h8,tR,M5 n0 n1]at hK
  rw[iq,if_pos h8]at hr
  have KQ:cW base (H (L.set t.n.toNat gA)) (aK (aK o nx (.row t.row)) a (.arr ep 31 3 ((L.map Tm.d).set t.n.toNat gA.d))) (nx+15):=⟨dp,ad,fun id aC=>by
   by_cases e:id=a
   ·subst e;rw[ab,hA,List.map_set]
   ·rw[aj _ _ _ _ e,aj _ _ _ _ (by omega),hI.eq id aC];exact hA2 _ _ id e⟩
  refine D0 hH hf ih (L.set t.n.toNat gA) (fun v hv=>by rw[List.length_set];exact hr v (by simp[hv])) (fun h=>by rw[ha]at h;cases h) (o:=o) ad ad KQ (fun id i1 i2=>by(repeat(first|rfl|rw[ab]|rw[aj _ _ _ _ (by omega)]))) ?_ fun e' o' n' k1 k2 k3=> ?_
  ·exact cz
  ·refine aG ?_
   exact hK _ _ ad k2 k3
 ·have Ei:(t.op==8)=false:=by simpa using h8
  simp+contextual (disch:=first|omega|simp only[go_sem,false_implies]) only[go_sem,wrap64,if_pos,Ei,oe,ov,y1,y2,y3,y4,Nat.add_assoc,Nat.left_eq_add,Nat.add_eq_left,Nat.add_left_cancel_iff]
  rw[iq,if_neg h8,List.nil_append]at hK hr
  have KQ:cW base (H L) (aK o nx (.row t.row)) (nx+8):=hI.aK ad ad ad rfl
  refine D0 hH hf ih L hr hL (o:=o) ad ad KQ (fun id i1 i2=>by(repeat(first|rfl|rw[ab]|rw[aj _ _ _ _ (by omega)]))) ?_ fun e' o' n' k1 k2 k3=> ?_
  ·exact cz
  ·refine aG ?_
   exact hK _ _ ad k2 k3
theorem Jn{s:ba}(r:Rl)(ho:oo s r)(hf:r.rhs.fits)(b:List Tm)(hl:b.length<=1000)(hb:(b.length:Int)=r.vars):aR Tryz.prog 223 [r.d, .sl (b.map Tm.d)] (.ret [.sl ((nh r b).map Tm.d)]):=by
 have hr:∀v∈bV r.rhs,0<=v/\v<b.length:=fun v hv=>by
  have h1:=(oM r.rhs v).1 hv
  obtain⟨x,hx,h2,h3⟩:=(jY _ _ _).1 h1
  have h4:=(qd r.vars r.rhs).1 ho.small x hx (.inr h2)
  have key:∀t:Tm,eI s t=true->∀x∈iV t,bC s x=true:=by
   refine Tm.cB fun t ih h x hx=> ?_
   rw[dL,Bool.and_eq_true,List.all_eq_true]at h
   rw[mH]at hx
   rcases List.mem_cons.1 hx with e|e
   ·rw[e];exact h.1
   ·obtain⟨k,hk,hx⟩:=List.mem_flatMap.1 e
    exact ih k hk (h.2 k hk) x hx
  have h5:=key _ (jo ho.rhs) x hx
  simp[bC,h2,cP]at h5
  omega
 refine aR.ay mix SO au ?_
 rw[WJ, <- M0]
 cases iQ:b with
 |nil=>
  refine aG ?_
  refine aO zE ?_
  refine aG ?_
  subst iQ
  have hH:M6 12 4 6 (.d (.sl [])) (fun _=>aK (aK (aK (fun _=> .no) 0 (.row r.row)) 4 (.row [.d (.sl [])])) 6 (.row [.func (.func 254) [] [.ptr 4 0, .ptr 6 0]])):=
   ⟨ad,ad,fun _=>by(repeat(first|rfl|rw[ab]|rw[aj _ _ _ _ (by omega)])),fun _=>by(repeat(first|rfl|rw[ab]|rw[aj _ _ _ _ (by omega)])), .inl rfl⟩
  refine br (zF hH r.rhs hf [] hr (fun _=>rfl) _ _ ⟨dp,Nat.le_refl _,fun id aC=>rY⟩ _ _ fun o2 n2 m1 m2 m3=> ?_)
  have q1:o2 4= .row [.d (.sl [])]:=by rw[m2.eq 4 (by omega)];(repeat(first|rfl|rw[ab]|rw[aj _ _ _ _ (by omega)]))
  refine cg q1 ?_
  rfl
 |cons a l=>
  rw[<- iQ]
  have XI:b≠[]:=by rw[iQ];simp
  refine aG ?_
  refine c6 (wW b XI ad _ _ _ _ ?_)
  refine aG ?_
  have hH:M6 18 10 12 (.osl 6 1) (fun L=>aK (aK (aK (aK (fun _=> .no) 0 (.row r.row)) 6 (.arr 1 31 3 (L.map Tm.d))) 10 (.row [.osl 6 1])) 12 (.row [.func (.func 254) [] [.ptr 10 0, .ptr 12 0]])):=
   ⟨ad,ad,fun _=>by(repeat(first|rfl|rw[ab]|rw[aj _ _ _ _ (by omega)])),fun _=>by(repeat(first|rfl|rw[ab]|rw[aj _ _ _ _ (by omega)])), .inr ⟨6,1,rfl,ad,fun _=>by(repeat(first|rfl|rw[ab]|rw[aj _ _ _ _ (by omega)])),fun L L' j hj=>rY⟩⟩
  refine br (zF hH r.rhs hf b hr (fun h=>by cases h) _ _ ⟨dp,Nat.le_refl _,fun id aC=>rY⟩ _ _ fun o2 n2 m1 m2 m3=> ?_)
  have q1:o2 10= .row [.osl 6 1]:=by rw[m2.eq 10 (by omega)];(repeat(first|rfl|rw[ab]|rw[aj _ _ _ _ (by omega)]))
  have q2:o2 6= .arr 1 31 3 ((fS (bV r.rhs) b).map Tm.d):=by rw[m2.eq 6 (by omega)];(repeat(first|rfl|rw[ab]|rw[aj _ _ _ _ (by omega)]))
  exact JY q1 q2
def ox(own bd:List Int)(n:Nat):List Int:=((List.range n).map fun i:Nat=>(i:Int)).filter fun v=> !own.contains v&& !bd.contains v
def mb(r:Rl):List Int:=ox (bt (.mk 0 0 r.bf)) (bV r.rhs) r.vars.toNat
theorem FK(own bd:List Int)(n:Nat):ox own bd (n+1)=ox own bd n++if(!own.contains (n:Int)&& !bd.contains (n:Int))=true then [(n:Int)]else []:=by
 unfold ox
 rw[List.range_succ,List.map_append,List.filter_append,List.map_singleton,List.filter_cons,List.filter_nil]
theorem zG(own bd:List Int)(n:Nat):(ox own bd n).length<=n:=by
 unfold ox
 refine Nat.le_trans (List.length_filter_le _ _) ?_
 simp
theorem Jo(r:Rl):(mb r).length<=r.vars.toNat:=zG _ _ _
theorem Qm(r:Rl)(hp:Jf r.bf)(hf:r.rhs.fits)(hz:r.rhs.sz<=500)(h0:0<=r.vars)(h1:r.vars<=1000):aR Tryz.prog 200 [r.d] (.ret [.sl ((mb r).map .i)]):=by
 have hl:=kj r.rhs
 have hv:=eX (.mk 0 0 r.bf)
 have CY:=hp.fU
 have hw:(Tm.mk 0 0 r.bf).sz<=500001:=by rw[Tm.GN];omega
 obtain⟨n,hn⟩:∃n:Nat,r.vars=n:=⟨r.vars.toNat,ad⟩
 have dh:mb r=ox (bt (.mk 0 0 r.bf)) (bV r.rhs) n:=by unfold mb;rw[hn];rfl
 refine aR.ay mix acj au ?_
 rw[aci,dh]
 refine aG ?_
 refine aZ (Jj r.bf) ?_
 refine aG ?_
 refine aZ (mO _ hp.whole) ?_
 refine aG ?_
 refine aZ (MN r.rhs hf ad) ?_
 refine aG ?_
 refine ai aT ?_
 refine aG ?_
 refine aE (fun i:Nat=>⟨bz [.aa, .ptr 0 0, .aa, .d (.sl ((bt (.mk 0 0 r.bf)).map .i)), .d (.sl ((bV r.rhs).map .i)), .osl 1 0, .d (.i i)],aK (aK (fun _=> .no) 0 (.row r.row)) 1 (.arr 0 3 1 ((ox (bt (.mk 0 0 r.bf)) (bV r.rhs) i).map .i)),2⟩)
  (fun i=>i<=n) (fun i=>n - i) 0 (Nat.zero_le _) (bE.gU (ty:=3) (sz:=1) (es:=[]) (fun _=>False) .bT 1 _ ad (yU (bw rfl fH)) (by rw[ab];rfl) (.inl ⟨rfl,rfl,aT⟩) (fun j hj=>by(repeat(first|rfl|rw[ab]|rw[aj _ _ _ _ (by omega)]))) (fun _ h=>h.elim) ?_) ?_
 ·exact nj
 rintro k hk
 replace hk:k<=n:=hk
 have e0:=zG (bt (.mk 0 0 r.bf)) (bV r.rhs) k
 refine dn hn ?_
 refine aq (fun h2=> ?_) (fun h2=> ?_)
 ·simp at h2
  have step:∀b:Bool,(!(bt (.mk 0 0 r.bf)).contains (k:Int)&& !(bV r.rhs).contains (k:Int))=b->ox (bt (.mk 0 0 r.bf)) (bV r.rhs) (k+1)=ox (bt (.mk 0 0 r.bf)) (bV r.rhs) k++if b=true then [(k:Int)]else []:=fun b hb=>by rw[FK,hb]
  refine dn hn ?_
  refine ag (MO (bt (.mk 0 0 r.bf)) k ad) rfl ?_
  cases g1:(bt (.mk 0 0 r.bf)).contains (k:Int)with
  |true=>
   have e:=step false (by rw[g1];rfl)
   rw[if_neg Bool.false_ne_true,List.append_nil]at e
   refine dn hn ?_
   refine ax (k+1) h2 ad (bE.gU (fun j=>j=1) (.osl 1 0) 1 _ ad (yU (cp (y:= .row r.row) cY cY (bw rfl fH))) (ab _ _ _) (.inr ⟨1,0,rfl,rfl,by(repeat(first|rfl|rw[ab]|rw[aj _ _ _ _ (by omega)]));rw[e]⟩) (fun j hj=>by(repeat(first|rfl|rw[ab]|rw[aj _ _ _ _ (by omega)]))) (fun j h h2=>ad) ?_)
   exact nj
  |false=>
   refine dn hn ?_
   refine ag (MO (bV r.rhs) k ad) rfl ?_
   cases g2:(bV r.rhs).contains (k:Int)with
   |true=>
    have e:=step false (by rw[g1,g2];rfl)
    rw[if_neg Bool.false_ne_true,List.append_nil]at e
    refine dn hn ?_
    refine ax (k+1) h2 ad (bE.gU (fun j=>j=1) (.osl 1 0) 1 _ ad (yU (cp (y:= .row r.row) cY cY (bw rfl fH))) (ab _ _ _) (.inr ⟨1,0,rfl,rfl,by(repeat(first|rfl|rw[ab]|rw[aj _ _ _ _ (by omega)]));rw[e]⟩) (fun j hj=>by(repeat(first|rfl|rw[ab]|rw[aj _ _ _ _ (by omega)]))) (fun j h h2=>ad) ?_)
    exact nj
   |false=>
    have e:=step true (by rw[g1,g2];rfl)
    rw[if_pos rfl]at e
    refine dn hn ?_
    refine ax (k+1) h2 ad (bE.gU (fun j=>j=1) (.osl 1 1) 1 _ ad (yU (cp (y:= .row r.row) cY cY (bw rfl fH))) (ab _ _ _) (.inr ⟨1,1,rfl,rfl,by(repeat(first|rfl|rw[ab]|rw[aj _ _ _ _ (by omega)]));rw[e,List.map_append];rfl⟩) (fun j hj=>by(repeat(first|rfl|rw[ab]|rw[aj _ _ _ _ (by omega)]))) (fun j h h2=>ad) ?_)
    exact nj
 ·simp at h2
  have rT:k=n:=ad
  subst rT
  exact bR
def tS(own fr:List Int)(b:List Tm):List Tm:=b.mapIdx fun i x=>if(own.contains (i:Int)||fr.contains (i:Int))=true then x else gA
theorem Jp(own fr:List Int){b:List Tm}{k:Nat}{x:Tm}(hx:b[k]? =some x):tS own fr (b.take (k+1))=tS own fr (b.take k)++[if(own.contains (k:Int)||fr.contains (k:Int))=true then x else gA]:=by
 have hk:k<b.length:=(List.getElem?_eq_some_iff.1 hx).1
 unfold tS
 rw[List.take_add_one,hx,List.mapIdx_append,List.length_take]
 simp only[Option.toList_some,List.mapIdx_cons,List.mapIdx_nil]
 rw[show min k b.length=k by omega,Nat.zero_add]
theorem Jq{s:ba}{r:Rl}(h:oo s r){b:List Tm}(hb:(b.length:Int)=r.vars):tS (bt (.mk 0 0 r.bf)) (mb r) b=nh r b:=by
 unfold tS nh
 refine List.ext_getElem au fun i h1 h2=> ?_
 simp only[List.getElem_mapIdx]
 simp only[List.length_mapIdx]at h1
 have Uj:=(zr r.rhs (bt (.mk 0 0 r.bf))).1 h.apart (i:Int)
 have dh:(mb r).contains (i:Int)=(!(bt (.mk 0 0 r.bf)).contains (i:Int)&& !(bV r.rhs).contains (i:Int)):=by
  rw[Bool.eq_iff_iff,List.contains_iff_mem]
  unfold mb ox
  rw[List.mem_filter]
  constructor
  ·exact fun h=>h.2
  ·intro hm
   refine⟨List.mem_map.2 ⟨i,List.mem_range.2 ad,rfl⟩,hm⟩
 rw[dh]
 cases c1:(bV r.rhs).contains (i:Int)with
 |true=>
  have hm:=List.contains_iff_mem.1 c1
  have xz:((bt (.mk 0 0 r.bf)).contains (i:Int))=false:=by
   rw[Bool.eq_false_iff]
   intro hc
   exact(Uj ((oM r.rhs i).1 hm)).2.1 (List.contains_iff_mem.1 hc)
  rw[xz];simp
 |false=>cases(bt (.mk 0 0 r.bf)).contains (i:Int)<;>simp
theorem Jr{s:ba}(r:Rl)(ho:oo s r)(hp:Jf r.bf)(hf:r.rhs.fits)(hz:r.rhs.sz<=500)(b:List Tm)(hb:(b.length:Int)=r.vars):aR Tryz.prog 146 [r.d, .sl (b.map Tm.d)] (.ret [.sl ((nh r b).map Tm.d)]):=by
 have hv:=eX (.mk 0 0 r.bf)
 have CY:=hp.fU
 have hw:(Tm.mk 0 0 r.bf).sz<=500001:=by rw[Tm.GN];omega
 have pF:=Jo r
 have NO:=ho.ac4
 have hv1:=ho.ac5
 have Ut:D.agg [.i 0, .i 0, .sl (r.bf.map Tm.d)]=(Tm.mk 0 0 r.bf).d:=(Tm.lH _ _ _).symm
 refine aR.ay mix abN au ?_
 rw[abM, <- Jq ho hb]
 refine aG ?_
 rw[Ut]
 refine aZ (mO _ hp.whole) ?_
 refine aG ?_
 refine aZ (Qm r hp hf hz NO ad) ?_
 refine aG ?_
 refine ai aT ?_
 refine aG ?_
 refine aE (fun i:Nat=>⟨bz [.aa, .d (.sl (b.map Tm.d)), .ptr 0 0, .aa, .aa, .d (.sl ((bt (.mk 0 0 r.bf)).map .i)), .d (.sl ((mb r).map .i)), .osl 1 0, .d (.i i)],aK (aK (fun _=> .no) 0 (.row r.row)) 1 (.arr 0 31 3 ((tS (bt (.mk 0 0 r.bf)) (mb r) (b.take i)).map Tm.d)),2⟩)
  (fun i=>i<=b.length) (fun i=>b.length - i) 0 (Nat.zero_le _) (bE.gU (ty:=31) (sz:=3) (es:=[]) (fun _=>False) .bT 1 _ ad (yU (bw rfl fH)) (by rw[ab];rfl) (.inl ⟨rfl,rfl,aT⟩) (fun j hj=>by(repeat(first|rfl|rw[ab]|rw[aj _ _ _ _ (by omega)]))) (fun _ h=>h.elim) ?_) ?_
 ·exact nj
 rintro k hk
 replace hk:k<=b.length:=hk
 have e0:(tS (bt (.mk 0 0 r.bf)) (mb r) (b.take k)).length=k:=by unfold tS;rw[List.length_mapIdx,List.length_take];omega
 refine dn e0 ?_
 refine aq (fun h2=> ?_) (fun h2=> ?_)
 ·simp at h2
  obtain⟨x,hx⟩:=aw h2
  have Y0:=Jp (bt (.mk 0 0 r.bf)) (mb r) hx
  refine iT e0 hx ?_
  refine ag (MP (bt (.mk 0 0 r.bf)) k ad) rfl ?_
  cases g1:(bt (.mk 0 0 r.bf)).contains (k:Int)with
  |true=>
   rw[g1,Bool.true_or,if_pos rfl]at Y0
   refine iT e0 hx ?_
   refine ax (k+1) h2 ad (bE.gU (fun j=>j=1) (.osl 1 1) 1 _ ad (yU (cp (y:= .row r.row) cY cY (bw rfl fH))) (ab _ _ _) (.inr ⟨1,1,rfl,rfl,by(repeat(first|rfl|rw[ab]|rw[aj _ _ _ _ (by omega)]));rw[Y0,List.map_append];rfl⟩) (fun j hj=>by(repeat(first|rfl|rw[ab]|rw[aj _ _ _ _ (by omega)]))) (fun j h h2=>ad) ?_)
   exact nj
  |false=>
   refine iT e0 hx ?_
   refine ag (MP (mb r) k ad) rfl ?_
   cases g2:(mb r).contains (k:Int)with
   |true=>
    rw[g1,g2,Bool.false_or,if_pos rfl]at Y0
    refine iT e0 hx ?_
    refine ax (k+1) h2 ad (bE.gU (fun j=>j=1) (.osl 1 1) 1 _ ad (yU (cp (y:= .row r.row) cY cY (bw rfl fH))) (ab _ _ _) (.inr ⟨1,1,rfl,rfl,by(repeat(first|rfl|rw[ab]|rw[aj _ _ _ _ (by omega)]));rw[Y0,List.map_append];rfl⟩) (fun j hj=>by(repeat(first|rfl|rw[ab]|rw[aj _ _ _ _ (by omega)]))) (fun j h h2=>ad) ?_)
    exact nj
   |false=>
    rw[g1,g2,Bool.false_or,if_neg Bool.false_ne_true]at Y0
    refine iT e0 hx ?_
    refine aO MR ?_
    refine iT e0 hx ?_
    refine ax (k+1) h2 ad (bE.gU (fun j=>j=1) (.osl 1 1) 1 _ ad (yU (cp (y:= .row r.row) cY cY (bw rfl fH))) (ab _ _ _) (.inr ⟨1,1,rfl,rfl,by(repeat(first|rfl|rw[ab]|rw[aj _ _ _ _ (by omega)]));rw[Y0,List.map_append];rfl⟩) (fun j hj=>by(repeat(first|rfl|rw[ab]|rw[aj _ _ _ _ (by omega)]))) (fun j h h2=>ad) ?_)
    exact nj
 ·simp at h2
  have rT:k=b.length:=ad
  subst rT
  rw[List.take_length]
  exact bR
theorem zH(env:List Tm)(n:Nat)(v:Tm):jE env (n:Int) v=(env++List.replicate (n+1 - env.length) gA).set n v:=rfl
theorem Qn(env:List Tm)(hl:env.length<=1000)(n:Int)(h0:0<=n)(h1:n<=1000)(v:Tm):aR Tryz.prog 147 [.sl (env.map Tm.d), .i n,v.d] (.ret [.sl ((jE env n v).map Tm.d)]):=by
 obtain⟨n,rfl⟩:∃m:Nat,n=m:=⟨n.toNat,ad⟩
 let m:=n+1 - env.length
 have hm:m=n+1 - env.length:=rfl
 refine aR.ay mix abP au ?_
 rw[abO,zH]
 have a1:env.length<=140737488355328:=ad
 have a2:env.length*24<=140737488355328:=ad
 refine iT a1 a2 ?_
 refine aE (fun i:Nat=>⟨bz [.aa, .d (.i n), .aa, .aa, .aa, .ptr 0 0, .aa, .osl 1 0],aK (aK (fun _=> .no) 0 (.row v.row)) 1 (.arr 0 31 3 ((env++List.replicate i gA).map Tm.d)),2⟩)
  (fun i=>i<=m) (fun i=>m - i) 0 (Nat.zero_le _) ?_ ?_
 ·refine bE.gU (fun j=>j=3) (.osl 3 0) 1 _ ad (yU (cp (y:= .row v.row) cY cY (bw rfl fH))) (ab _ _ _) (.inr ⟨3,0,rfl,rfl,by(repeat(first|rfl|rw[ab]|rw[aj _ _ _ _ (by omega)]));simp⟩) (fun j hj=>by(repeat(first|rfl|rw[ab]|rw[aj _ _ _ _ (by omega)]))) (fun j h h2=>ad) ?_
  exact nj
 rintro k hk
 replace hk:k<=m:=hk
 have e0:(env++List.replicate k gA).length=env.length+k:=au
 refine dn e0 ?_
 refine aq (fun h2=> ?_) (fun h2=> ?_)
 ·simp at h2
  refine dn e0 ?_
  refine aO MR ?_
  refine dn e0 ?_
  refine ax (k+1) ad ad (bE.gU (fun j=>j=1) (.osl 1 1) 1 _ ad (yU (cp (y:= .row v.row) cY cY (bw rfl fH))) (ab _ _ _) (.inr ⟨1,1,rfl,rfl,by(repeat(first|rfl|rw[ab]|rw[aj _ _ _ _ (by omega)]));rw[List.replicate_succ', <- List.append_assoc,List.map_append (l₂:=[gA])];rfl⟩) (fun j hj=>by(repeat(first|rfl|rw[ab]|rw[aj _ _ _ _ (by omega)]))) (fun j h h2=>ad) ?_)
  exact nj
 ·simp at h2
  have Qb:k=m:=ad
  have hn:n<env.length+k:=ad
  obtain⟨y,hy⟩:=aw (l:=env++List.replicate k gA) (k:=n) ad
  obtain⟨yo,yn,yk⟩:=y
  simp+contextual (disch:=first|omega|simp only[go_sem,false_implies]) only[go_sem,wrap64,if_pos,List.length_map,e0,hn,hy,Tm.lH]
  rw[List.map_set, <- hm,Qb]
theorem dz(b:Bool):(dT b).fits:=by simp[dT,Tm.fits,Tm.jB]
theorem zI(o a b:Int):(om o a b).fits:=by unfold om;split;exact dz _;simp[Tm.fits,Tm.jB]
theorem bK{l:List Pf}{i:Nat}{k:Pf}(h:l[i]? =some k):bu l i=k.val:=by unfold bu;rw[h];rfl
theorem eJ{t:Tm}{i:Nat}{k:Tm}(h:t.kids[i]? =some k):gr t i=k:=by unfold gr;rw[h];rfl
theorem mP{s:ba}{e:Tm}(h:bC s e=true)(h1:6<=e.op)(h2:e.op<=15):e.kids.length=2:=by
 by_cases h8:e.op=8
 ·simp[bC,h8]at h;omega
 ·simp[bC,cP,show ¬e.op=1 by omega,show ¬e.op=2 by omega,show ¬e.op=3 by omega,show ¬e.op=4 by omega,show ¬e.op=5 by omega,h8,h1,h2]at h
  omega
theorem Hf{r:Int}{e v a b:Tm}(h:kU r e v a b=true):9<=e.op/\e.op<=15:=by
 unfold kU at h
 split at h
 ·simp at h;omega
 ·split at h
  ·simp at h;omega
  ·split at h
   ·simp at h;omega
   ·split at h
    ·simp at h;omega
    ·split at h
     ·simp at h;omega
     ·cases h
theorem wY{s:ba}{v:Tm}(h:Pn s v)(h2:v.op=2):bdN v.n:=by
 have:=(wx.1 h).1
 simp[mG,h2,cP]at this
 exact⟨this.1.1,this.1.2⟩
theorem XK{s:ba}{v:Tm}(h:Pn s v)(o a b:Int):(Jk o a b&&aI v (om o a b))=aI v (om o a b):=by
 cases hs:aI v (om o a b)with
 |false=>simp
 |true=>
  have e:=(im _ _).1 hs
  by_cases Qo:o=15
  ·simp[Jk,Qo]
  ·have hv:om o a b= .mk 2 (if o=14 then a - b else a+b) []:=by unfold om;rw[if_neg Qo]
   have:=wY (v:=v) h (by rw[e,hv];rfl)
   rw[e,hv]at this
   simp only[Jk,if_neg Qo]
   simpa[cP,bdN,Tm.n]using this
set_option maxHeartbeats 2000000 in
theorem XL{s:ba}(e:Tm)(he:e.fits)(hn:bC s e=true)(f:Pf)(hf:mN s f):aR Tryz.prog 109 [e.d,f.d] (.ret [.bool (f.kids.length==2&&kU f.bp e f.val (bu f.kids 0) (bu f.kids 1))]):=by
 have FL:=((Pf.aJ f).1 hf.1).2.2.2.1
 have fC:=((Tm.aJ e).1 he).1
 have M7:=hf.val.1.1
 refine aR.ay mix abc au ?_
 rw[abb]
 by_cases hl:f.kids.length=2
 rotate_left
 ·have jy:((f.kids.length:Int)!=2)=true:=by simp;omega
  have oT:(f.kids.length==2)=false:=by simpa using hl
  simp+contextual (disch:=first|omega|simp only[go_sem,false_implies]) only[go_sem,wrap64,if_pos,List.length_map,jy,oT]
 have jy:((f.kids.length:Int)!=2)=false:=by simp;omega
 have oT:(f.kids.length==2)=true:=by simpa using hl
 by_cases hle:e.kids.length=2
 rotate_left
 ·have XM:((e.kids.length:Int)!=2)=true:=by simp;omega
  have ht:kU f.bp e f.val (bu f.kids 0) (bu f.kids 1)=false:=by
   rw[Bool.eq_false_iff]
   intro h
   have:=Hf h
   exact hle (mP hn ad ad)
  refine iT jy XM ?_
  rw[ht,Bool.and_false]
 have XM:((e.kids.length:Int)!=2)=false:=by simp;omega
 obtain⟨x,hx⟩:=aw (l:=f.kids) (k:=0) ad
 obtain⟨y,hy⟩:=aw (l:=f.kids) (k:=1) ad
 have oV:=(hf.gx (List.mem_of_getElem? hx)).val
 have wZ:=(hf.gx (List.mem_of_getElem? hy)).val
 rw[bK hx,bK hy,oT,Bool.true_and]
 refine FR jy XM hx hy ?_
 refine ai aT ?_
 by_cases r10:f.bp=10
 ·have ht:kU f.bp e f.val x.val y.val=(e.op==9&&(aI x.val (dT true)&&aI y.val f.val)):=by rw[r10];rfl
  rw[ht]
  refine cg r10 ?_
  cases g1:(e.op==9)with
  |false=>
   refine cg g1 ?_
   refine ai (ak rfl) ?_
   exact bR
  |true=>
  refine cg g1 ?_
  refine aZ oR ?_
  refine cg g1 ?_
  refine ao (ei _ oV.1.1 _ (dz true)) rfl ?_
  cases g2:aI x.val (dT true)with
  |false=>
   refine cg g1 ?_
   refine ai (ak rfl) ?_
   exact bR
  |true=>
  refine cg g1 ?_
  refine ao (ei _ wZ.1.1 _ M7) rfl ?_
  refine cg g1 ?_
  refine ai (ak rfl) ?_
  exact bR
 have n10:(f.bp==10)=false:=by simpa using r10
 by_cases r11:f.bp=11
 ·have ht:kU f.bp e f.val x.val y.val=(e.op==10&&(aI x.val (dT true)&&aI y.val (dT true)&&aI f.val (dT true))):=by rw[r11];rfl
  rw[ht]
  refine cg r11 ?_
  cases g1:(e.op==10)with
  |false=>
   refine cg g1 ?_
   refine ai (ak rfl) ?_
   exact bR
  |true=>
  refine cg g1 ?_
  refine aZ oR ?_
  refine cg g1 ?_
  refine ao (ei _ oV.1.1 _ (dz true)) rfl ?_
  cases g2:aI x.val (dT true)with
  |false=>
   refine cg g1 ?_
   refine ai (ak rfl) ?_
   exact bR
  |true=>
  refine cg g1 ?_
  refine aZ oR ?_
  refine cg g1 ?_
  refine ao (ei _ wZ.1.1 _ (dz true)) rfl ?_
  cases g3:aI y.val (dT true)with
  |false=>
   refine cg g1 ?_
   refine ai (ak rfl) ?_
   exact bR
  |true=>
  refine cg g1 ?_
  refine aZ oR ?_
  refine cg g1 ?_
  refine ao (ei _ M7 _ (dz true)) rfl ?_
  refine cg g1 ?_
  refine ai (ak rfl) ?_
  exact bR
 have n11:(f.bp==11)=false:=by simpa using r11
 by_cases r12:f.bp=12
 ·have ht:kU f.bp e f.val x.val y.val=(e.op==11&&(aI x.val y.val&&b9 16 x.val&&aI f.val (dT true))):=by rw[r12];rfl
  rw[ht]
  refine cg r12 ?_
  cases g1:(e.op==11)with
  |false=>
   refine cg g1 ?_
   refine ai (ak rfl) ?_
   exact bR
  |true=>
  refine cg g1 ?_
  refine ao (ei _ oV.1.1 _ wZ.1.1) rfl ?_
  cases g2:aI x.val y.val with
  |false=>
   refine cg g1 ?_
   refine ai (ak rfl) ?_
   exact bR
  |true=>
  refine cg g1 ?_
  refine ao (Dm _ oV.1.1) rfl ?_
  cases g3:b9 16 x.val with
  |false=>
   refine cg g1 ?_
   refine ai (ak rfl) ?_
   exact bR
  |true=>
  refine cg g1 ?_
  refine aZ oR ?_
  refine cg g1 ?_
  refine ao (ei _ M7 _ (dz true)) rfl ?_
  refine cg g1 ?_
  refine ai (ak rfl) ?_
  exact bR
 have n12:(f.bp==12)=false:=by simpa using r12
 by_cases r13:f.bp=13
 ·have ht:kU f.bp e f.val x.val y.val=(e.op==12&&((b9 16 x.val&&b9 1 x.val)&&(b9 16 y.val&&b9 1 y.val)&&aI f.val (dT (aI x.val y.val)))):=by rw[r13];rfl
  rw[ht]
  refine cg r13 ?_
  cases g1:(e.op==12)with
  |false=>
   refine cg g1 ?_
   refine ai (ak rfl) ?_
   exact bR
  |true=>
  refine cg g1 ?_
  refine ao (zb _ oV.1.1) rfl ?_
  cases g2:(b9 16 x.val&&b9 1 x.val)with
  |false=>
   refine cg g1 ?_
   refine ai (ak rfl) ?_
   exact bR
  |true=>
  refine cg g1 ?_
  refine ao (zb _ wZ.1.1) rfl ?_
  cases g3:(b9 16 y.val&&b9 1 y.val)with
  |false=>
   refine cg g1 ?_
   refine ai (ak rfl) ?_
   exact bR
  |true=>
  refine cg g1 ?_
  refine ao (ei _ oV.1.1 _ wZ.1.1) rfl ?_
  refine cg g1 ?_
  refine aZ (DU _) ?_
  refine cg g1 ?_
  refine ao (ei _ M7 _ (dz _)) rfl ?_
  refine cg g1 ?_
  refine ai (ak rfl) ?_
  exact bR
 have n13:(f.bp==13)=false:=by simpa using r13
 by_cases r14:f.bp=14
 ·have ht:kU f.bp e f.val x.val y.val=((e.op==13||e.op==14||e.op==15)&&(x.val.op==2&&y.val.op==2&&aI f.val (om e.op x.val.n y.val.n))):=by rw[r14];rfl
  rw[ht]
  refine cg r14 ?_
  by_cases g1:e.op=13\/e.op=14\/e.op=15
  rotate_left
  ·have a1:(e.op !=13)=true:=by simp;omega
   have a2:(e.op !=14)=true:=by simp;omega
   have a3:(e.op !=15)=true:=by simp;omega
   have b1:(e.op==13)=false:=by simp;omega
   have b2:(e.op==14)=false:=by simp;omega
   have b3:(e.op==15)=false:=by simp;omega
   simp+contextual (disch:=first|omega|simp only[go_sem,false_implies]) only[go_sem,wrap64,if_pos,a1,a2,a3,b1,b2,b3]
  have gop:(e.op==13||e.op==14||e.op==15)=true:=by simp;omega
  rw[gop,Bool.true_and]
  by_cases g2:x.val.op=2
  rotate_left
  ·have a1:(x.val.op !=2)=true:=by simpa using g2
   have b1:(x.val.op==2)=false:=by simpa using g2
   rcases g1 with g1|g1|g1<;>simp+contextual (disch:=first|omega|simp only[go_sem,false_implies]) only[go_sem,wrap64,if_pos,g1,a1,b1]
  have a2:(x.val.op !=2)=false:=by simpa using g2
  have b2:(x.val.op==2)=true:=by simpa using g2
  by_cases g3:y.val.op=2
  rotate_left
  ·have a1:(y.val.op !=2)=true:=by simpa using g3
   have b1:(y.val.op==2)=false:=by simpa using g3
   rcases g1 with g1|g1|g1<;>simp+contextual (disch:=first|omega|simp only[go_sem,false_implies]) only[go_sem,wrap64,if_pos,g1,a2,b2,a1,b1]
  have a3:(y.val.op !=2)=false:=by simpa using g3
  have b3:(y.val.op==2)=true:=by simpa using g3
  have hs:=XG e.op x.val.n y.val.n (wY oV.1.2 g2) (wY wZ.1.2 g3)
  have bA:=XK hf.val.1.2 e.op x.val.n y.val.n
  rw[b2,b3,Bool.true_and,Bool.true_and, <- bA]
  rcases g1 with g1|g1|g1<;>
  ·rw[g1]at hs|-
   refine uT g1 a2 a3 ?_
   refine aO hs ?_
   refine cg g1 ?_
   cases g4:Jk _ x.val.n y.val.n with
   |false=>
    exact bR
   |true=>
    refine aG ?_
    refine ag (ei _ M7 _ (zI _ _ _)) rfl ?_
    exact bR
 have n14:(f.bp==14)=false:=by simpa using r14
 have ht:kU f.bp e f.val x.val y.val=false:=by unfold kU;rw[if_neg r10,if_neg r11,if_neg r12,if_neg r13,if_neg r14]
 rw[ht]
 simp+contextual (disch:=first|omega|simp only[go_sem,false_implies]) only[go_sem,wrap64,if_pos,n10,n11,n12,n13,n14]
def xT(b:Bool):R:=if b=true then .ret []else .cc ow
theorem bL:xT true= .ret []:=rfl
theorem aV:xT false= .cc ow:=rfl
def BC(p:Pg)(f:Pf):Prop:=∀env e,da p.sig env->cD p.sig env.length e->aR Tryz.prog 93 [xp p env,e.d,f.d] (xT (bc p f env e))
theorem aH:ow.flat=true:=by rfl
theorem rK{p:Pg}(ks:List Pf)(es:List Tm)(hk:ks.length<=1000000)(he0:es.length<=9223372036854775807){env:List Tm}(hv:da p.sig env)(ih:∀k∈ks,BC p k)(he:∀e∈es,cD p.sig env.length e):
 aR Tryz.prog 221 [xp p env, .sl (es.map Tm.d), .sl (ks.map Pf.d)] (xT (ks.length==es.length&&(ks.zip es).all fun x=>bc p x.1 env x.2)):=by
 refine aR.ay mix SM au ?_
 rw[WH]
 by_cases hl:ks.length=es.length
 rotate_left
 ·have jy:((es.length:Int)==(ks.length:Int))=false:=by rw[beq_eq_false_iff_ne];omega
  have oT:(ks.length==es.length)=false:=by simpa using hl
  rw[oT,Bool.false_and,aV]
  refine dn jy ?_
  refine bB a7 rfl ?_
  exact bR
 have jy:((es.length:Int)==(ks.length:Int))=true:=by rw[beq_iff_eq];omega
 have oT:(ks.length==es.length)=true:=by simpa using hl
 rw[oT,Bool.true_and]
 refine dn jy ?_
 refine ag bY rfl ?_
 refine fT ?_
 refine aE (fun k:Nat=>⟨bz [.aa, .d (.sl (es.map Tm.d)), .aa, .ptr 0 0, .aa, .aa, .aa, .aa, .aa, .aa, .aa, .aa, .aa, .aa, .d (.sl (ks.map Pf.d)), .d (.i ks.length), .d (.i k)],fb (He p env),1⟩)
  (fun k=>k<=ks.length/\((ks.zip es).take k).all (fun x=>bc p x.1 env x.2)=true) (fun k=>ks.length - k) 0 ⟨Nat.zero_le _,au⟩ (bE.d1 _ (aU rfl) ad rfl ?_) (fun k hk=> ?_)
 ·exact cz
 refine fT ?_
 refine aq (fun h2=> ?_) (fun h2=> ?_)
 ·simp at h2
  obtain⟨x,hx⟩:=aw h2
  obtain⟨y,hy⟩:=aw (l:=es) (k:=k) ad
  have cw:=List.mem_of_getElem? hx
  have hz:(ks.zip es)[k]? =some (x,y):=by rw[List.getElem?_zip_eq_some];exact⟨hx,hy⟩
  have hc:=ih x cw env y hv (he y (List.mem_of_getElem? hy))
  refine iT hx hy ?_
  cases g:bc p x env y with
  |false=>
   rw[g,aV]at hc
   refine aN hc aH ?_
   refine aG ?_
   refine aY ⟨aT, ?_⟩
   simp only[qq,uX,px,rU,rV,rW,List.contains_nil,Bool.false_eq_true,if_false,eu,rX]
   rw[b8 hz g];rfl
  |true=>
   rw[g,bL]at hc
   refine ao hc rfl ?_
   refine iT hx hy ?_
   refine ai aT ?_
   refine aG ?_
   refine ax (k+1) ⟨h2,cl hz hk.2 g⟩ ad (bE.d1 _ (aU rfl) ad rfl ?_)
   exact cz
 ·simp at h2
  rw[cm hk.2 (by rw[List.length_zip];omega),bL]
  exact bR
theorem w7:∀ (ks:List Pf) (l:List Tm),ks.length=l.length->gS l (ks.map Pf.val)=(ks.zip l).all fun x=>aI x.1.val x.2
 |[],[],_=>rfl
 |k::ks,x::l,h=>by
  have ih:=w7 ks l HG
  simp only[List.map_cons,gS,List.zip_cons_cons,List.all_cons,ih]
  congr 1
  rw[Bool.eq_iff_iff,im,im];exact eq_comm
 |[],_::_,h=>by simp at h
 |_::_,[],h=>by simp at h
theorem Js(v:Tm)(op n:Int)(ks:List Pf):aI v (.mk op n (ks.map Pf.val))=((v.op==op&&(v.n==n&&v.kids.length==ks.length))&&(ks.zip v.kids).all fun x=>aI x.1.val x.2):=by
 obtain⟨vo,vn,vk⟩:=v
 rw[nZ]
 simp only[Tm.op,Tm.n,Tm.kids,List.length_map]
 by_cases h:vk.length=ks.length
 ·rw[w7 ks _ h.symm]
  simp[Bool.and_assoc]
 ·have:(vk.length==ks.length)=false:=by simpa using h
  rw[this];simp
theorem Jt(p:Pg)(l:List Pf)(env es:List Tm):ni (l.map (bc p)) env es=(l.length==es.length&&(l.zip es).all fun x=>bc p x.1 env x.2):=by
 unfold ni
 rw[List.length_map,List.zip_map_left,List.all_map]
 rfl
@[reducible] def w8 (p:Pg) (env:List Tm) (e:Tm) (f:Pf):Nat->ae:=aK (aK (aK (fun _=> .no) 0 (.row (He p env))) 1 (.row e.row)) 2 (.row f.row)
theorem zJ{p:Pg}{f:Pf}(hf:mN p.sig f)(ih:∀k∈f.kids,BC p k){env:List Tm}(hv:da p.sig env){e:Tm}(he:cD p.sig env.length e)(ey:e.op=3\/e.op=5):
 aR Tryz.prog 219 [xp p env,e.d,f.d] (xT (aI f.val (.mk e.op e.n (f.kids.map Pf.val))&&ni (f.kids.map (bc p)) env e.kids)):=by
 have FL:=hf.len
 have fC:=((Tm.aJ e).1 he.fits).1
 have hvk:=((Tm.aJ f.val).1 hf.val.1.1).1
 refine aR.ay mix SK au ?_
 rw[WE,Jt,Js]
 by_cases h1:f.val.op=e.op/\f.val.n=e.n/\f.val.kids.length=f.kids.length
 rotate_left
 ·have bJ:(f.val.op==e.op&&f.val.n==e.n&&(f.val.kids.length:Int)==(f.kids.length:Int))=false:=by
   rw[Bool.eq_false_iff];intro h
   simp only[Bool.and_eq_true,beq_iff_eq]at h
   exact h1 ⟨h.1.1,h.1.2,ad⟩
  have h2:(f.val.op==e.op&&(f.val.n==e.n&&f.val.kids.length==f.kids.length))=false:=by
   rw[Bool.eq_false_iff];intro h
   simp only[Bool.and_eq_true,beq_iff_eq]at h
   exact h1 h
  rw[h2,Bool.false_and,Bool.false_and,aV]
  refine dn bJ ?_
  refine bB a7 rfl ?_
  exact bR
 obtain⟨a1,a2,a3⟩:=h1
 have bJ:(f.val.op==e.op&&f.val.n==e.n&&(f.val.kids.length:Int)==(f.kids.length:Int))=true:=by simp[a1,a2,a3]
 have h2:(f.val.op==e.op&&(f.val.n==e.n&&f.val.kids.length==f.kids.length))=true:=by simp[a1,a2,a3]
 rw[h2,Bool.true_and]
 refine dn bJ ?_
 refine ag bY rfl ?_
 refine fT ?_
 refine aE (fun k:Nat=>⟨bz [.aa, .aa, .aa, .ptr 0 0, .ptr 1 0, .ptr 2 0, .aa, .aa, .aa, .aa, .aa, .aa, .aa, .aa, .aa, .aa, .aa, .aa, .aa, .aa, .aa, .aa, .aa, .aa, .aa, .aa, .aa, .aa, .aa, .aa, .aa, .aa, .aa, .aa, .d (.sl (f.kids.map Pf.d)), .d (.i f.kids.length), .d (.i k)],w8 p env e f,3⟩)
  (fun k=>k<=f.kids.length/\((f.kids.zip f.val.kids).take k).all (fun x=>aI x.1.val x.2)=true) (fun k=>f.kids.length - k) 0 ⟨Nat.zero_le _,au⟩ (bE.bS _ ad ad dp (fun j hj=>rfl) ?_) (fun k hk=> ?_)
 ·exact cz
 refine fT ?_
 refine aq (fun h2=> ?_) (fun h2=> ?_)
 ·simp at h2
  obtain⟨x,hx⟩:=aw h2
  obtain⟨y,hy⟩:=aw (l:=f.val.kids) (k:=k) ad
  have cw:=List.mem_of_getElem? hx
  have hz:(f.kids.zip f.val.kids)[k]? =some (x,y):=by rw[List.getElem?_zip_eq_some];exact⟨hx,hy⟩
  refine iT hx hy ?_
  refine ao (cX _ (hf.gx cw).val.1.1 _ (hf.val.1.gx (List.mem_of_getElem? hy)).1) rfl ?_
  cases g:aI x.val y with
  |false=>
   refine iT hx hy ?_
   refine aN a7 aH ?_
   refine aG ?_
   refine aY ⟨aT, ?_⟩
   simp only[qq,uX,px,rU,rV,rW,List.contains_nil,Bool.false_eq_true,if_false,eu,rX]
   rw[b8 hz g];rfl
  |true=>
   refine iT hx hy ?_
   refine ao bY rfl ?_
   refine iT hx hy ?_
   refine ai aT ?_
   refine aG ?_
   refine ax (k+1) ⟨h2,cl hz hk.2 g⟩ ad (bE.bS _ ad ad dp (fun j hj=>rY) ?_)
   exact cz
 ·simp at h2
  have hc:=rK f.kids e.kids ad fC hv ih (fun y hy=>he.gx ad ad hy)
  rw[cm hk.2 (by rw[List.length_zip];omega),Bool.true_and]
  refine fT ?_
  cases g:(f.kids.length==e.kids.length&&(f.kids.zip e.kids).all fun x=>bc p x.1 env x.2)with
  |false=>
   rw[g,aV]at hc
   refine bB hc rfl ?_
   refine aG ?_
   rfl
  |true=>
   rw[g,bL]at hc
   refine ag hc rfl ?_
   refine aG ?_
   rfl
theorem Qp{p:Pg}{f:Pf}(hf:mN p.sig f)(ih:∀k∈f.kids,BC p k){env:List Tm}(hv:da p.sig env){e:Tm}(he:cD p.sig env.length e)(r4:f.bp=4):
 aR Tryz.prog 171 [xp p env,e.d,f.d] (xT (bc p f env e)):=by
 have ht:bc p f env e=(e.op==3&&(aI f.val (.mk e.op e.n (f.kids.map Pf.val))&&ni (f.kids.map (bc p)) env e.kids)):=by rw[cT,jZ,if_neg (by omega),if_neg (by omega),if_neg (by omega),if_pos r4]
 rw[ht]
 refine aR.ay mix Si au ?_
 rw[We]
 by_cases h1:e.op=3
 rotate_left
 ·have bJ:(e.op==3)=false:=by simpa using h1
  rw[bJ,Bool.false_and,aV]
  refine cg bJ ?_
  refine bB a7 rfl ?_
  exact bR
 have bJ:(e.op==3)=true:=by simpa using h1
 rw[bJ,Bool.true_and]
 refine cg bJ ?_
 refine ag bY rfl ?_
 refine aG ?_
 have hc:=zJ hf ih hv he (.inl h1)
 cases g:(aI f.val (.mk e.op e.n (f.kids.map Pf.val))&&ni (f.kids.map (bc p)) env e.kids)with
 |false=>
  rw[g,aV]at hc
  refine bB hc rfl ?_
  refine aG ?_
  rfl
 |true=>
  rw[g,bL]at hc
  refine ag hc rfl ?_
  refine aG ?_
  rfl
theorem M8{p:Pg}{f:Pf}(hf:mN p.sig f)(ih:∀k∈f.kids,BC p k){env:List Tm}(hv:da p.sig env){e:Tm}(he:cD p.sig env.length e)(r5:f.bp=5):
 aR Tryz.prog 172 [xp p env,e.d,f.d] (xT (bc p f env e)):=by
 have ht:bc p f env e=(e.op==5&&(aI f.val (.mk e.op e.n (f.kids.map Pf.val))&&ni (f.kids.map (bc p)) env e.kids)):=by rw[cT,jZ,if_neg (by omega),if_neg (by omega),if_neg (by omega),if_neg (by omega),if_pos r5]
 rw[ht]
 refine aR.ay mix Sj au ?_
 rw[Wf]
 by_cases h1:e.op=5
 rotate_left
 ·have bJ:(e.op==5)=false:=by simpa using h1
  rw[bJ,Bool.false_and,aV]
  refine cg bJ ?_
  refine bB a7 rfl ?_
  exact bR
 have bJ:(e.op==5)=true:=by simpa using h1
 rw[bJ,Bool.true_and]
 refine cg bJ ?_
 refine ag bY rfl ?_
 refine aG ?_
 have hc:=zJ hf ih hv he (.inr h1)
 cases g:(aI f.val (.mk e.op e.n (f.kids.map Pf.val))&&ni (f.kids.map (bc p)) env e.kids)with
 |false=>
  rw[g,aV]at hc
  refine bB hc rfl ?_
  refine aG ?_
  rfl
 |true=>
  rw[g,bL]at hc
  refine ag hc rfl ?_
  refine aG ?_
  rfl
theorem Qq{p:Pg}{f:Pf}(hf:mN p.sig f){env:List Tm}{e:Tm}(r1:f.bp=1):
 aR Tryz.prog 168 [xp p env,e.d,f.d] (xT (bc p f env e)):=by
 have FL:=hf.len
 have ht:bc p f env e=(f.kids.length==0&&f.val.op==16):=by rw[cT,jZ,if_pos r1]
 rw[ht]
 refine aR.ay mix Sf au ?_
 rw[Wb]
 by_cases h1:f.val.op=16
 rotate_left
 ·have bJ:(f.val.op==16)=false:=by simpa using h1
  rw[bJ,Bool.and_false,aV]
  refine cg bJ ?_
  refine bB a7 rfl ?_
  exact bR
 have bJ:(f.val.op==16)=true:=by simpa using h1
 rw[bJ,Bool.and_true]
 by_cases h2:f.kids.length=0
 rotate_left
 ·have iR:((f.kids.length:Int)==0)=false:=by rw[beq_eq_false_iff_ne];omega
  have jq:(f.kids.length==0)=false:=by simpa using h2
  rw[jq,aV]
  refine iT bJ iR ?_
  refine bB a7 rfl ?_
  exact bR
 have iR:((f.kids.length:Int)==0)=true:=by rw[beq_iff_eq];omega
 have jq:(f.kids.length==0)=true:=by simpa using h2
 rw[jq,bL]
 refine iT bJ iR ?_
 refine ag bY rfl ?_
 exact bR
theorem Qr{p:Pg}{f:Pf}(hf:mN p.sig f){env:List Tm}(hv:da p.sig env){e:Tm}(he:cD p.sig env.length e)(r2:f.bp=2):
 aR Tryz.prog 169 [xp p env,e.d,f.d] (xT (bc p f env e)):=by
 have FL:=hf.len
 have ht:bc p f env e=(e.op==1&&(f.kids.length==0&&JU f.val ((env[e.n.toNat]?).getD gA))):=by rw[cT,jZ,if_neg (by omega),if_pos r2]
 rw[ht]
 refine aR.ay mix Sg au ?_
 rw[Wc]
 by_cases h1:e.op=1
 rotate_left
 ·have bJ:(e.op==1)=false:=by simpa using h1
  rw[bJ,Bool.false_and,aV]
  refine dn bJ ?_
  refine aN a7 aH ?_
  refine aG ?_
  refine aY ⟨aT, ?_⟩
  exact jH
 have bJ:(e.op==1)=true:=by simpa using h1
 rw[bJ,Bool.true_and]
 by_cases h2:f.kids.length=0
 rotate_left
 ·have iR:((f.kids.length:Int)==0)=false:=by rw[beq_eq_false_iff_ne];omega
  have jq:(f.kids.length==0)=false:=by simpa using h2
  rw[jq,Bool.false_and,aV]
  refine iT bJ iR ?_
  refine aN a7 aH ?_
  refine aG ?_
  refine aY ⟨aT, ?_⟩
  exact jH
 have iR:((f.kids.length:Int)==0)=true:=by rw[beq_iff_eq];omega
 have jq:(f.kids.length==0)=true:=by simpa using h2
 obtain⟨v0,v1⟩:=he.var h1
 obtain⟨x,hx⟩:=aw (l:=env) (k:=e.n.toNat) ad
 have NL:=hv.all x (List.mem_of_getElem? hx)
 rw[hx,Option.getD_some,jq,Bool.true_and]
 refine FR bJ iR hx v0 ?_
 refine ao (Me f.val hf.val.1.1 hf.val.1.2 x NL.1 NL.2) rfl ?_
 cases g:JU f.val x with
 |false=>
  rw[aV]
  refine cg bJ ?_
  refine aN a7 aH ?_
  refine aG ?_
  refine aY ⟨aT, ?_⟩
  exact jH
 |true=>
  rw[bL]
  refine cg bJ ?_
  refine ao bY rfl ?_
  refine aG ?_
  refine ai aT ?_
  exact bR
theorem Qs{p:Pg}{f:Pf}(hf:mN p.sig f){env:List Tm}{e:Tm}(he:e.fits)(r3:f.bp=3):
 aR Tryz.prog 170 [xp p env,e.d,f.d] (xT (bc p f env e)):=by
 have FL:=hf.len
 have hsy:aI f.val e=aI e f.val:=by rw[Bool.eq_iff_iff,im,im];exact eq_comm
 have ht:bc p f env e=(e.op==2&&(f.kids.length==0&&aI e f.val)):=by rw[cT,jZ,if_neg (by omega),if_neg (by omega),if_pos r3,hsy]
 rw[ht]
 refine aR.ay mix Sh au ?_
 rw[Wd]
 by_cases h1:e.op=2
 rotate_left
 ·have bJ:(e.op==2)=false:=by simpa using h1
  rw[bJ,Bool.false_and,aV]
  refine dn bJ ?_
  refine bB a7 rfl ?_
  exact bR
 have bJ:(e.op==2)=true:=by simpa using h1
 rw[bJ,Bool.true_and]
 by_cases h2:f.kids.length=0
 rotate_left
 ·have iR:((f.kids.length:Int)==0)=false:=by rw[beq_eq_false_iff_ne];omega
  have jq:(f.kids.length==0)=false:=by simpa using h2
  rw[jq,Bool.false_and,aV]
  refine iT bJ iR ?_
  refine bB a7 rfl ?_
  exact bR
 have iR:((f.kids.length:Int)==0)=true:=by rw[beq_iff_eq];omega
 have jq:(f.kids.length==0)=true:=by simpa using h2
 rw[jq,Bool.true_and]
 refine iT bJ iR ?_
 refine ag (cX e he f.val hf.val.1.1) rfl ?_
 cases g:aI e f.val with
 |false=>
  rw[aV]
  refine cg bJ ?_
  refine bB a7 rfl ?_
  exact bR
 |true=>
  rw[bL]
  refine cg bJ ?_
  refine ag bY rfl ?_
  exact bR
theorem lx{p:Pg}{l:List Pf}{i:Nat}{x:Pf}(h:l[i]? =some x):lu (l.map (bc p)) i=bc p x:=by unfold lu;rw[List.getElem?_map,h];rfl
theorem w9{p:Pg}{f:Pf}(hf:mN p.sig f)(ih:∀k∈f.kids,BC p k){env:List Tm}(hv:da p.sig env){e:Tm}(he:cD p.sig env.length e)(i:Nat)(hi:i<2):
 aR Tryz.prog 224 [xp p env,e.d,f.d, .i i] (xT (e.op==7&&(f.kids.length==1&&aI (bu f.kids 0) f.val&&lu (f.kids.map (bc p)) 0 env (gr e i)))):=by
 have FL:=hf.len
 refine aR.ay mix SP au ?_
 rw[WK]
 by_cases h1:e.op=7
 rotate_left
 ·have bJ:(e.op==7)=false:=by simpa using h1
  rw[bJ,Bool.false_and,aV]
  refine dn bJ ?_
  refine aN a7 aH ?_
  refine aG ?_
  refine aY ⟨aT, ?_⟩
  exact jH
 have bJ:(e.op==7)=true:=by simpa using h1
 rw[bJ,Bool.true_and]
 by_cases h2:f.kids.length=1
 rotate_left
 ·have iR:((f.kids.length:Int)==1)=false:=by rw[beq_eq_false_iff_ne];omega
  have jq:(f.kids.length==1)=false:=by simpa using h2
  rw[jq,Bool.false_and,Bool.false_and,aV]
  refine iT bJ iR ?_
  refine aN a7 aH ?_
  refine aG ?_
  refine aY ⟨aT, ?_⟩
  exact jH
 have iR:((f.kids.length:Int)==1)=true:=by rw[beq_iff_eq];omega
 have jq:(f.kids.length==1)=true:=by simpa using h2
 have h3:=mP he.node1 ad ad
 obtain⟨x,hx⟩:=aw (l:=f.kids) (k:=0) ad
 obtain⟨a,ha⟩:=aw (l:=e.kids) (k:=i) ad
 have cw:=List.mem_of_getElem? hx
 rw[bK hx,lx hx,eJ ha,jq,Bool.true_and]
 refine qo bJ iR hx ?_
 refine ao (cX _ (hf.gx cw).val.1.1 f.val hf.val.1.1) rfl ?_
 cases g:aI x.val f.val with
 |false=>
  rw[Bool.false_and,aV]
  refine qo bJ iR hx ?_
  refine aN a7 aH ?_
  refine aG ?_
  refine aY ⟨aT, ?_⟩
  exact jH
 |true=>
  rw[Bool.true_and]
  refine qo bJ iR hx ?_
  refine ao bY rfl ?_
  refine aG ?_
  refine ai aT ?_
  refine iT hx ha ?_
  have hc:=ih x cw env a hv (he.gx ad ad (List.mem_of_getElem? ha))
  cases g2:bc p x env a with
  |false=>
   rw[g2,aV]at hc
   rw[aV]
   refine aN hc aH ?_
   refine aG ?_
   refine aY ⟨aT, ?_⟩
   exact jH
  |true=>
   rw[g2,bL]at hc
   rw[bL]
   refine ao hc rfl ?_
   refine aG ?_
   refine ai aT ?_
   exact bR
theorem M9{p:Pg}{f:Pf}(hf:mN p.sig f)(ih:∀k∈f.kids,BC p k){env:List Tm}(hv:da p.sig env){e:Tm}(he:cD p.sig env.length e)(r7:f.bp=7):
 aR Tryz.prog 174 [xp p env,e.d,f.d] (xT (bc p f env e)):=by
 have ht:bc p f env e=(e.op==7&&(f.kids.length==1&&aI (bu f.kids 0) f.val&&lu (f.kids.map (bc p)) 0 env (gr e 0))):=by rw[cT,jZ,if_neg (by omega),if_neg (by omega),if_neg (by omega),if_neg (by omega),if_neg (by omega),if_neg (by omega),if_pos r7]
 have hc:=w9 hf ih hv he 0 ad
 rw[<- ht]at hc
 refine aR.ay mix Sl au ?_
 rw[Wh]
 refine aG ?_
 cases g:bc p f env e with
 |false=>
  rw[g,aV]at hc
  rw[aV]
  refine bB hc rfl ?_
  exact bR
 |true=>
  rw[g,bL]at hc
  rw[bL]
  refine ag hc rfl ?_
  exact bR
theorem Ju{p:Pg}{f:Pf}(hf:mN p.sig f)(ih:∀k∈f.kids,BC p k){env:List Tm}(hv:da p.sig env){e:Tm}(he:cD p.sig env.length e)(r8:f.bp=8):
 aR Tryz.prog 175 [xp p env,e.d,f.d] (xT (bc p f env e)):=by
 have ht:bc p f env e=(e.op==7&&(f.kids.length==1&&aI (bu f.kids 0) f.val&&lu (f.kids.map (bc p)) 0 env (gr e 1))):=by rw[cT,jZ,if_neg (by omega),if_neg (by omega),if_neg (by omega),if_neg (by omega),if_neg (by omega),if_neg (by omega),if_neg (by omega),if_pos r8]
 have hc:=w9 hf ih hv he 1 ad
 rw[<- ht]at hc
 refine aR.ay mix Sm au ?_
 rw[Wi]
 refine aG ?_
 cases g:bc p f env e with
 |false=>
  rw[g,aV]at hc
  rw[aV]
  refine bB hc rfl ?_
  exact bR
 |true=>
  rw[g,bL]at hc
  rw[bL]
  refine ag hc rfl ?_
  exact bR
theorem FM(l:List Tm)(hl:l.length<=1000000)(o:Nat->ae)(nx:Nat)(hg:Good o nx)(K X:V->(Nat->ae)->Nat->Prop)
 (hK:∀v o' nx' id,(v= .bT/\l=[])\/(v= .osl id 1/\o' id= .arr 1 31 3 (l.map Tm.d))->nx<=id->id<nx'->nx<=nx'->Good o' nx'->(∀j,j<nx->o' j=o j)->K v o' nx'):
 cU Tryz.prog 94 [.d (.sl (l.map Tm.d))] o nx K X:=by
 cases iQ:l with
 |nil=>
  subst iQ
  refine cU.ay mix LK au ?_
  rw[YR]
  have hu:Tryz.prog.underlying 28=some (.slice 31):=ah
  have heq:∀O,qx Tryz.prog O 28 true (.d (.sl [])) .bT=some .fm:=by
   intro O
   unfold qx
   rw[hu]
   rfl
  simp only[List.map_nil]
  refine BD heq ?_
  simp only[List.isEmpty_nil,if_true]
  refine BD heq ?_
  exact⟨hK _ _ _ nx (.inl ⟨rfl,rfl⟩) ad ad ad dp fun _ _=>rfl,hK _ _ _ (nx+3) (.inr ⟨rfl,ab _ _ _⟩) ad ad ad dp fun j hj=>by(repeat(first|rfl|rw[ab]|rw[aj _ _ _ _ (by omega)]))⟩
 |cons a r=>
  rw[<- iQ]
  refine wW l (by rw[iQ];simp) hl o nx K X (hK _ _ _ (nx+3) (.inr ⟨rfl,ab _ _ _⟩) ad ad ad dp fun j hj=>aj _ _ _ _ ad)
set_option maxHeartbeats 1000000 in
theorem Qt{p:Pg}{f:Pf}(hf:mN p.sig f)(ih:∀k∈f.kids,BC p k){env:List Tm}(hv:da p.sig env){e:Tm}(he:cD p.sig env.length e)(r9:f.bp=9):
 aR Tryz.prog 176 [xp p env,e.d,f.d] (xT (bc p f env e)):=by
 have FL:=hf.len
 have Oz:=hv.len
 have ht:bc p f env e=(e.op==8&&(f.kids.length==2&&aI (bu f.kids 1) f.val&&lu (f.kids.map (bc p)) 0 env (gr e 0)&&lu (f.kids.map (bc p)) 1 (jE env e.n (bu f.kids 0)) (gr e 1))):=by
  rw[cT,jZ,if_neg (by omega),if_neg (by omega),if_neg (by omega),if_neg (by omega),if_neg (by omega),if_neg (by omega),if_neg (by omega),if_neg (by omega),if_pos r9]
 rw[ht]
 refine aR.ay mix Sn au ?_
 rw[Wj]
 by_cases h1:e.op=8
 rotate_left
 ·have bJ:(e.op==8)=false:=by simpa using h1
  rw[bJ,Bool.false_and,aV]
  refine dn bJ ?_
  refine aN a7 aH ?_
  refine aG ?_
  refine aY ⟨aT, ?_⟩
  exact jH
 have bJ:(e.op==8)=true:=by simpa using h1
 rw[bJ,Bool.true_and]
 by_cases h2:f.kids.length=2
 rotate_left
 ·have iR:((f.kids.length:Int)==2)=false:=by rw[beq_eq_false_iff_ne];omega
  have jq:(f.kids.length==2)=false:=by simpa using h2
  rw[jq,Bool.false_and,Bool.false_and,Bool.false_and,aV]
  refine iT bJ iR ?_
  refine aN a7 aH ?_
  refine aG ?_
  refine aY ⟨aT, ?_⟩
  exact jH
 have iR:((f.kids.length:Int)==2)=true:=by rw[beq_iff_eq];omega
 have jq:(f.kids.length==2)=true:=by simpa using h2
 have hn:=he.node1
 simp[bC,h1,cP]at hn
 obtain⟨x,hx⟩:=aw (l:=f.kids) (k:=0) ad
 obtain⟨y,hy⟩:=aw (l:=f.kids) (k:=1) ad
 obtain⟨a,ha⟩:=aw (l:=e.kids) (k:=0) ad
 obtain⟨b,hb⟩:=aw (l:=e.kids) (k:=1) ad
 have cw:=List.mem_of_getElem? hx
 have sO:=List.mem_of_getElem? hy
 rw[bK hx,bK hy,lx hx,lx hy,eJ ha,eJ hb,jq,Bool.true_and]
 refine FR bJ iR hx hy ?_
 refine ao (cX _ (hf.gx sO).val.1.1 f.val hf.val.1.1) rfl ?_
 cases g:aI y.val f.val with
 |false=>
  rw[Bool.false_and,Bool.false_and,aV]
  refine FR bJ iR hx hy ?_
  refine aN a7 aH ?_
  refine aG ?_
  refine aY ⟨aT, ?_⟩
  exact jH
 |true=>
 rw[Bool.true_and]
 refine FR bJ iR hx hy ?_
 refine ao bY rfl ?_
 refine aG ?_
 refine ai aT ?_
 refine iT hx ha ?_
 have hc:=ih x cw env a hv (he.ac2 h1 ha)
 cases g2:bc p x env a with
 |false=>
  rw[g2,aV]at hc
  rw[Bool.false_and,aV]
  refine aN hc aH ?_
  refine aG ?_
  refine aY ⟨aT, ?_⟩
  exact jH
 |true=>
 rw[g2,bL]at hc
 rw[Bool.true_and]
 refine ao hc rfl ?_
 refine aG ?_
 refine ai aT ?_
 refine aG ?_
 refine c6 (FM env ad _ _ dp _ _ fun v o1 n1 id q1 q2 q3 q4 q5 q6=> ?_)
 refine aG ?_
 obtain⟨n,hn0⟩:∃n:Nat,e.n=n:=⟨e.n.toNat,ad⟩
 have Eh:n<=19:=ad
 have hgw:Fc o1 (fun j=>j=id) 31 3 (env.map Tm.d) v:=by
  rcases q1 with⟨a1,a2⟩|⟨a1,a2⟩
  ·exact .inl ⟨a1,by rw[a2];rfl,aT⟩
  ·exact .inr ⟨id,1,rfl,a1,a2⟩
 let m:=n+1 - env.length
 have hm:m=n+1 - env.length:=rfl
 refine aE (fun i:Nat=>⟨bz [.aa, .aa, .aa, .ptr 0 0, .ptr 1 0, .ptr 2 0, .osl 3 0],aK (w8 p env e f) 3 (.arr 0 31 3 ((env++List.replicate i gA).map Tm.d)),4⟩)
  (fun i=>i<=m) (fun i=>m - i) 0 (Nat.zero_le _) ?_ ?_
 ·refine bE.gU (fun j=>j=id) v 3 _ ad (lt3 (cp (y:= .row (He p env)) TN cY (bw rfl fH)) (cp (y:= .row e.row) TN cY (bw rfl fH)) (cp (y:= .row f.row) TN cY (bw rfl fH))) (ab _ _ _) (by simpa using hgw) (fun j hj=>by unfold w8;(repeat(first|rfl|rw[ab]|rw[aj _ _ _ _ (by omega)]))) (fun j h h2=>ad) ?_
  exact nj
 rintro k hk
 replace hk:k<=m:=hk
 have e0:(env++List.replicate k gA).length=env.length+k:=au
 refine iT e0 hn0 ?_
 refine aq (fun h2=> ?_) (fun h2=> ?_)
 ·simp at h2
  refine dn e0 ?_
  refine aO wX ?_
  refine dn e0 ?_
  refine ax (k+1) ad ad (bE.gU (fun j=>j=3) (.osl 3 1) 3 _ ad (lt3 (cp (y:= .row (He p env)) cY cY (bw rfl fH)) (cp (y:= .row e.row) cY cY (bw rfl fH)) (cp (y:= .row f.row) cY cY (bw rfl fH))) (ab _ _ _) (.inr ⟨3,1,rfl,rfl,by(repeat(first|rfl|rw[ab]|rw[aj _ _ _ _ (by omega)]));rw[List.replicate_succ', <- List.append_assoc,List.map_append (l₂:=[gA])];rfl⟩) (fun j hj=>by unfold w8;(repeat(first|rfl|rw[ab]|rw[aj _ _ _ _ (by omega)]))) (fun j h h2=>ad) ?_)
  exact nj
 ·simp at h2
  have Qb:k=m:=ad
  obtain⟨z,hz⟩:=aw (l:=env++List.replicate k gA) (k:=n) ad
  obtain⟨zo,zn,zk⟩:=z
  simp+contextual (disch:=first|omega|simp only[go_sem,false_implies]) only[go_sem,wrap64,if_pos,List.length_map,e0,hn0,hx,hz,Tm.lH]
  have AK:(List.map Tm.d (env++List.replicate k gA)).set n x.val.d=(jE env e.n x.val).map Tm.d:=by
   rw[hn0,zH,List.map_set,Qb]
  rw[AK]
  refine ai aT ?_
  have hwo:da p.sig (jE env e.n x.val):=DI hv ad (hf.gx cw).val.1
  have ZC:(jE env e.n x.val).length=max env.length (e.n.toNat+1):=sZ _ _ _
  refine iT hy hb ?_
  refine aZ (MZ p env (jE env e.n x.val)) ?_
  refine iT hy hb ?_
  have hc:=ih y sO (jE env e.n x.val) b hwo (he.ac3 h1 hb ad ad)
  cases g3:bc p y (jE env e.n x.val) b with
  |false=>
   rw[g3,aV]at hc
   rw[aV]
   refine aN hc aH ?_
   refine aG ?_
   refine aY ⟨aT, ?_⟩
   exact jH
  |true=>
   rw[g3,bL]at hc
   rw[bL]
   refine ao hc rfl ?_
   refine aG ?_
   refine ai aT ?_
   exact bR
end Go.Proofs.YtonbelhklnmjnaaGreat
