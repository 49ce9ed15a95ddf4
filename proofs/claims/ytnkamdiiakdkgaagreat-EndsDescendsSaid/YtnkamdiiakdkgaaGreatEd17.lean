/-
  A PART OF THE PROOF. Conditions: none.
-/
import Derived.Test.YtnkamdiiakdkgaaGreatEd16
set_option linter.unusedSimpArgs false
set_option linter.unusedVariables false
namespace Go.Proofs.YtnkamdiiakdkgaaGreat
theorem dec_lt{l:List UInt8}{i:Nat}{b:UInt8}(hb:l[i]? =some b)(h:b.toNat<128):Utf8.decode ⟨⟨l⟩⟩ i=(b.toNat,1):=by
 have e:(ByteArray.mk ⟨l⟩).get! i=b:=by
  show(Array.mk l)[i]! =b
  simp[hb]
 simp only[Utf8.decode,Nat.add_zero,e]
 rw[if_pos h]
theorem Vn{l:List UInt8}{i:Nat}{b:UInt8}(hb:l[i]? =some b)(h:128<=b.toNat):128<=(Utf8.decode ⟨⟨l⟩⟩ i).1:=by
 have e:(ByteArray.mk ⟨l⟩).get! i=b:=by
  show(Array.mk l)[i]! =b
  simp[hb]
 simp only[Utf8.decode,Nat.add_zero,e]
 rw[if_neg (by omega)]
 split
 ·split<;>simp_all[Utf8.runeError]
 ·split
  ·split
   ·rename_i h3;simp at h3;omega
   ·simp[Utf8.runeError]
  ·split
   ·split
    ·rename_i h3;simp at h3;omega
    ·simp[Utf8.runeError]
   ·simp[Utf8.runeError]
def N5(r:Int):Bool:=decide (97<=r)&&decide (r<=122)||decide (65<=r)&&decide (r<=90)
theorem K7(b:UInt8):N5 b.toNat=letterF b:=by
 rw[Bool.eq_iff_iff]
 simp[N5,letterF]
theorem Hk(s:List UInt8)(hs:s.length<=9223372036854775807):aT Tryz.prog 126 [.str s] (.ret [.bool (jD s)]):=by
 refine aT.aF mix QV aL ?_
 rw[Ux]
 refine ow ?_
 refine aw (fun k:Nat=>⟨aS [.d (.str s), .aa, .aa, .aa, .aa, .aa, .ptr 2 0],aA (fun _=> .no) 2 (.xT s k),3⟩)
  (fun k=>k<=s.length/\(s.take k).all letterF=true) (fun k=>s.length - k) 0 ⟨Nat.zero_le _,aL⟩ (aZ.aR _ af af (Good.nil.aA af rfl) (fun _ _=>rfl) ?_) (fun k hk=> ?_)
 ·exact bO
 by_cases h2:k<s.length
 ·obtain⟨b,hb⟩:=az h2
  by_cases h3:b.toNat<128
  ·simp+contextual (disch:=first|omega|simp only[go_sem,false_implies]) only[go_sem,wrap64,if_pos,Nat.add_assoc,Nat.left_eq_add,Nat.add_eq_left,Nat.add_left_cancel_iff,h2,dec_lt hb h3]
   have hr:=K7 b
   simp only[N5]at hr
   rw[hr]
   cases hl:letterF b with
   |true=>
    refine aU ?_
    refine aj (k+1) ⟨h2,fb hb hk.2 hl⟩ af (aZ.aR _ af af (Good.nil.aA af rfl) (fun _ _=>by rw[dm]) ?_)
    exact bO
   |false=>
    refine aU ?_
    simp[jD,cw hb hl]
  ·have hr:letterF b=false:=by
    rw[<- K7];simp[N5];omega
   have hd:=Vn hb af
   refine Ms h2 ?_
   have:(decide (97<=((Utf8.decode ⟨⟨s⟩⟩ k).1:Int))&&decide (((Utf8.decode ⟨⟨s⟩⟩ k).1:Int)<=122)||decide (65<=((Utf8.decode ⟨⟨s⟩⟩ k).1:Int))&&decide (((Utf8.decode ⟨⟨s⟩⟩ k).1:Int)<=90))=false:=by
    rw[Bool.eq_false_iff];intro h;simp at h;omega
   rw[this]
   refine aU ?_
   simp[jD,cw hb hr]
 ·refine Ms h2 ?_
  refine aC (fV _ _ _) rfl ?_
  refine aU ?_
  rw[jD,eE hk.2 (by omega),Bool.true_and]
theorem BS{σ:Type}(l:List iV)(hl:l.length<=9223372036854775807)(g:Nat)(aQ:List V)(base:Nat)(H:σ->Nat->ab)(step:σ->iV->σ×Bool)(hc:∀r∈V.aG aQ,r<base)(ok:σ->Prop)(aW:∀x∈l,∀s,ok s->(step s x).2=true->ok (step s x).1)
 (h:∀x∈l,∀s,ok s->iO Tryz.prog g (.d x.d::aQ) base (H s) (H (step s x).1) (.d (.bool (step s x).2))) (s:σ) (iu:ok s):
 iO Tryz.prog 128 [.d (.sl (l.map iV.d)), .func (.func g) [] aQ] base (H s) (H (aq step s l).1) (.d (.bool (aq step s l).2)):=by
 intro o nx hI K X hK
 have iq:∀r∈V.aG aQ,r<nx:=fun r hr=>Nat.lt_of_lt_of_le (hc r hr) hI.le
 refine cX.aF mix QX aL ?_
 rw[Uz]
 refine cq ?_
 refine aw (fun i:Nat×σ×(Nat->ab)×Nat=>⟨aS [.aa, .func (.func g) [] aQ, .aa, .aa, .aa, .aa, .aa, .d (.sl (l.map iV.d)), .d (.i l.length), .d (.i i.1)],i.2.2.1,i.2.2.2⟩)
  (fun i=>i.1<=l.length/\cH base (H i.2.1) i.2.2.1 i.2.2.2/\nx<=i.2.2.2/\(∀id,base<=id->id<nx->i.2.2.1 id=o id)/\aq step s l=aq step i.2.1 (l.drop i.1)/\ok i.2.1) (fun i=>l.length - i.1) (0,s,o,nx)
  ⟨Nat.zero_le _,hI,Nat.le_refl _,fun _ _ _=>rfl,rfl,iu⟩ ?_ ?_
 ·exact I4
 rintro⟨k,s',o',nx'⟩ ⟨hk,sY,hn,cN,hf,hZ⟩
 simp only at hk sY hn cN hf hZ
 refine cq ?_
 refine ai (fun h1=> ?_) (fun h1=> ?_)
 ·simp at h1
  obtain⟨x,hx⟩:=az h1
  have eU:=List.mem_of_getElem? hx
  have hd:l.drop k=x::l.drop (k+1):=by
   exact V8
  refine Ik hx ?_
  have hl0:=sY.le
  refine dF (h x eU s' hZ _ _ (?_:cH base (H s') _ (nx'+7)) _ _ fun o2 n2 m1 m2 m3=> ?_)
  ·exact XL
  have K0:∀id,base<=id->id<nx->o2 id=o id:=fun id h2 h3=>by
   exact X1
  refine cq ?_
  refine ai (fun h2=> ?_) (fun h2=> ?_)
  ·refine cq ?_
   simp at h2
   have:aq step s l=((step s' x).1,false):=by rw[hf,hd,aq,if_neg (by rw[h2];exact Bool.false_ne_true)]
   rw[this]at hK
   exact hK _ _ af (m2.mono af) K0
  ·refine cq ?_
   simp at h2
   have:aq step s l=aq step (step s' x).1 (l.drop (k+1)):=by rw[hf,hd,aq,if_pos h2]
   refine aj (k+1,(step s' x).1,o2,n2) ⟨h1,m2,by dsimp only;omega,K0,this,aW x eU s' hZ h2⟩ jS ?_
   dsimp only
   have FB:∀r∈V.aG aQ,r<n2:=fun r hr=>by have:=iq r hr;omega
   refine aZ.aR _ af af m2.bA (fun _ _=>rfl) ?_
   exact bO
 ·exact YE
def oT(l:List (List UInt8)):List (List UInt8×D):=l.map fun s=>(s, .bool true)
theorem Hl(l:List (List UInt8))(s:List UInt8):oT l++[(s, .bool true)]=oT (l++[s]):=by simp[oT]
theorem Hn{l:List (List UInt8)}{s:List UInt8}{i:Nat}{x:D}(h:fF s (oT l) 0=some (i,x)):x= .bool true/\(oT l).set i (s, .bool true)=oT l/\l.any (· ==s)=true:=by
 obtain⟨_,h2⟩:=BR h
 rw[Nat.sub_zero]at h2
 simp only[oT,List.getElem?_map]at h2
 cases hl:l[i]? with
 |none=>rw[hl]at h2;cases h2
 |some y=>
  rw[hl]at h2
  simp at h2
  obtain⟨rfl,rfl⟩:=h2
  refine⟨rfl, ?_, ?_⟩
  ·apply List.ext_getElem?
   intro j
   rw[List.getElem?_set]
   split
   ·rename_i e;subst e
    obtain⟨ck,hy⟩:=List.getElem?_eq_some_iff.1 hl
    simp[oT,ck,hy]
   ·rfl
  ·exact List.any_eq_true.2 ⟨y,List.mem_of_getElem? hl,aL⟩
theorem Ho{l:List (List UInt8)}{s:List UInt8}(h:fF s (oT l) 0=none):l.any (· ==s)=false:=by
 rw[xo]at h
 rw[List.any_eq_false]
 intro x hx hs
 have:=h (x, .bool true) (by simp[oT];exact hx)
 simp at hs;exact this hs
def N6(bs:List (List UInt8))(x:iV):Bool:= !bs.any (· ==x.name)&&jD x.name&&dG x.args 0 4
def gX(bs:List (List UInt8))(x:iV):List (List UInt8)×Bool:=(if bs.any (· ==x.name)=true then bs else bs++[x.name],N6 bs x)
theorem Vo(x:iV)(hx:x.name.length<=9223372036854775807)(base mp id:Nat)(h:Nat->ab)(hmp:h mp= .row [.mp id])(h1:mp<base)(h2:id<base)(h3:id≠mp)(bs:List (List UInt8)):
 iO Tryz.prog 125 [.d x.d, .ptr mp 0] base (aA h id (.map 9 4 (enc .str (oT bs)))) (aA h id (.map 9 4 (enc .str (oT (gX bs x).1)))) (.d (.bool (gX bs x).2)):=by
 intro o nx hI K X hK
 have hle:=hI.le
 have hg:=hI.bA
 have q0:o mp= .row [.mp id]:=by rw[hI.eq mp h1,ag _ _ _ _ (by omega),hmp]
 have q1:o id= .map 9 4 (enc .str (oT bs)):=by rw[hI.eq id h2,ad]
 refine cX.aF mix QU aL ?_
 rw[Uw]
 cases ha:fF x.name (oT bs) 0 with
 |none=>
  have hn:=Ho ha
  have hs:gX bs x=(bs++[x.name],jD x.name&&dG x.args 0 4):=by simp[gX,N6,hn]
  rw[hs]at hK
  refine sC q0 q1 ha ?_
  refine aC (Hk _ hx) rfl ?_
  refine aU ?_
  refine fD (eC [.bool (dG x.args 0 4)] ?_ ?_)
  ·refine aU ?_
   exact fun _=>fV _ _ _
  refine aU ?_
  rw[K6,Hl]
  refine hK _ _ af ⟨eH,af,fun j hj=> ?_⟩ (fun j g1 g2=>by(repeat(first|rfl|rw[ad]|rw[ag _ _ _ _ (by omega)])))
  ·by_cases e:j=id
   ·exact zW
   ·exact X0
 |some p=>
  obtain⟨i,y⟩:=p
  obtain⟨rfl,e1,hn⟩:=Hn ha
  have hs:gX bs x=(bs,false):=by simp[gX,N6,hn]
  rw[hs]at hK
  refine sC q0 q1 ha ?_
  rw[FE,e1]
  refine hK _ _ af ⟨eH,af,fun j hj=> ?_⟩ (fun j g1 g2=>by(repeat(first|rfl|rw[ad]|rw[ag _ _ _ _ (by omega)])))
  ·by_cases e:j=id
   ·exact zW
   ·exact X0
theorem oU:∀ (l:List iV) (bs:List (List UInt8)),match bT l bs with|some B=>aq gX bs l=(B,true)|none=>(aq gX bs l).2=false
 |[],bs=>rfl
 |x::l,bs=>by
  have ih:=oU l (bs++[x.name])
  simp only[bT,aq,gX,N6]
  by_cases h1:bs.any (· ==x.name)=true
  ·simp[h1]
  ·simp only[Bool.not_eq_true]at h1
   simp only[h1,Bool.false_eq_true,if_false,Bool.not_false,Bool.true_and]
   by_cases h2:(jD x.name&&dG x.args 0 4)=true
   ·have h3: ¬ ((!jD x.name|| !dG x.args 0 4)=true):=by simp at h2;simp[h2]
    rw[if_neg h3,if_pos h2]
    exact ih
   ·have h3:(!jD x.name|| !dG x.args 0 4)=true:=by
     cases hn:jD x.name<;>simp_all
    rw[if_pos h3,if_neg h2]
def kN(ok:Bool):Int:=if ok=true then 0 else 2
@[reducible] def Hq (s:bE) (bs:List (List UInt8)):Nat->ab:=aA (aA (aA (fun _=> .no) 0 (.row s.row)) 3 (.row [.mp 2])) 2 (.map 9 4 (enc .str (oT bs)))
theorem uX(s:bE)(hs:s.Fits):aT Tryz.prog 97 [s.d] (.ret [.i (kN (jc s))]):=by
 refine aT.aF mix aat aL ?_
 rw[c97]
 refine ow ?_
 refine aC (fV _ _ _) rfl ?_
 refine ow ?_
 cases h1:(!dG s.cons.length 2 12||decide (8<(s.bB.length:Int)))with
 |true=>
  have:jc s=false:=by simp only[jc,h1,if_true]
  refine gB h1 ?_
  simp[this,kN]
 |false=>
  have P6:=oU s.cons []
  have DP:∀ (l:List iV),(∀x∈l,x.name.length<=9223372036854775807)->∀x∈l,∀bs,True->iO Tryz.prog 125 (.d x.d::[.ptr 3 0]) 4 (Hq s bs) (Hq s (gX bs x).1) (.d (.bool (gX bs x).2)):=fun l hl x hx bs _=>
   Vo x (hl x hx) 4 3 2 (aA (aA (fun _=> .no) 0 (.row s.row)) 3 (.row [.mp 2])) (ad _ _ _) af af af bs
  simp[dG]at h1
  obtain⟨a,b,r,hc⟩:∃a b r,s.cons=a::b::r:=by
   match h:s.cons with
   |[]=>exact Er
   |[a]=>exact Er
   |a::b::r=>exact⟨a,b,r,rfl⟩
  have mG:(!dG s.cons.length 2 12||decide (8<(s.bB.length:Int)))=false:=by simp[dG];omega
  have Hg:jc s=if(!mb a fB|| !mb b tB)=true then false else match bT s.cons []with
   |none=>false
   |some l=>(bT s.bB l).isSome:=by
   unfold jc
   rw[if_neg (by rw[mG];exact Bool.false_ne_true),hc]
   dsimp only
   rfl
  refine gB mG ?_
  refine bg (BS s.cons hs.lc 125 [.ptr 3 0] 4 (Hq s) gX nO (fun _=>True) (fun _ _ _ _ _=>trivial) (DP s.cons hs.nc) [] trivial _ _ ⟨?_,af,fun id au=> ?_⟩ _ _ fun o2 n2 m1 m2 m3=> ?_)
  ·exact eH
  ·rcases(by omega:id=0\/id=1\/id=2\/id=3)with rfl|rfl|rfl|rfl<;>rfl
  have p0:∀ {bs:List (List UInt8)} {o:Nat->ab} {n:Nat},cH 4 (Hq s bs) o n->o 0= .row s.row:=fun h=>h.eq 0 af
  have p3:∀ {bs:List (List UInt8)} {o:Nat->ab} {n:Nat},cH 4 (Hq s bs) o n->o 3= .row [.mp 2]:=fun h=>h.eq 3 af
  cases hn:bT s.cons []with
  |none=>
   rw[hn]at P6
   simp only at P6
   rw[P6]
   refine ow ?_
   rw[Hg,hn]
   split<;>rfl
  |some B=>
   rw[hn]at P6
   simp only at P6
   rw[P6]at m2|-
   simp+contextual (disch:=first|omega|simp only[go_sem,false_implies]) only[go_sem,wrap64,if_pos,Nat.add_assoc,Nat.left_eq_add,Nat.add_eq_left,Nat.add_left_cancel_iff,p0 m2]
   refine bg (BS s.bB hs.lf 125 [.ptr 3 0] 4 (Hq s) gX nO (fun _=>True) (fun _ _ _ _ _=>trivial) (DP s.bB hs.nf) B trivial _ _ (m2.mono af) _ _ fun o4 n4 k1 k2 k3=> ?_)
   have Jj:=oU s.bB B
   cases hf:bT s.bB B with
   |none=>
    rw[hf]at Jj
    simp only at Jj
    rw[Jj]
    refine ow ?_
    rw[Hg,hn]
    simp only[hf]
    split<;>rfl
   |some C=>
    rw[hf]at Jj
    simp only at Jj
    rw[Jj]at k2|-
    simp+contextual (disch:=first|omega|simp only[go_sem,false_implies]) only[go_sem,wrap64,if_pos,Nat.add_assoc,Nat.left_eq_add,Nat.add_eq_left,Nat.add_left_cancel_iff,p0 k2,hc]
    have RD:jc s= !(!mb a fB|| !mb b tB):=by
     rw[Hg,hn];simp only[hf]
     cases(!mb a fB|| !mb b tB)<;>rfl
    refine ai (fun h5=> ?_) (fun h5=> ?_)
    ·refine aU ?_
     have vC:(!mb a fB|| !mb b tB)=true:=h5
     rw[RD,vC];rfl
    ·refine aU ?_
     have vC:(!mb a fB|| !mb b tB)=false:=h5
     rw[RD,vC];rfl
def eZ(s:bE)(l:List Tm):Bool:=jc s&&l.all (lU s)
theorem nr{α:Type}(p:α->Bool):∀ (l:List α) (u:Unit),aq (fun _ x=>((),p x)) u l=((),l.all p)
 |[],_=>rfl
 |x::l,u=>by
  simp only[aq,List.all_cons,nr p l]
  cases p x<;>rfl
theorem DS(l:List Tm)(hl:l.length<=9223372036854775807)(g:Nat)(aQ:List V)(base:Nat)(h:Nat->ab)(p:Tm->Bool)(hc:∀r∈V.aG aQ,r<base)
 (hp:∀x∈l,iO Tryz.prog g (.d x.d::aQ) base h h (.d (.bool (p x)))):iO Tryz.prog 171 [.d (.sl (l.map Tm.d)), .func (.func g) [] aQ] base h h (.d (.bool (l.all p))):=by
 have:=BN l hl g aQ base (fun _:Unit=>h) (fun _ x=>((),p x)) hc (fun _=>True) (fun _ _ _ _ _=>trivial) (fun x hx _ _=>hp x hx) () trivial
 exact IZ
structure Tm.Fin (t:Tm):Prop where
 fits:t.fits
 l5:t.l5<=900000
theorem K8(s:bE)(hs:s.Fits)(t:Tm)(ht:t.Fin)(base sp:Nat)(h:Nat->ab)(vF:h sp= .row s.row)(hb:sp<base):iO Tryz.prog 172 [.d t.d, .ptr sp 0] base h h (.d (.bool (lU s t))):=by
 intro o nx hI K X hK
 have hle:=hI.le
 have hg:=hI.bA
 have q0:o sp= .row s.row:=by rw[hI.eq sp hb,vF]
 refine cX.aF mix Rh aL ?_
 rw[US]
 refine gB q0 ?_
 refine aC (K5 s hs t ht.fits ht.l5) rfl ?_
 exact Yk
theorem FF(s:bE)(hs:s.Fits)(l:List Tm)(hl:l.length<=9223372036854775807)(hf:∀t∈l,t.Fin):aT Tryz.prog 159 [s.d, .sl (l.map Tm.d)] (.ret [.bool (eZ s l)]):=by
 refine aT.aF mix Ra aL ?_
 rw[UM]
 refine aU ?_
 refine aC (uX s hs) rfl ?_
 cases h1:jc s with
 |false=>
  refine F6 ?_
  simp[eZ,h1]
 |true=>
  refine F6 ?_
  refine bg (DS l hl 172 [.ptr 0 0] 1 (aA (fun _=> .no) 0 (.row s.row)) (lU s) nO (fun x hx=>K8 s hs x (hf x hx) 1 0 _ (ad _ _ _) af) _ _ ⟨eH,af,fun id au=>rfl⟩ _ _ fun o2 n2 m1 m2 m3=> ?_)
  refine aU ?_
  simp[eZ,h1]
theorem N7(s:bE)(hs:s.Fits)(t:Tm)(ht:t.Fin):aT Tryz.prog 134 [s.d,t.d] (.ret [.i (kN (eZ s [t]))]):=by
 refine aT.aF mix Q3 aL ?_
 rw[UF]
 refine aU ?_
 refine aC (FF s hs [t] aL (fun x hx=>by simp at hx;subst hx;exact ht)) rfl ?_
 cases h1:eZ s [t]with
 |false=>exact Is
 |true=>exact Is
def Tm.BT (t:Tm):Int:=(pre t 1).length
structure Tm.DT (t:Tm):Prop extends t.Fin where
 size:t.BT<=1000000
theorem Tm.Fin.kid {t k:Tm}(h:t.Fin)(hk:k∈t.kids):k.Fin:=⟨((Tm.bu _).1 h.fits).2 k hk,by have:=Tm.nA hk;have:=h.l5;omega⟩
theorem sn:∀ (t:Tm) (d d':Int),(pre t d).length=(pre t d').length:=by
 refine Tm.dN fun t ih d d'=> ?_
 rw[jC,jC]
 simp only[List.length_cons,List.length_flatMap]
 congr 2
 exact List.map_congr_left fun k hk=>ih k hk _ _
theorem Tm.Hr {t k:Tm}(hk:k∈t.kids):k.BT+1<=t.BT:=by
 simp only[Tm.BT]
 rw[jC t,sn k 1 (1+1)]
 simp only[List.length_cons,List.length_flatMap]
 have:∀ (l:List Tm),k∈l->(pre k (1+1)).length<=(l.map fun k=>(pre k (1+1)).length).sum:=by
  intro l
  induction l with
  |nil=>intro h;cases h
  |cons x l ih=>
   intro h
   rcases List.mem_cons.1 h with rfl|h
   ·simp only[List.map_cons,List.sum_cons];omega
   ·have:=ih h;simp only[List.map_cons,List.sum_cons];omega
 have:=this _ hk
 omega
theorem Tm.DT.kid {t k:Tm}(h:t.DT)(hk:k∈t.kids):k.DT:=⟨h.toFin.kid hk,by have:=Tm.Hr hk;have:=h.size;omega⟩
def Tm.sz (t:Tm):Nat:=(pre t 1).length
def gA(l:List Tm):Nat:=(l.map Tm.sz).sum
theorem Tm.qd (t:Tm):t.BT=(t.sz:Int):=rfl
theorem Tm.iR (t:Tm):t.sz=1+gA t.kids:=by
 unfold Tm.sz gA
 rw[jC,List.length_cons,List.length_flatMap,Nat.add_comm]
 congr 2
 exact List.map_congr_left fun k hk=>sn k _ _
theorem Tm.RE (op n:Int)(l:List Tm):(Tm.mk op n l).sz=1+gA l:=Tm.iR _
theorem gx(k:Tm)(l:List Tm):gA (k::l)=k.sz+gA l:=by simp[gA]
theorem xq(k:Tm)(l:List Tm):Tm.lR (k::l)=Nat.max k.l5 (Tm.lR l):=by simp[Tm.lR]
theorem tl:∀ (l:List Tm) (n:Nat),Tm.lR l<=n↔∀k∈l,k.l5<=n
 |[],n=>by simp[Tm.lR]
 |x::l,n=>by
  rw[xq]
  simp only[List.mem_cons,forall_eq_or_imp, <- tl l n]
  exact Nat.max_le
theorem Tm.DU (t:Tm):t.l5=1+Tm.lR t.kids:=by cases t;simp[Tm.l5,Tm.kids]
theorem Hs:∀t:Tm,∀left depth:Int,iy t left depth=if(t.sz:Int)<=left/\(t.l5:Int)<=depth then left - t.sz else -1:=by
 refine Tm.dN fun t ih left depth=> ?_
 have hs:∀ (l:List Tm) (left d:Int),(∀k∈l,k∈t.kids)->0<=left->0<=d->cc l left d=if(gA l:Int)<=left/\(Tm.lR l:Int)<=d then left - gA l else -1:=by
  intro l
  induction l with
  |nil=>intro left d _ h1 h2;simp[cc,gA,Tm.lR,h1,h2]
  |cons k l uS=>
   intro left d hk h1 h2
   simp only[cc,if_pos h1]
   rw[ih k (hk k (by simp))]
   have hm:(Tm.lR (k::l):Int)<=d↔(k.l5:Int)<=d/\(Tm.lR l:Int)<=d:=by
    have:= @Nat.max_le k.l5 (Tm.lR l) d.toNat
    have e:Tm.lR (k::l)=max k.l5 (Tm.lR l):=xq k l
    rw[e];omega
   simp only[gx,hm]
   by_cases hc:(k.sz:Int)<=left/\(k.l5:Int)<=d
   ·rw[if_pos hc,uS _ _ (fun x hx=>hk x (by simp[hx])) (by omega) h2]
    by_cases tR:(gA l:Int)<=left - k.sz/\(Tm.lR l:Int)<=d
    ·rw[if_pos tR,if_pos (by omega)];omega
    ·rw[if_neg tR,if_neg (by omega)]
   ·rw[if_neg hc,oS (by omega),if_neg (by omega)]
 rw[BJ,Tm.iR,Tm.DU]
 by_cases h:left<1\/depth<1
 ·rw[if_pos h,if_neg (by omega)]
 ·rw[if_neg h,hs _ _ _ (fun _ h=>h) (by omega) (by omega)]
  by_cases hc:(gA t.kids:Int)<=left - 1/\(Tm.lR t.kids:Int)<=depth - 1
  ·rw[if_pos hc,if_pos (by omega)];omega
  ·rw[if_neg hc,if_neg (by omega)]
theorem uY(t:Tm)(left depth:Int):0<=iy t left depth↔(t.sz:Int)<=left/\(t.l5:Int)<=depth:=by
 rw[Hs];split<;>omega
theorem uZ(t:Tm):kJ t=true↔t.sz<=50/\t.l5<=14:=by
 simp only[kJ,decide_eq_true_eq,uY];omega
theorem Ht:∀ (t:Tm) (d m:Int),(∀x∈pre t d,x.2<=m)↔d+t.l5 - 1<=m:=by
 refine Tm.dN fun t ih d m=> ?_
 rw[jC,Tm.DU]
 simp only[List.mem_cons,forall_eq_or_imp,List.mem_flatMap]
 have h1:(∀x:Tm×Int,(∃k,k∈t.kids/\x∈pre k (d+1))->x.2<=m)↔∀k∈t.kids,d+1+k.l5 - 1<=m:=by
  constructor
  ·intro h k hk
   exact(ih k hk _ _).1 fun x hx=>h x ⟨k,hk,hx⟩
  ·rintro h x ⟨k,hk,hx⟩
   exact(ih k hk _ _).2 (h k hk) x hx
 rw[h1]
 constructor
 ·rintro⟨h2,h3⟩
  have:=(tl t.kids (m - d).toNat).2 fun k hk=>by have:=h3 k hk;omega
  omega
 ·intro h
  have:=(tl t.kids (m - d).toNat).1 af
  exact⟨af,fun k hk=>by have:=this k hk;omega⟩
theorem FG(p:Tm->Bool):∀ (t:Tm) (d:Int),(pre t d).all (fun x=>p x.1)=(p t&&t.kids.all fun k=>(pre k (d+1)).all fun x=>p x.1):=by
 intro t d
 rw[jC,List.all_cons,List.all_flatMap]
theorem u0(s:bE):∀ (t:Tm) (d:Int),jE s t=(pre t d).all fun x=>bt s x.1:=by
 refine Tm.dN fun t ih d=> ?_
 rw[FG (bt s),rr]
 congr 1
 exact PF
theorem K9{s:bE}{t:Tm}(h:bt s t=true):dG t.op 1 15=true:=by
 rw[show dG t.op 1 15=true↔1<=t.op/\t.op<=15 by simp[dG]]
 by_cases h6:dG t.op 6 15=true
 ·simp[dG]at h6;omega
 ·simp only[bt,if_neg h6]at h
  by_cases h1:t.op=1
  ·omega
  by_cases h2:t.op=2
  ·omega
  by_cases h3:t.op=3
  ·omega
  by_cases h4:t.op=4
  ·omega
  by_cases h5:t.op=5
  ·omega
  by_cases h8:t.op=8
  ·omega
  rw[if_neg h1,if_neg h2,if_neg h3,if_neg h4,if_neg h5,if_neg h8]at h
  cases h
def u1(s:bE)(x:Tm×Int):Bool:= !(decide (12<x.2)|| !dG x.1.op 1 15|| !bt s x.1)
theorem sq(s:bE):∀ (l:List (Tm×Int)) (n:Int) (b:Bool),(aq (xm fJ (gw s)) (n,b) l).2=(decide (l=[]\/n+l.length<=40)&&l.all (u1 s))
 |[],n,b=>by simp[aq]
 |x::l,n,b=>by
  have e1:∀c,nW s n x=c->xm fJ (gw s) (n,b) x=((n+1, !c), !c):=fun c hc=>by show((n+1, !nW s n x),(fJ (n+1, !nW s n x)).isNone)=_;rw[hc];cases c<;>rfl
  have hb:nW s n x=(decide (40<n+1)|| !u1 s x):=by simp[nW,u1,Bool.or_assoc]
  rw[List.all_cons]
  cases hg:u1 s x with
  |false=>
   have e:nW s n x=true:=by rw[hb,hg];simp
   rw[aq,e1 _ e];simp
  |true=>
   by_cases h40:40<n+1
   ·have:decide (x::l=[]\/n+(x::l).length<=40)=false:=by simp;omega
    have e:nW s n x=true:=by rw[hb];simp[h40]
    rw[this,Bool.false_and,aq,e1 _ e];simp
   ·have e:nW s n x=false:=by rw[hb,hg];simp;omega
    rw[aq,e1 _ e]
    simp only[Bool.not_false,if_true,sq s l,Bool.true_and]
    congr 1
    cases l with
    |nil=>simp;omega
    |cons y l=>simp;omega
theorem DV(s:bE)(t:Tm):lU s t=fg s t:=by
 rw[lU,sq,fg,u0 s t 1,Bool.eq_iff_iff]
 have hn:pre t 1≠[]:=by rw[jC];simp
 simp only[Bool.and_eq_true,decide_eq_true_eq,hn,false_or,uY,List.all_eq_true]
 have hd:=Ht t 1 12
 constructor
 ·rintro⟨h1,h2⟩
  have h3:∀x∈pre t 1,x.2<=12:=fun x hx=>by have:=h2 x hx;simp[u1]at this;omega
  have:=hd.1 h3
  exact⟨⟨by unfold Tm.sz;omega,af⟩,fun x hx=>by have:=h2 x hx;simp[u1]at this;exact this.2⟩
 ·rintro⟨⟨h1,h2⟩,h3⟩
  have h4:=hd.2 af
  refine⟨by unfold Tm.sz at h1;omega,fun x hx=> ?_⟩
  have h5:=h4 x hx
  have h6:=h3 x hx
  have h7:=K9 h6
  simp[u1,h6,h7];omega
def pnF(s:bE)(t:Tm):Bool:=
 let k:Int:=t.kids.length
 if t.op=16 then t.n==0&&k==0
 else if t.op=1 then dG t.n 0 199&&k==0
 else if t.op=2 then dG t.n (-1000000) 1000000&&k==0
 else if t.op=3 then dG t.n 0 (s.cons.length - 1)&&k==fE s.cons t.n
 else if t.op=5 then dG t.n 0 (s.bB.length - 1)&&decide (k<fE s.bB t.n)
 else false
mutual
def Hu(s:bE):Tm->Bool
 | .mk op n kids=>FH s kids&&pnF s (.mk op n kids)
def FH(s:bE):List Tm->Bool
 |[]=>true
 |k::l=>Hu s k&&FH s l
end
theorem xr(s:bE):∀l:List Tm,FH s l=l.all (Hu s)
 |[]=>rfl
 |k::l=>by rw[FH,xr s l];rfl
theorem N8(s:bE)(t:Tm):Hu s t=(t.kids.all (Hu s)&&pnF s t):=by cases t;rw[Hu,xr];rfl
def Pn(s:bE)(t:Tm):Prop:=Hu s t=true
theorem La{s:bE}{t:Tm}:Pn s t↔pnF s t=true/\∀k∈t.kids,Pn s k:=by
 unfold Pn;rw[N8,Bool.and_eq_true,List.all_eq_true];exact and_comm
theorem Pn.kid {s:bE}{t k:Tm}(h:Pn s t)(hk:k∈t.kids):Pn s k:=(La.1 h).2 k hk
theorem N9{s:bE}{t:Tm}(h:pnF s t=true)(h1:t.op=16\/t.op=1\/t.op=2):t.kids=[]/\(t.op=16->t.n=0):=by
 unfold pnF at h
 rcases h1 with h1|h1|h1
 ·simp[h1]at h;exact⟨h.2,fun _=>h.1⟩
 ·simp[h1]at h;exact⟨h.2,fun e=>af⟩
 ·simp[h1]at h;exact⟨h.2,fun e=>af⟩
theorem Pn.bare {s:bE}{t:Tm}(h:Pn s t)(h1:t.op=16\/t.op=1\/t.op=2):t.kids=[]:=(N9 (La.1 h).1 h1).1
def v8{σ:Type}(step:σ->Tm->σ×Bool):σ->List Tm->Int->Int
 |_,[],_=> -1
 |s,x::l,k=>if(step s x).2=true then v8 step (step s x).1 l (k+1)else k
theorem FI{σ:Type}(step:σ->Tm->σ×Bool):∀ (l:List Tm) (s:σ) (k:Int),0<=k->(0<=v8 step s l k↔(aq step s l).2=false)
 |[],_,_,_=>by simp[v8,aq]
 |x::l,s,k,hk=>by
  have ih:=FI step l (step s x).1 (k+1) af
  by_cases h:(step s x).2=true
  ·simp only[v8,aq,h,if_true];exact ih
  ·simp[v8,aq,h,hk]
theorem Vp{σ:Type}(l:List Tm)(hl:l.length<=9223372036854775807)(g:Nat)(aQ:List V)(base:Nat)(H:σ->Nat->ab)(step:σ->Tm->σ×Bool)(hc:∀r∈V.aG aQ,r<base)(ok:σ->Prop)(aW:∀x∈l,∀s,ok s->(step s x).2=true->ok (step s x).1)
 (h:∀x∈l,∀s,ok s->iO Tryz.prog g (.d x.d::aQ) base (H s) (H (step s x).1) (.d (.bool (!(step s x).2)))) (s:σ) (iu:ok s):
 iO Tryz.prog 150 [.d (.sl (l.map Tm.d)), .func (.func g) [] aQ] base (H s) (H (aq step s l).1) (.d (.i (v8 step s l 0))):=by
 intro o nx hI K X hK
 have iq:∀r∈V.aG aQ,r<nx:=fun r hr=>Nat.lt_of_lt_of_le (hc r hr) hI.le
 refine cX.aF mix Q8 aL ?_
 rw[UK]
 refine cq ?_
 refine aw (fun i:Nat×σ×(Nat->ab)×Nat=>⟨aS [.d (.sl (l.map Tm.d)), .func (.func g) [] aQ, .aa, .aa, .aa, .aa, .aa, .d (.i l.length), .d (.i i.1)],i.2.2.1,i.2.2.2⟩)
  (fun i=>i.1<=l.length/\cH base (H i.2.1) i.2.2.1 i.2.2.2/\nx<=i.2.2.2/\(∀id,base<=id->id<nx->i.2.2.1 id=o id)/\aq step s l=aq step i.2.1 (l.drop i.1)/\ok i.2.1/\v8 step s l 0=v8 step i.2.1 (l.drop i.1) i.1) (fun i=>l.length - i.1) (0,s,o,nx)
  ⟨Nat.zero_le _,hI,Nat.le_refl _,fun _ _ _=>rfl,rfl,iu,rfl⟩ ?_ ?_
 ·exact I4
 rintro⟨k,s',o',nx'⟩ ⟨hk,sY,hn,cN,hf,hZ,tD⟩
 simp only at hk sY hn cN hf hZ tD
 refine cq ?_
 refine ai (fun h1=> ?_) (fun h1=> ?_)
 ·simp at h1
  obtain⟨x,hx⟩:=az h1
  have eU:=List.mem_of_getElem? hx
  have hd:l.drop k=x::l.drop (k+1):=by
   exact V8
  rw[hd]at hf tD
  simp only[aq,v8]at hf tD
  refine Ik hx ?_
  refine dF (h x eU s' hZ _ _ (sY.mono af) _ _ fun o2 n2 m1 m2 m3=> ?_)
  cases hb:(step s' x).2 with
  |true=>
   rw[hb]at hf tD
   simp only[if_true]at hf tD
   refine aU ?_
   have FB:∀r∈V.aG aQ,r<n2+1+1:=fun r hr=>by have:=iq r hr;omega
   exact zw0
  |false=>
   exact SA
 ·exact SC
theorem sr{σ:Type}(l:List Tm)(hl:l.length<=9223372036854775807)(g:Nat)(aQ:List V)(base:Nat)(H:σ->Nat->ab)(step:σ->Tm->σ×Bool)(hc:∀r∈V.aG aQ,r<base)(ok:σ->Prop)(aW:∀x∈l,∀s,ok s->(step s x).2=true->ok (step s x).1)
 (h:∀x∈l,∀s,ok s->iO Tryz.prog g (.d x.d::aQ) base (H s) (H (step s x).1) (.d (.bool (!(step s x).2)))) (s:σ) (iu:ok s):
 iO Tryz.prog 106 [.d (.sl (l.map Tm.d)), .func (.func g) [] aQ] base (H s) (H (aq step s l).1) (.d (.bool (!(aq step s l).2))):=by
 intro o nx hI K X hK
 have iq:∀r∈V.aG aQ,r<nx:=fun r hr=>Nat.lt_of_lt_of_le (hc r hr) hI.le
 refine cX.aF mix QR aL ?_
 rw[Ut]
 refine ow ?_
 refine bg (Vp l hl g aQ base H step hc ok aW h s iu _ _ ?_ _ _ fun o2 n2 m1 m2 m3=> ?_)
 ·exact Es
 refine ow ?_
 have e:decide (0<=v8 step s l 0)= !(aq step s l).2:=by
  have:=FI step l s 0 af
  exact SQ
 rw[e]
 exact Mz
section
theorem ab0{x:Tm}{g:Nat}{aQ:List V}{base c bx:Nat}{h h2 O:Nat->ab}{r:Bool}(hS:iO Tryz.prog g (.d x.d::aQ) base h h2 (.d (.bool r)))(hb:base<=bx)(Mc:bx<c)(hO:O bx= .row [.func (.func g) [] aQ])(hc:∀r∈V.aG aQ,r<base):
 iO Tryz.prog 161 [.d x.d, .ptr bx 0] c (ext base h O) (ext base h2 O) (.d (.bool (!r))):=by
 intro o nx hI K X hK
 have hle:=hI.le
 have iq:∀r∈V.aG aQ,r<nx:=fun r hr=>by have:=hc r hr;omega
 have ho:o bx= .row [.func (.func g) [] aQ]:=by
  exact Sq
 have y1:∀k,bx≠nx+k:=fun k=>af
 have y2:bx≠nx:=af
 refine cX.aF mix Rc aL ?_
 rw[UO]
 refine Mr ho y1 y2 ?_
 refine dF ((hS.ext (by omega:base<=c) O) _ _ ?_ _ _ fun o2 n2 m1 m2 m3=> ?_)
 ·exact hI.aA af af af rfl
 refine ow ?_
 exact XO
theorem xu{σ:Type}(l:List Tm)(hl:l.length<=9223372036854775807)(g:Nat)(aQ:List V)(base:Nat)(H:σ->Nat->ab)(step:σ->Tm->σ×Bool)(hc:∀r∈V.aG aQ,r<base)(ok:σ->Prop)(aW:∀x∈l,∀s,ok s->(step s x).2=true->ok (step s x).1)
 (h:∀x∈l,∀s,ok s->iO Tryz.prog g (.d x.d::aQ) base (H s) (H (step s x).1) (.d (.bool (step s x).2))) (s:σ) (iu:ok s):
 iO Tryz.prog 133 [.d (.sl (l.map Tm.d)), .func (.func g) [] aQ] base (H s) (H (aq step s l).1) (.d (.bool (aq step s l).2)):=by
 intro o nx hI K X hK
 have hle:=hI.le
 have iq:∀r∈V.aG aQ,r<nx:=fun r hr=>Nat.lt_of_lt_of_le (hc r hr) hI.le
 refine cX.aF mix Q2 aL ?_
 rw[UE]
 refine ow ?_
 refine bg (sr l hl 161 [.ptr nx 0] (nx+1) (fun s=>ext base (H s) (aA o nx (.row [.func (.func g) [] aQ]))) step nO ok aW (fun x hx s hs=>ab0 (h x hx s hs) hle af (ad _ _ _) hc) s iu _ _ ?_ _ _ fun o2 n2 m1 m2 m3=> ?_)
 ·have hr:(ab.row [V.func (.func g) [] aQ]).refs.all (fun r=>decide (r<nx+4))=true:=by
   rw[List.all_eq_true]
   intro r hr
   have h1:r∈V.aG aQ:=by simpa[ab.refs,V.aG,V.refs]using hr
   have:=iq r h1
   simp;omega
  exact Sc
 refine ow ?_
 refine hK _ _ af ⟨(m2.mono af).bA,by have:=m2.le;omega,fun id au=> ?_⟩ fun id i1 i2=> ?_
 ·exact Gb
 ·exact R6
mutual
def fu:Tm->List Tm
 | .mk op n kids=> .mk op n kids::Oa kids
def Oa:List Tm->List Tm
 |[]=>[]
 |k::l=>fu k++Oa l
end
theorem xw:∀l:List Tm,Oa l=l.flatMap fu
 |[]=>rfl
 |k::l=>by rw[Oa,xw l];rfl
theorem iJ(t:Tm):fu t=t::t.kids.flatMap fu:=by cases t;rw[fu,xw];rfl
section
variable {σ:Type}(base nd:Nat)(H:σ->Nat->ab)(step:σ->Tm->σ×Bool)(ok:σ->Prop)
theorem Lb:∀t:Tm,t.fits->(∀x∈fu t,∀s,ok s->(step s x).2=true->ok (step s x).1)->(∀x∈fu t,∀s,ok s->Xb Tryz.prog nd [.d x.d] base (H s) (H (step s x).1) (.d (.bool (step s x).2)))->nd<base->
 ∀ (c:Nat) (o0:Nat->ab) (yb vb:Nat),base<=c->base<=yb->yb<c->base<=vb->vb<c->o0 yb= .row [.ja nd]->o0 vb= .row [.func (.func 178) [] [.ptr yb 0, .ptr vb 0]]->
 ∀s,ok s->iO Tryz.prog 178 [.d t.d, .ptr yb 0, .ptr vb 0] c (ext base (H s) o0) (ext base (H (aq step s (fu t)).1) o0) (.d (.bool (aq step s (fu t)).2)):=by
 refine Tm.dN fun t ih hf aW hR uU c o0 yb vb Mc Mm hy Mn hv oy ov s iu=> ?_
 have kC:=(Tm.bu _).1 hf
 intro o nx hI K X hK
 have hle:=hI.le
 have NZ:o yb= .row [.ja nd]:=by rw[hI.eq yb hy];unfold ext;rw[if_neg (by omega),oy]
 have N0:o vb= .row [.func (.func 178) [] [.ptr yb 0, .ptr vb 0]]:=by rw[hI.eq vb hv];unfold ext;rw[if_neg (by omega),ov]
 have y1:yb≠nx:=af
 have y2:∀k,yb≠nx+k:=fun k=>af
 have y3:vb≠nx:=af
 have y4:∀k,vb≠nx+k:=fun k=>af
 refine cX.aF mix Rp aL ?_
 rw[UZ]
 simp+contextual only[go_sem,NZ,N0,y1,y2,y3,y4,Nat.add_assoc,Nat.left_eq_add,Nat.add_eq_left,Nat.add_left_cancel_iff]
 have sD:=iJ t
 have jT:∀k∈t.kids,∀x∈fu k,x∈fu t:=fun k hk x hx=>by
  exact O5
 have hb:∀id,id<base->o id=H s id:=fun id au=>by rw[hI.eq id (by omega)];unfold ext;rw[if_pos au]
 have hIb:cH base (H s) o nx:=⟨hI.bA,af,hb⟩
 refine nb (hR t Ad s iu _ _ (hIb.aA (i:=nx) (m:=nx+4) af af af rfl) _ _ fun o2 n2 m1 m2 m3=> ?_)
 have k0:o2 nx= .row t.row:=by rw[m3 nx (by omega) (by omega),ad]
 have hold:∀id,base<=id->id<nx->o2 id=o id:=fun id h1 h2=>by rw[m3 id h1 (by omega),ag _ _ _ _ (by omega)]
 have CN:∀id,base<=id->id<c->o id=o0 id:=fun id h1 h2=>by rw[hI.eq id h2];unfold ext;rw[if_neg (by omega)]
 cases BO:(step s t).2 with
 |false=>
  refine jR BO ?_
  have xl:aq step s (fu t)=((step s t).1,false):=by rw[sD,aq,if_neg (by rw[BO];exact Bool.false_ne_true)]
  rw[xl]at hK
  refine hK _ _ af ⟨m2.bA.mono af,af,fun id au=> ?_⟩ (fun id h1 h2=>hold id af h2)
  unfold ext
  split
  ·exact m2.eq id o7
  ·exact Iv
 |true=>
  have xl:aq step s (fu t)=aq (fun s k=>aq step s (fu k)) (step s t).1 t.kids:=by rw[sD,aq,if_pos BO,uT]
  have q0:o2 yb= .row [.ja nd]:=by rw[hold yb Mm (by omega),NZ]
  have q1:o2 vb= .row [.func (.func 178) [] [.ptr yb 0, .ptr vb 0]]:=by rw[hold vb Mn (by omega),N0]
  simp+contextual only[go_sem,BO,k0,q1]
  have m0:=m2.le
  refine bg (xu t.kids kC.1 178 [.ptr yb 0, .ptr vb 0] n2 (fun s=>ext base (H s) o2) (fun s k=>aq step s (fu k)) ?_ ok ?_ ?_ (step s t).1 (aW t Ad s iu BO) _ _ ?_ _ _ ?_)
  ·simp[V.aG,V.refs];omega
  ·exact OP
  ·intro k hk s' jU
   exact ih k hk (kC.2 k hk) (fun x hx=>aW x (jT k hk x hx)) (fun x hx=>hR x (jT k hk x hx)) uU n2 o2 yb vb af Mm af Mn af q0 q1 s' jU
  ·exact(m2.mono af).ext af af
  ·intro o5 n5 p1 p2 p3
   refine cq ?_
   rw[<- xl]
   refine hK _ _ af ⟨p2.bA.mono af,af,fun id au=> ?_⟩ (fun id h1 h2=> ?_)
   ·rw[p2.eq id (by omega), <- xl]
    unfold ext
    split
    ·rfl
    ·exact Iv
   ·exact PA
theorem Hv(t:Tm)(hf:t.fits)(aW:∀x∈fu t,∀s,ok s->(step s x).2=true->ok (step s x).1)(hR:∀x∈fu t,∀s,ok s->Xb Tryz.prog nd [.d x.d] base (H s) (H (step s x).1) (.d (.bool (step s x).2)))(uU:nd<base)(tb:Nat)(CQ:tb<base)(s:σ)(iu:ok s)(bG:H s tb= .row t.row):
 iO Tryz.prog 177 [.ja nd, .ptr tb 0] base (H s) (H (aq step s (fu t)).1) (.bU []):=by
 intro o nx hI K X hK
 have hle:=hI.le
 have ot:o tb= .row t.row:=by rw[hI.eq tb CQ,bG]
 have y1:tb≠nx:=af
 have y2:∀k,tb≠nx+k:=fun k=>af
 refine cX.aF mix Ro aL ?_
 rw[UY]
 refine R0 ot y1 y2 ?_
 have hI1:cH base (H s) (aA (aA (aA o nx (.row [.ja nd])) (nx+1) (.row [.d .b7])) (nx+1) (.row [.func (.func 178) [] [.ptr nx 0, .ptr (nx+1) 0]])) (nx+6):=by
  refine((hI.aA (i:=nx) (m:=nx+6) af af af ?_).aA (i:=nx+1) (m:=nx+6) af af af rfl).aA (i:=nx+1) af af af ?_
  ·exact IK
  ·exact mm
 refine bg (Lb base nd H step ok t hf aW hR uU (nx+6) _ nx (nx+1) af hle af af af ?_ ?_ s iu _ _ (hI1.ext (Nat.le_refl _) af) _ _ ?_)
 ·exact fi
 ·exact fi
 intro o2 n2 m1 m2 m3
 refine cq ?_
 refine hK _ _ af ⟨m2.bA,af,fun id au=> ?_⟩ (fun id h1 h2=> ?_)
 ·exact Gb
 ·exact SK
end
theorem xy(t:Tm)(o:Nat->ab)(nx:Nat)(K X:V->(Nat->ab)->Nat->Prop)(h:K (.func (.func 177) [] [.ptr nx 0]) (aA o nx (.row t.row)) (nx+4)):cX Tryz.prog 162 [.d t.d] o nx K X:=by
 refine cX.aF mix Re aL ?_
 rw[UP]
 refine cq ?_
 exact h
def zf{σ:Type}(J:σ->Option jP)(step:σ->Tm->σ)(s:σ)(x:Tm):σ×Bool:=(step s x,(J (step s x)).isNone)
theorem qe{σ:Type}(t:Tm)(hf:t.fits){n bq:Nat}{gq:Operand}{ps:List Nat}{jr fj:IC}{Q:fm->S->Prop}{e:Nat->V}{o:Nat->ab}{nx tb:Nat}(env:List V)(he:l7 e env 0)
 (nD:ps.all (fun t=>decide (t<n))=true) (hl:ps.length=1) (hg:Good o nx) (hrefs:∀r∈V.aG env,r<nx) (ht:o tb= .row t.row)
 (G:σ->Nat->ab) (J:σ->Option jP) (step:σ->Tm->σ) (ok:σ->Prop) (s0:σ) (iu:ok s0) (V7:J s0=none) (h0:∀id,id<nx->o id=G s0 id) (aW:∀x∈fu t,∀s,ok s->J s=none->J (step s x)=none->ok (step s x))
 (oM:∀L,gV Tryz.prog n env ps jr fj L->(∀st pd m,nx<=m->(L st pd).refs.all (fun r=>decide (r<m))=true)->∀x∈fu t,∀s,ok s->J s=none->∀o3 n3,cH nx (G s) o3 n3->nx<n3->o3 nx=L .ready none->∀K X,
  (∀e' o' n' st pd,n3<=n'->cH nx (G (step s x)) o' n'->o' nx=L st pd->(∀id,nx<id->id<n3->o' id=o3 id)->jH nx K X (K2 (J (step s x))) ⟨e',o',n'⟩)->
  lQ Tryz.prog n n3 true jr (oR Tryz.prog n n3 nx fj K X) ⟨mW (aS env) ps [.d x.d],o3,n3⟩)
 (jA:∀o' n',cH nx (G (aq (zf J step) s0 (fu t)).1) o' n'->oL Q (J (aq (zf J step) s0 (fu t)).1) ⟨e,o',n'⟩):
 yI Tryz.prog n bq false gq ps jr fj Q ⟨e,o,nx⟩ (.func (.func 177) [] [.ptr tb 0]):=by
 refine DL env he (fun L hL=> ?_)
 have CQ:tb<nx:=hg.lt I3
 let H:σ->Nat->ab:=fun s id=>if id<nx then G s id else if id=nx then(match J s with|none=>L .ready none|some j=>L .done (some j))else .no
 have Gd:∀s id,id<nx->H s id=G s id:=fun s id h=>if_pos h
 have Mb:∀s,J s=none->H s nx=L .ready none:=fun s h=>by show(if nx<nx then _ else _)=_;rw[if_neg (by omega),if_pos rfl,h]
 have Sg:∀s j,J s=some j->H s nx=L .done (some j):=fun s j h=>by show(if nx<nx then _ else _)=_;rw[if_neg (by omega),if_pos rfl,h]
 have wg:∀st pd m,nx<=m->(L st pd).refs.all (fun r=>decide (r<m))=true:=fun st pd m hm=>by
  exact SG
 refine Hv (nx+1) nx H (zf J step) (fun s=>ok s/\J s=none) t hf (fun x hx s h1 h2=> ?_) (fun x hx s h1=> ?_) af tb af s0 ⟨iu,V7⟩ I1 _ _ ⟨?_,Nat.le_refl _,fun id au=> ?_⟩ _ _ ?_
 ·have hj:J (step s x)=none:=by simpa[zf]using h2
  exact⟨aW x hx s h1.1 h1.2 hj,hj⟩
 ·intro o3 n3 hI K X hK
  have hle:=hI.le
  have Ic:o3 nx=L .ready none:=by rw[hI.eq nx (by omega),Mb s h1.2]
  refine uR hL mix Ic af nD (by simp[hl]) ?_
  refine oM L hL wg x hx s h1.1 h1.2 o3 n3 ⟨hI.bA,af,fun id au=>by rw[hI.eq id (by omega),Gd _ _ au]⟩ af Ic K X (fun e' o' n' st pd k1 k2 k3 k4=> ?_)
  have key:∀st' pd' b,(J (step s x)).isNone=b->H (step s x) nx=L st' pd'->K (.d (.bool b)) (aA o' nx (L st' pd')) n':=fun st' pd' b hb hh=>by
   subst hb
   refine hK _ _ k1 ⟨k2.bA.aA af (wg _ _ _ af),af,fun id au=> ?_⟩ (fun id g1 g2=> ?_)
   ·by_cases tz:id=nx
    ·exact IL
    ·rw[ag _ _ _ _ tz]
     show o' id=H (step s x) id
     exact ID
   ·exact Sn
  cases hj:J (step s x)with
  |none=>exact Sj
  |some j=>
   cases j with
   |ret=>exact Sh
   |exit j=>exact Sf
 ·exact Si
 ·by_cases tz:id=nx
  ·exact IV
  ·exact Se
 ·intro o' n' k1 k2 k3
  have hle:=k2.le
  generalize hsf:(aq (zf J step) s0 (fu t)).1=sf at*
  have kk:∀st pd,cH nx (G sf) (aA o' nx (L st pd)) n':=fun st pd=>⟨k2.bA.aA af (wg _ _ _ af),af,fun id au=>by rw[ag _ _ _ _ (by omega),k2.eq id (by omega),Gd _ _ au]⟩
  cases hj:J sf with
  |none=>
   refine⟨.ready,none,by rw[k2.eq nx (by omega),Mb _ hj],(fun h=>by cases h), ?_⟩
   have:=jA _ _ (kk .exhausted none)
   rwa [hj]at this
  |some j=>
   refine⟨.done,some j,by rw[k2.eq nx (by omega),Sg _ _ hj],(fun h=>by cases h), ?_⟩
   have:=jA _ _ (kk .exhausted (some j))
   rwa [hj]at this
end
section
def Hw(l:List (D×D)):List (Int×D):=l.map fun p=>((match p.1 with| .int _ n=>n|_=>0),p.2)
def Vq(l:List (D×D)):Bool:=l.all fun p=>match p.1 with| .int .i64 _=>true|_=>false
@[go_sem] theorem acw (m:List (Int×D)):Hw (enc (D.int .i64) m)=m:=by
  unfold Hw enc;rw[List.map_map];simp[Function.comp_def]
@[go_sem] theorem acx (m:List (Int×D)):Vq (enc (D.int .i64) m)=true:=by simp[Vq,enc]
@[go_sem] theorem acy:Vq []=true:=rfl
@[go_sem] theorem acz:Hw []=[]:=rfl
theorem zg:∀ {l:List (D×D)},Vq l=true->enc (D.int .i64) (Hw l)=l
 |[],_=>rfl
 |(k,x)::l,h=>by
  simp only[Vq,List.all_cons,Bool.and_eq_true]at h
  have ih:=zg (l:=l) h.2
  obtain⟨n,h1⟩:∃n,k= .int .i64 n:=by
   have h1:=h.1
   split at h1
   ·exact⟨_,rfl⟩
   ·cases h1
  subst h1
  simp only[enc,Hw,List.map_cons]at ih|-
  rw[ih]
def ng(l:List Int):List (Int×D):=l.map fun n=>(n, .bool true)
@[go_sem] theorem ab1:ng []=[]:=rfl
def zh(l:List Int)(n:Int):List Int:=if l.contains n=true then l else l++[n]
theorem Lc{l:List Int}{n k:Int}:k∈zh l n↔k∈l\/k=n:=by
 unfold zh
 split
 ·rename_i h
  have:n∈l:=by simpa using h
  constructor
  ·exact .inl
  ·rintro(h|rfl)<;>assumption
 ·simp
theorem qf:∀ (l:List Int) (n:Int) (i:Nat),fF n (ng l) i=(l.findIdx? (· ==n)).map fun j=>(i+j,D.bool true)
 |[],n,i=>rfl
 |x::l,n,i=>by
  have ih:=qf l n (i+1)
  simp only[ng,List.map_cons,fF,List.findIdx?_cons]at ih|-
  by_cases h:n=x
  ·subst h;simp
  ·have h2: ¬x=n:=fun e=>h e.symm
   simp only[beq_iff_eq,h,h2,if_false,ih,Option.map_map,Function.comp_def]
   congr 1;funext j;congr 1;omega
@[go_sem] theorem Xe (l:List Int) (n:Int):vZ n (.bool true) (ng l)=ng (zh l n):=by
  unfold vZ zh
  rw[qf]
  cases h:l.findIdx? (· ==n)with
  |none=>
   have:l.contains n=false:=by
    rw[List.findIdx?_eq_none_iff]at h
    rw[Bool.eq_false_iff];intro hc
    have:=h n (by simpa using hc)
    simp at this
   simp only[Option.map_none,this,Bool.false_eq_true,if_false]
   simp[ng]
  |some j=>
   rw[List.findIdx?_eq_some_iff_getElem]at h
   obtain⟨hj,he,_⟩:=h
   have e:l[j]=n:=by simpa using he
   have:l.contains n=true:=by rw[List.contains_iff_mem, <- e];exact List.getElem_mem hj
   simp only[Option.map_some,this,if_true,Nat.zero_add]
   apply List.ext_getElem?
   intro k
   rw[List.getElem?_set]
   split
   ·rename_i hk;subst hk;simp[ng,hj,e]
   ·rfl
def ab2(l:List Int)(n:Int):List Int:=match l.findIdx? (· ==n)with|some j=>l.eraseIdx j|none=>l
theorem lV{α β:Type}(f:α->β):∀ (l:List α) (j:Nat),(l.map f).eraseIdx j=(l.eraseIdx j).map f
 |[],_=>rfl
 |_::_,0=>rfl
 |x::l,j+1=>by simp[lV f l j]
@[go_sem] theorem Xf (l:List Int) (n:Int):abY n (ng l)=ng (ab2 l n):=by
  unfold abY ab2
  rw[qf]
  cases h:l.findIdx? (· ==n)with
  |none=>simp
  |some j=>simp only[Option.map_some,Nat.zero_add];exact lV _ _ _
section
variable {P:Program}{o:Nat->ab}{t:TypeId}{id:Nat}{n:Int}{v:V}
def ru(P:Program)(kt:TypeId):Bool:=match bR P kt with|some .int=>true|_=>false
theorem xz{kt:TypeId}(h:ru P kt=true):bR P kt=some .int:=by
 unfold ru at h;split at h
 ·assumption
 ·cases h
@[go_sem] theorem Xg {kt:TypeId} (h:bR P kt=some .int):ru P kt=true:=by unfold ru;rw[h]
def Vr(P:Program)(o:Nat->ab)(t:TypeId)(id:Nat)(n:Int)(v:V):Option fA:=
 match qT P t,dE o v,o id with
 |some (kt,_),some vd, .map Ez EA l=>match ru P kt&&Vq l&&v.ids.all (· !=id)with
  |true=>some (.bU [],cg o v.ids++[(id, .map Ez EA (enc (D.int .i64) (vZ n vd (Hw l))))],id::v.ids)
  |false=>qc P o t (.mp id) (.d (.int .i64 n)) v
 |_,_,_=>qc P o t (.mp id) (.d (.int .i64 n)) v
@[go_sem high] theorem Vs:fl P o t (.mp id) (.d (.int .i64 n)) v=Vr P o t id n v:=by
  unfold Vr
  split
  ·rename_i kt vt vd Ez EA l h1 h2 h3
   split
   ·rename_i hc
    simp only[Bool.and_eq_true]at hc
    obtain⟨⟨c1,c2⟩,c3⟩:=hc
    have c4:=xz c1
    have c5:dE o (.d (.int .i64 n))=some (.int .i64 n):=rfl
    have hl:=zg c2
    unfold fl
    simp only[h1,c5,h2,od,h3]
    rw[if_pos ⟨rfl,FC c4 n,rfl,c3⟩]
    conv=>lhs;rw[<- hl]
    rw[BQ c4]
    unfold vZ
    cases fF n (Hw l) 0 with
    |none=>simp[v7,enc]
    |some p=>simp[v7,FE,D.same,n9]
   ·exact xp ..
  ·exact xp ..
attribute [go_sem] Vr
def Xh(l:List (D×D)):Bool:=l.all fun p=>match p.2 with| .bool true=>true|_=>false
@[go_sem] theorem acA (l:List Int):Xh (enc (D.int .i64) (ng l))=true:=by simp[Xh,enc,ng]
@[go_sem] theorem acB:Xh []=true:=rfl
theorem FJ:∀ {m:List (Int×D)},Xh (enc (D.int .i64) m)=true->ng (m.map (·.1))=m
 |[],_=>rfl
 |(k,x)::m,h=>by
  simp only[Xh,enc,List.map_cons,List.all_cons,Bool.and_eq_true]at h
  have ih:=FJ (m:=m) h.2
  have h1:x= .bool true:=by
   have h1:=h.1
   split at h1
   ·rfl
   ·cases h1
  simp only[ng,List.map_cons]at ih|-
  rw[ih,h1]
def Ld(P:Program)(o:Nat->ab)(t:TypeId)(m:V)(n:Int)(ok:Bool):Option fA:=
 match qT P t with
 |some (kt,vt)=>match zeroV P vt with
  |some (.d (.bool false))=>match pj o m with
   |some (rd,l)=>match ru P kt&&Vq l&&Xh l with
    |true=>some (match ok with|true=> .bU [.d (.bool (((Hw l).map (·.1)).contains n)), .d (.bool (((Hw l).map (·.1)).contains n))]|false=> .d (.bool (((Hw l).map (·.1)).contains n)),[],rd)
    |false=>uW P o t m (.d (.int .i64 n)) ok
   |none=>uW P o t m (.d (.int .i64 n)) ok
  |_=>uW P o t m (.d (.int .i64 n)) ok
 |none=>uW P o t m (.d (.int .i64 n)) ok
@[go_sem] theorem Le (l:List Int):((ng l).map (·.1))=l:=by simp[ng,Function.comp_def]
@[go_sem high] theorem ab3 {m:V} {ok:Bool}:hU P o t m (.d (.int .i64 n)) ok=Ld P o t m n ok:=by
  unfold Ld
  split
  ·rename_i kt vt h1
   split
   ·rename_i hz
    split
    ·rename_i rd l h
     split
     ·rename_i hc
      simp only[Bool.and_eq_true]at hc
      have c4:=xz hc.1.1
      have hl:=zg hc.1.2
      have hs:ng ((Hw l).map (·.1))=Hw l:=FJ (by rw[hl];exact hc.2)
      have c5:dE o (.d (.int .i64 n))=some (.int .i64 n):=rfl
      unfold hU
      simp only[h1,c5,h]
      rw[if_pos ⟨rfl,FC c4 n⟩]
      conv=>lhs;rw[<- hl]
      rw[BQ c4, <- hs,qf,Le]
      generalize (Hw l).map (·.1)=l'
      cases hf:l'.findIdx? (· ==n)with
      |none=>
       have:l'.contains n=false:=by
        rw[List.findIdx?_eq_none_iff]at hf
        rw[Bool.eq_false_iff];intro hc
        have:=hf n (by simpa using hc)
        simp at this
       cases ok<;>simp only[Option.map_none,v7,hz,this,if_true,Bool.false_eq_true,if_false]
      |some j=>
       rw[List.findIdx?_eq_some_iff_getElem]at hf
       obtain⟨hj,he,_⟩:=hf
       have e:l'[j]=n:=by simpa using he
       have:l'.contains n=true:=by rw[List.contains_iff_mem, <- e];exact List.getElem_mem hj
       cases ok<;>simp only[Option.map_some,v7,this,if_true,Bool.false_eq_true,if_false]
     ·exact nG ..
    ·exact nG ..
   ·exact nG ..
  ·exact nG ..
attribute [go_sem] Ld
end
attribute [go_sem] List.head?_cons
end
theorem Vt{o:Nat->ab}{nx:Nat}{Δ:List (Nat×ab)}(h:∀x∈Δ,x.1<nx):(hp o nx).put Δ=hp (put o Δ) nx:=by
 simp only[Hp.put,hp]
 congr 1
 funext j
 simp only[List.mem_map,eq_iff_iff]
 exact⟨fun h2=>h2.elim (fun h=>h) fun⟨x,hx,e⟩=>e ▸ h x hx, .inl⟩
theorem Lf(a b:List Tm)(ha:a.length<=9223372036854775807)(hb:b.length<=9223372036854775807)(g:Nat)(h:∀x∈a,∀y∈b,aT Tryz.prog g [x.d,y.d] (.ret [.bool (gr x y)]))(o:Nat->ab)(nx:Nat)(hg:Good o nx)(K X:V->(Nat->ab)->Nat->Prop)
 (hK:∀o' nx',nx<=nx'->Good o' nx'->(∀j,j<nx->o' j=o j)->K (.d (.bool (a.length==b.length&&iN a b))) o' nx'):
 cX Tryz.prog 149 [.d (.sl (a.map Tm.d)), .d (.sl (b.map Tm.d)), .func (.func g) [] []] o nx K X:=by
 refine cX.aF mix Q7 aL ?_
 rw[UJ]
 refine ow ?_
 refine ai (fun h1=> ?_) (fun h1=> ?_)
 ·refine aU ?_
  have:(a.length==b.length&&iN a b)=false:=by
   have:(a.length==b.length)=false:=by
    rw[Bool.eq_false_iff];intro h
    simp at h;simp[h]at h1
   rw[this];rfl
  rw[this]at hK
  exact hK _ _ af (hg.mono af) (fun _ _=>rfl)
 ·have hl:a.length=b.length:=by simp at h1;omega
  have M3:(a.length==b.length)=true:=by simpa using hl
  rw[M3,Bool.true_and]at hK
  refine ow ?_
  refine aw (fun k:Nat=>⟨aS [.d (.sl (a.map Tm.d)), .d (.sl (b.map Tm.d)), .func (.func g) [] [], .aa, .aa, .aa, .aa, .aa, .aa, .aa, .aa, .aa, .aa, .aa, .aa, .d (.sl (a.map Tm.d)), .d (.i a.length), .d (.i k)],o,nx⟩)
   (fun k=>k<=a.length/\∀i,i<k->∀x y,a[i]? =some x->b[i]? =some y->gr x y=true) (fun k=>a.length - k) 0 ⟨Nat.zero_le _,fun i h=>af⟩ (aZ.aR _ (Nat.le_refl _) af hg (fun _ _=>rfl) ?_) (fun k hk=> ?_)
  ·exact bO
  refine aU ?_
  refine ai (fun h2=> ?_) (fun h2=> ?_)
  ·simp at h2
   obtain⟨x,hx⟩:=az h2
   obtain⟨y,hy⟩:=az (l:=b) (k:=k) af
   refine Xq hx hy ?_
   refine aC (h x (List.mem_of_getElem? hx) y (List.mem_of_getElem? hy)) rfl ?_
   refine aU ?_
   refine ai (fun h3=> ?_) (fun h3=> ?_)
   ·refine aU ?_
    simp at h3
    have:iN a b=false:=by
     rw[Bool.eq_false_iff];intro h4
     have:=(lh _ _ hl).1 h4 k x y hx hy
     rw[h3]at this;cases this
    rw[this]at hK
    refine hK _ _ af ?_ (fun j hj=>by(repeat(first|rfl|rw[ad]|rw[ag _ _ _ _ (by omega)])))
    exact eH
   ·refine aU ?_
    simp at h3
    refine aj (k+1) ⟨h2,fun i hi u v hu hv=> ?_⟩ af (aZ.aR _ (Nat.le_refl _) af hg (fun j hj=>by(repeat(first|rfl|rw[ad]|rw[ag _ _ _ _ (by omega)]))) ?_)
    ·by_cases e:i=k
     ·subst e
      rw[hx]at hu;rw[hy]at hv
      exact O4
     ·exact hk.2 i af u v hu hv
    ·exact bO
  ·refine aU ?_
   simp at h2
   have:iN a b=true:=(lh _ _ hl).2 fun i x y hx hy=>hk.2 i (by have:=(List.getElem?_eq_some_iff.1 hx).1;omega) x y hx hy
   rw[this]at hK
   exact hK _ _ af (hg.mono af) (fun _ _=>rfl)
def lk:List (Int×Int)->Int->Option Int
 |[],_=>none
 |p::m,v=>if p.1=v then some p.2 else lk m v
abbrev sS(m:List (Int×Int)):Prop:=(m.map (·.1)).Nodup
theorem FK{m:List (Int×Int)}{v k:Int}(hk:sS m):lk m v=some k↔(v,k)∈m:=by
 induction m with
 |nil=>simp[lk]
 |cons p m ih=>
  rw[sS,List.map_cons,List.nodup_cons]at hk
  simp only[lk,List.mem_cons]
  by_cases h:p.1=v
  ·rw[if_pos h]
   constructor
   ·intro e;injection e with e;exact .inl (by rw[<- h, <- e])
   ·rintro(e|e)
    ·rw[<- e]
    ·exact absurd (h ▸ List.mem_map.2 ⟨_,e,rfl⟩) hk.1
  ·rw[if_neg h,ih hk.2]
   constructor
   ·exact .inr
   ·rintro(e|e)
    ·exact absurd (by rw[<- e]) h
    ·exact e
def ints(m:List (Int×Int)):List (Int×D):=m.map fun p=>(p.1,D.i p.2)
theorem rv:∀ (m:List (Int×Int)) (v:Int) (i:Nat),(match fF v (ints m) i with|some (_,x)=>some x|none=>none)=(lk m v).map D.i
 |[],v,i=>rfl
 |p::m,v,i=>by
  have ih:=rv m v (i+1)
  simp only[ints,List.map_cons,fF,lk]at ih|-
  by_cases h:v=p.1
  ·subst h;simp
  ·have h2: ¬p.1=v:=fun e=>h e.symm
   simp only[beq_iff_eq,h,h2,if_false]
   exact ih
theorem lW{m:List (Int×Int)}{v k:Int}(h:lk m v=some k):∃j,fF v (ints m) 0=some (j,D.i k):=by
 have:=rv m v 0
 rw[h]at this
 cases ha:fF v (ints m) 0 with
 |none=>rw[ha]at this;cases this
 |some p=>obtain⟨j,x⟩:=p;rw[ha]at this;simp at this;exact⟨j,by rw[this]⟩
theorem lX{m:List (Int×Int)}{v:Int}(h:lk m v=none):fF v (ints m) 0=none:=by
 have:=rv m v 0
 rw[h]at this
 cases ha:fF v (ints m) 0 with
 |none=>rfl
 |some p=>obtain⟨j,x⟩:=p;rw[ha]at this;cases this
def fU(m:List (Int×Int))(v:Int):Int:=(lk m v).getD 0
def kK:List (Int×Int)->Int->Int->List (Int×Int)
 |[],v,w=>[(v,w)]
 |p::m,v,w=>if p.1=v then(v,w)::m else p::kK m v w
theorem BU(v:Int):∀ (m:List (Int×D)) (i:Nat),fF v m (i+1)=(fF v m i).map fun p=>(p.1+1,p.2)
 |[],_=>rfl
 |p::m,i=>by
  have ih:=BU v m (i+1)
  simp only[fF]
  by_cases h:(v==p.1)=true
  ·simp[h]
  ·simp only[h,if_false];exact ih
theorem Hx{v:Int}{p:Int×D}{m:List (Int×D)}{x:D}(h: ¬v=p.1):vZ v x (p::m)=p::vZ v x m:=by
 have hb: ¬ ((v==p.1)=true):=by simpa using h
 unfold vZ
 simp only[fF,hb,if_false]
 rw[BU]
 cases fF v m 0 with
 |none=>rfl
 |some q=>obtain⟨i,y⟩:=q;rfl
theorem lj:∀ (m:List (Int×Int)) (v w:Int),vZ v (D.i w) (ints m)=ints (kK m v w)
 |[],v,w=>by simp[vZ,fF,ints,kK]
 |p::m,v,w=>by
  have ih:=lj m v w
  by_cases h:p.1=v
  ·subst h
   simp[vZ,fF,ints,kK]
  ·have h': ¬v=p.1:=fun e=>h e.symm
   have e2:ints (p::m)=(p.1,D.i p.2)::ints m:=rfl
   rw[e2,Hx h',ih]
   simp[kK,h,ints]
def sT(m:List (Int×Int))(v:Int):List (Int×Int):=kK m v (IntKind.i64.wrap (fU m v+1))
@[reducible] def qg (m:List (Int×Int)):ab:= .map 3 3 (enc (D.int .i64) (ints m))
def dx(op:Int)(m:List (Int×Int))(x:Tm):List (Int×Int):=if x.op=op then sT m x.n else m
def ab4(R:List (Int×Int)->Prop)(o:Nat->ab)(nx:Nat)(K:V->(Nat->ab)->Nat->Prop):Prop:=
 ∀o' nx' id m,nx<=id->id<nx'->Good o' nx'->(∀j,j<nx->o' j=o j)->o' id=qg m->R m->K (.mp id) o' nx'
theorem Vu(t:Tm)(ht:t.fits)(o:Nat->ab)(nx:Nat)(hg:Good o nx)(K X:V->(Nat->ab)->Nat->Prop)
 (hK:ab4 (fun m=>m=(fu t).foldl (dx 8) []) o nx K):cX Tryz.prog 136 [.d t.d] o nx K X:=by
 refine cX.aF mix Q5 aL ?_
 rw[UH]
 refine ow ?_
 refine fP (xy t _ _ _ _ ?_)
 refine ow ?_
 have hG:∀j,j<nx+10->aA (aA (aA (aA (aA o nx (.row [.d (.i t.op), .d (.i t.n), .d (.sl (t.kids.map Tm.d))])) (nx+2) (.map 3 3 [])) (nx+3) (.row [.d .ig])) (nx+3) (.row [.mp (nx+2)])) (nx+6) (.row t.row) j=aA (aA (aA (aA o nx (.row t.row)) (nx+3) (.row [.mp (nx+2)])) (nx+6) (.row t.row)) (nx+2) (qg []) j:=by
  intro j _
  exact Mv
 refine qe (σ:=List (Int×Int)) t ht [.aa, .ptr nx 0, .aa, .ptr (nx+3) 0] ?_ bF rfl eH nO (ad _ _ _)
  (fun s=>aA (aA (aA (aA o nx (.row t.row)) (nx+3) (.row [.mp (nx+2)])) (nx+6) (.row t.row)) (nx+2) (qg s)) (fun _=>none) (dx 8) (fun _=>True) [] trivial rfl hG (fun _ _ _ _ _ _=>trivial) ?_ ?_
 ·exact F9
 ·intro L hL wg x hx s' _ _ o3 n3 hI hn Ic K' X' cz
  simp only[mW]
  have hg:=hI.bA
  have hle:=hI.le
  have q1:o3 (nx+3)= .row [.mp (nx+2)]:=by rw[hI.eq (nx+3) (by omega)];(repeat(first|rfl|rw[ad]|rw[ag _ _ _ _ (by omega)]))
  have q2:o3 (nx+2)=qg s':=by rw[hI.eq (nx+2) (by omega)];(repeat(first|rfl|rw[ad]|rw[ag _ _ _ _ (by omega)]))
  refine aU ?_
  refine lg hL (pd:=none) ?_ ?_
  ·(repeat(first|rfl|rw[ad]|rw[ag _ _ _ _ (by omega)]))
   exact Ic
  refine qF q1 q2 ?_
  have z1:nx≠n3:=af
  have z2:∀k,nx≠n3+k:=fun k=>af
  have z3:nx+2≠n3:=af
  have z4:nx+3≠n3:=af
  have same:∀ (o':Nat->ab) (n':Nat) (l:List (Int×Int)),Good o' n'->n3<=n'->(∀j,j<nx+10->o' j=aA o3 (nx+2) (qg l) j)->cH (nx+10) (aA (aA (aA (aA o nx (.row t.row)) (nx+3) (.row [.mp (nx+2)])) (nx+6) (.row t.row)) (nx+2) (qg l)) o' n':=fun o' n' l k1 k2 k3=>⟨k1,af,fun j hj=>by
   rw[k3 j hj]
   by_cases e:j=nx+2
   ·subst e;rw[ad,ad]
   ·rw[ag _ _ _ _ e,ag _ _ _ _ e,hI.eq j hj,ag _ _ _ _ e]⟩
  refine ai (fun h3=> ?_) (fun h3=> ?_)
  ·have mL:x.op=8:=by simpa using h3
   have hp:dx 8 s' x=sT s' x.n:=by unfold dx;rw[if_pos mL]
   rw[hp]at cz
   cases DW:lk s' x.n with
   |none=>
    have hc:sT s' x.n=kK s' x.n (0+1):=by unfold sT fU;rw[DW];rfl
    rw[hc]at cz
    simp+contextual (disch:=first|omega|simp only[go_sem,false_implies]) only[go_sem,wrap64,if_pos,q1,q2,z1,z2,z3,z4,lX DW,lj,Nat.add_assoc,Nat.left_eq_add,Nat.add_eq_left,Nat.add_left_cancel_iff]
    refine cz _ _ _ .busy none af (same _ _ _ eH af fun j hj=> ?_) fi (fun j h3 h4=>by(repeat(first|rfl|rw[ad]|rw[ag _ _ _ _ (by omega)])))
    by_cases e:j=nx+2
    ·exact zW
    ·exact fi
   |some c=>
    obtain⟨k,hk⟩:=lW DW
    have hc:sT s' x.n=kK s' x.n (IntKind.i64.wrap (c+1)):=by unfold sT fU;rw[DW];rfl
    rw[hc]at cz
    simp+contextual (disch:=first|omega|simp only[go_sem,false_implies]) only[go_sem,wrap64,if_pos,q1,q2,z1,z2,z3,z4,hk,lj,Nat.add_assoc,Nat.left_eq_add,Nat.add_eq_left,Nat.add_left_cancel_iff]
    refine cz _ _ _ .busy none af (same _ _ _ eH af fun j hj=> ?_) fi (fun j h3 h4=>by(repeat(first|rfl|rw[ad]|rw[ag _ _ _ _ (by omega)])))
    by_cases e:j=nx+2
    ·exact zW
    ·exact fi
  ·have hp:dx 8 s' x=s':=by unfold dx;rw[if_neg (by simpa using h3)]
   rw[hp]at cz
   refine aU ?_
   refine cz _ _ _ .busy none af (same _ _ _ eH af fun j hj=> ?_) fi (fun j h3 h4=>by(repeat(first|rfl|rw[ad]|rw[ag _ _ _ _ (by omega)])))
   by_cases e:j=nx+2
   ·exact Pu
   ·exact fi
 ·intro o' n' hI
  have hle:=hI.le
  simp only[oL]
  have q1:o' (nx+3)= .row [.mp (nx+2)]:=by rw[hI.eq (nx+3) (by omega)];(repeat(first|rfl|rw[ad]|rw[ag _ _ _ _ (by omega)]))
  refine gB q1 ?_
  have xl:∀ (l:List Tm) (m:List (Int×Int)),(aq (zf (fun _=>none) (dx 8)) m l).1=l.foldl (dx 8) m:=by
   intro l
   induction l with
   |nil=>intro m;rfl
   |cons y l ih=>intro m;simp only[aq,zf,Option.isNone_none,if_true];exact ih _
  rw[xl]at hI
  refine hK _ _ _ _ af af (hI.bA.mono af) (fun j hj=> ?_) (by rw[hI.eq (nx+2) (by omega),ad]) rfl
  rw[hI.eq j (by omega)];(repeat(first|rfl|rw[ad]|rw[ag _ _ _ _ (by omega)]))
theorem BV(l:List Tm)(hl:l.length<=1000000)(hf:∀t∈l,t.fits)(o:Nat->ab)(nx:Nat)(hg:Good o nx)(K X:V->(Nat->ab)->Nat->Prop)
 (hK:ab4 (fun m=>m=(l.flatMap fu).foldl (dx 1) []) o nx K):cX Tryz.prog 135 [.d (.sl (l.map Tm.d))] o nx K X:=by
 refine cX.aF mix Q4 aL ?_
 rw[UG]
 refine RU ?_
 let Hm:List (Int×Int)->Nat->ab:=fun m=>aA (aA o (nx+2) (.row [.mp (nx+1)])) (nx+1) (qg m)
 have hgm:∀m,Good (Hm m) (nx+7):=fun m=>((hg.mono af).aA af mm).aA af rfl
 have S0:∀m,Hm m (nx+1)=qg m:=fun m=>ad _ _ _
 have M0:∀m,Hm m (nx+2)= .row [.mp (nx+1)]:=fun m=>by show aA _ (nx+1) _ (nx+2)=_;rw[ag _ _ _ _ (by omega),ad]
 have vT:∀m j,j≠nx+1->Hm m j=Hm [] j:=fun m j h=>by show aA _ (nx+1) _ j=aA _ (nx+1) _ j;rw[ag _ _ _ _ h,ag _ _ _ _ h]
 refine aw (fun i:Nat×List (Int×Int)=>⟨aS [.aa, .aa, .aa, .ptr (nx+2) 0, .aa, .aa, .aa, .aa, .d (.sl (l.map Tm.d)), .d (.i l.length), .d (.i i.1)],Hm i.2,nx+7⟩)
  (fun i=>i.1<=l.length/\i.2=((l.take i.1).flatMap fu).foldl (dx 1) []) (fun i=>l.length - i.1) (0,[]) ⟨Nat.zero_le _,rfl⟩ (aZ.aR _ (show nx<=nx+7 from af) af (hgm _) (fun j hj=> ?_) ?_) ?_
 ·show _=aA (aA o (nx+2) (.row [.mp (nx+1)])) (nx+1) (qg []) j
  exact Mv
 ·exact bO
 rintro⟨k,m⟩ ⟨hk,hm⟩
 simp only at hk hm
 refine aU ?_
 refine ai (fun h2=> ?_) (fun h2=> ?_)
 ·simp at h2
  obtain⟨x,hx⟩:=az h2
  have eU:=List.mem_of_getElem? hx
  have kO:((l.take (k+1)).flatMap fu).foldl (dx 1) []=(fu x).foldl (dx 1) m:=by
   rw[List.take_add_one,hx,hm];simp
  have aej:=hgm m
  have e1:=S0 m
  have e2:=M0 m
  have e3:=vT m
  clear_value Hm
  refine Ms hx ?_
  refine fP (xy x _ _ _ _ ?_)
  refine ow ?_
  let G:List (Int×Int)->Nat->ab:=fun s=>aA (aA (aA (Hm m) (nx+10) (.row x.row)) (nx+13) (.row x.row)) (nx+1) (qg s)
  have hG:∀j,j<nx+17->aA (aA (aA (Hm m) (nx+10) (.row [.d (.int .i64 0), .d (.int .i64 0), .bd])) (nx+10) (.row [.d (.i x.op), .d (.i x.n), .d (.sl (x.kids.map Tm.d))])) (nx+13) (.row x.row) j=G m j:=by
   intro j _
   show _=aA (aA (aA (Hm m) (nx+10) (.row x.row)) (nx+13) (.row x.row)) (nx+1) (qg m) j
   by_cases e:j=nx+1
   ·subst e;(repeat(first|rfl|rw[ad]|rw[ag _ _ _ _ (by omega)]))
    exact e1
   ·rw[ag _ (nx+1) _ _ e,dm]
  have gm:∀s,G s (nx+1)=qg s:=fun s=>ad _ _ _
  have g2:∀s,G s (nx+2)= .row [.mp (nx+1)]:=fun s=>by
   show aA _ (nx+1) _ (nx+2)=_
   rw[ag _ _ _ _ (by omega),ag _ _ _ _ (by omega),ag _ _ _ _ (by omega)];exact e2
  have g3:∀s s' j,j≠nx+1->G s j=G s' j:=fun s s' j h=>by show aA _ (nx+1) _ j=aA _ (nx+1) _ j;rw[ag _ _ _ _ h,ag _ _ _ _ h]
  have g4:∀s j,j<nx+7->j≠nx+1->G s j=Hm m j:=fun s j h h'=>by
   show aA _ (nx+1) _ j=_
   rw[ag _ _ _ _ h',ag _ _ _ _ (by omega),ag _ _ _ _ (by omega)]
  clear_value G
  have hg:=aej
  refine qe (σ:=List (Int×Int)) x (hf x eU) [.aa, .aa, .aa, .ptr (nx+2) 0, .aa, .aa, .aa, .aa, .d (.sl (l.map Tm.d)), .d (.i l.length), .d (.i k)] ?_ bF rfl eH nO (ad _ _ _)
   G (fun _=>none) (dx 1) (fun _=>True) m trivial rfl hG (fun _ _ _ _ _ _=>trivial) ?_ ?_
  ·exact F9
  ·intro L hL wg y hy s' _ _ o3 n3 hI hn Ic K' X' cz
   simp only[mW]
   have hg:=hI.bA
   have hle:=hI.le
   have q1:o3 (nx+2)= .row [.mp (nx+1)]:=by rw[hI.eq (nx+2) (by omega),g2]
   have q2:o3 (nx+1)=qg s':=by rw[hI.eq (nx+1) (by omega),gm]
   have z1:nx≠n3:=af
   have z2:∀k,nx≠n3+k:=fun k=>af
   have z3:nx+2≠n3:=af
   have z4:nx+1≠n3:=af
   have same:∀ (o':Nat->ab) (n':Nat) (l:List (Int×Int)),Good o' n'->n3<=n'->(∀j,j<nx+17->o' j=aA o3 (nx+1) (qg l) j)->cH (nx+17) (G l) o' n':=fun o' n' l k1 k2 k3=>⟨k1,af,fun j hj=>by
    rw[k3 j hj]
    by_cases e:j=nx+1
    ·subst e;rw[ad,gm]
    ·rw[ag _ _ _ _ e,hI.eq j hj];exact g3 _ _ _ e⟩
   refine aU ?_
   refine lg hL (pd:=none) ?_ ?_
   ·(repeat(first|rfl|rw[ad]|rw[ag _ _ _ _ (by omega)]))
    exact Ic
   refine qF q1 q2 ?_
   refine ai (fun h3=> ?_) (fun h3=> ?_)
   ·have mL:y.op=1:=by simpa using h3
    have hp:dx 1 s' y=sT s' y.n:=by unfold dx;rw[if_pos mL]
    rw[hp]at cz
    cases DW:lk s' y.n with
    |none=>
     have hc:sT s' y.n=kK s' y.n (0+1):=by unfold sT fU;rw[DW];rfl
     rw[hc]at cz
     simp+contextual (disch:=first|omega|simp only[go_sem,false_implies]) only[go_sem,wrap64,if_pos,q1,q2,z1,z2,z3,z4,lX DW,lj,Nat.add_assoc,Nat.left_eq_add,Nat.add_eq_left,Nat.add_left_cancel_iff]
     refine cz _ _ _ .busy none af (same _ _ _ eH af fun j hj=> ?_) fi (fun j h3 h4=>by(repeat(first|rfl|rw[ad]|rw[ag _ _ _ _ (by omega)])))
     by_cases e:j=nx+1
     ·exact zW
     ·exact fi
    |some c=>
     obtain⟨q,hq⟩:=lW DW
     have hc:sT s' y.n=kK s' y.n (IntKind.i64.wrap (c+1)):=by unfold sT fU;rw[DW];rfl
     rw[hc]at cz
     simp+contextual (disch:=first|omega|simp only[go_sem,false_implies]) only[go_sem,wrap64,if_pos,q1,q2,z1,z2,z3,z4,hq,lj,Nat.add_assoc,Nat.left_eq_add,Nat.add_eq_left,Nat.add_left_cancel_iff]
     refine cz _ _ _ .busy none af (same _ _ _ eH af fun j hj=> ?_) fi (fun j h3 h4=>by(repeat(first|rfl|rw[ad]|rw[ag _ _ _ _ (by omega)])))
     by_cases e:j=nx+1
     ·exact zW
     ·exact fi
   ·have hp:dx 1 s' y=s':=by unfold dx;rw[if_neg (by simpa using h3)]
    rw[hp]at cz
    refine aU ?_
    refine cz _ _ _ .busy none af (same _ _ _ eH af fun j hj=> ?_) fi (fun j h3 h4=>by(repeat(first|rfl|rw[ad]|rw[ag _ _ _ _ (by omega)])))
    by_cases e:j=nx+1
    ·exact Pu
    ·exact fi
  ·intro o' n' hI
   have hle:=hI.le
   simp only[oL]
   have xl:∀ (l:List Tm) (m:List (Int×Int)),(aq (zf (fun _=>none) (dx 1)) m l).1=l.foldl (dx 1) m:=by
    intro l
    induction l with
    |nil=>intro m;rfl
    |cons y l ih=>intro m;simp only[aq,zf,Option.isNone_none,if_true];exact ih _
   rw[xl]at hI
   refine aU ?_
   refine aj (k+1,(fu x).foldl (dx 1) m) ⟨h2,kO.symm⟩ jS (aZ.aR _ (show nx<=nx+7 from af) af (hgm _) (fun j hj=> ?_) ?_)
   ·rw[hI.eq j (by omega)]
    by_cases e:j=nx+1
    ·subst e;rw[gm,S0]
    ·rw[g4 _ _ hj e,e3 j e];exact(vT _ j e).symm
   ·exact bO
 ·simp at h2
  rw[List.take_of_length_le h2]at hm
  refine gB M0 ?_
  exact hK _ _ _ _ af af ((hgm _).mono af) (fun j hj=>by show aA _ (nx+1) _ j=_;rw[ag _ _ _ _ (by omega),ag _ _ _ _ (by omega)]) (S0 m) hm
section
section
variable {B:Nat->Prop}{w:World}
end
theorem aT.ss {P:Program}{f:FuncId}{ds:List D}{out:D}(h:cX P f (ds.map .d) (fun _=> .no) 0 (fun v o _=>∃x,dE o v=some x/\∀B w val,D.den B w x val->D.den B w out val) (fun _ _ _=>False)):aT P f ds (.ret [out]):=by
 refine⟨h.1,fun M w vals hM hd=> ?_⟩
 let cj:Place:=fun _=> .nilFunc
 have vH:∀b, ¬cA cj (hp (fun _=> .no) 0) b:=by rintro b ⟨id,hl,_⟩;simp[hp,ab.live]at hl
 refine(h.2 M cj w vals (la cj hM) ((V.b9 _ _).2 (D.aP (w:=w) (w':=w) (B:=M) (fun b _ hB=>⟨rfl,fun h=>h.elim hB (vH b)⟩) _ _ hd))).mono ?_
 rintro e w' ⟨aE,o',nx',v,k1,k2,k3⟩
 have rX:dB (fun _=>False) w w':=⟨k2.keep.os,k2.keep.tape,k2.keep.output,k2.keep.size,fun k hk _=>k2.keep.block k hk (vH k)⟩
 refine⟨rX, ?_⟩
 cases e with
 |outgrown=>exact k3.elim
 |panicked ch=>obtain⟨_,_,_,h⟩:=k3;exact h.elim
 |returned val=>
  obtain⟨g1,x,g2,g3⟩:=k3
  obtain⟨f1,f2,f3,f4,f5⟩:=cG k1 v.ids (fun id au=>cE v val g1 id au)
  have h3:=eN f1 (o:=o') v x val (fun id au=>f3 id au) g2 (V.aM f2 _ _ g1)
  exact g3 _ _ _ (D.aM (w:=w') (w':=w') (fun k _ hB=>⟨rfl,fun hM=>hB (.inl hM)⟩) x val h3)
end
@[reducible] def Lg (m:List (Int×Int)):D:= .mp ((enc (D.int .i64) (ints m)).map (·.1)) ((enc (D.int .i64) (ints m)).map (·.2))
theorem sX(m:List (Int×Int)):(((enc (D.int .i64) (ints m)).map (·.1)).zip ((enc (D.int .i64) (ints m)).map (·.2)))=enc (D.int .i64) (ints m):=N4 _ _
def dy(op:Int)(l:List Tm):List (Int×Int):=(l.flatMap fu).foldl (dx op) []
theorem Vv(t:Tm)(ht:t.fits):aT Tryz.prog 136 [t.d] (.ret [Lg (dy 8 [t])]):=by
 refine aT.ss (Vu t ht _ _ eH _ _ fun o' nx' id m _ _ _ _ ho hm=> ?_)
 refine⟨_,by simp only[dE,ho];rfl,fun B w val h=> ?_⟩
 have e:m=dy 8 [t]:=by rw[hm];simp[dy]
 rw[<- e];exact h
theorem su(l:List Tm)(hl:l.length<=1000000)(hf:∀t∈l,t.fits):aT Tryz.prog 135 [.sl (l.map Tm.d)] (.ret [Lg (dy 1 l)]):=by
 refine aT.ss (BV l hl hf _ _ eH _ _ fun o' nx' id m _ _ _ _ ho hm=> ?_)
 refine⟨_,by simp only[dE,ho];rfl,fun B w val h=> ?_⟩
 have e:m=dy 1 l:=hm
 rw[<- e];exact h
theorem xM(o:Nat->ab)(m:List (Int×Int))(v:Int):hU Tryz.prog o 172 (.d (Lg m)) (.d (.int .i64 v)) false=some (.d (.i (fU m v)),[],[]):=by
 cases h:lk m v with
 |none=>
  have e:fU m v=0:=by unfold fU;rw[h];rfl
  rw[e]
  simp+contextual (disch:=first|omega|simp only[go_sem,false_implies]) only[go_sem,wrap64,if_pos,sX,lX h]
 |some c=>
  have e:fU m v=c:=by unfold fU;rw[h];rfl
  obtain⟨j,hj⟩:=lW h
  rw[e]
  simp+contextual (disch:=first|omega|simp only[go_sem,false_implies]) only[go_sem,wrap64,if_pos,sX,hj]
theorem u3(l:List Int)(hl:l.length<=1000000)(o:Nat->ab)(fr:Nat):yw Tryz.prog 76 [.d (.sl (l.map .i))] [] o fr (.osl fr 0) [(fr, .arr 0 3 1 (l.map .i))]:=by
 refine yw.Kj (ds:=[.sl (l.map .i)]) ?_
 refine cX.aF mix Uo aL ?_
 rw[c76]
 have hu:Tryz.prog.underlying 37=some (.slice 3):=ah
 cases l with
 |nil=>
  have heq:∀O,wv Tryz.prog O 37 true (.d (.sl [])) .bd=some .eV:=by
   intro O
   unfold wv
   rw[hu]
   rfl
  simp only[List.map_cons,List.map_nil]
  refine gB heq ?_
  simp only[List.isEmpty_nil,if_true]
  refine gB heq ?_
  exact .inl ⟨3,1,rfl,ad _ _ _⟩
 |cons a l=>
  have heq:∀O,wv Tryz.prog O 37 true (.d (.sl (D.i a::l.map D.i))) .bd=some (.d (.bool false)):=by
   intro O
   unfold wv
   rw[hu]
   rfl
  simp only[List.map_cons,List.map_nil]
  refine gB heq ?_
  simp only[List.isEmpty_nil,if_true]
  refine gB heq ?_
  rw[List.length_cons]at hl
  rw[if_pos (by omega)]
  refine aU ?_
  exact .inl ⟨3,1,rfl,ad _ _ _⟩
def Vw:List Int->Int->Int->Int
 |[],_,_=> -1
 |x::l,v,k=>if v=x then k else Vw l v (k+1)
theorem Lh:∀ (l:List Int) (v k:Int),0<=k->(decide (0<=Vw l v k)=l.contains v)
 |[],v,k,_=>rfl
 |x::l,v,k,hk=>by
  have ih:=Lh l v (k+1) af
  unfold Vw
  by_cases h:v=x
  ·rw[if_pos h];subst h;simp[hk]
  ·rw[if_neg h,ih];simp[List.contains_cons,h]
theorem Li(l:List Int)(hl:l.length<=1000000)(v:Int):aT Tryz.prog 179 [.sl (l.map .i), .i v] (.ret [.i (Vw l v 0)]):=by
 refine aT.aF mix Rq aL ?_
 rw[U0]
 refine mi ?_
 refine aw (fun k:Nat=>⟨aS [.d (.sl (l.map .i)), .d (.i v), .aa, .aa, .aa, .aa, .aa, .d (.i l.length), .d (.i k)],fun _=> .no,1⟩)
  (fun k=>k<=l.length/\Vw l v 0=Vw (l.drop k) v k) (fun k=>l.length - k) 0 ⟨Nat.zero_le _,rfl⟩ (aZ.aR _ (show 0<=1 from af) af eH (fun _ _=>rfl) ?_) (fun k hk=> ?_)
 ·exact bO
 obtain⟨hk,tE⟩:=hk
 refine aU ?_
 refine ai (fun h2=> ?_) (fun h2=> ?_)
 ·simp at h2
  obtain⟨x,hx⟩:=az h2
  have hd:l.drop k=x::l.drop (k+1):=by
   obtain⟨g1,g2⟩:=List.getElem?_eq_some_iff.1 hx
   exact IQ
  rw[hd]at tE
  simp only[Vw]at tE
  refine gB hx ?_
  refine ai (fun h3=> ?_) (fun h3=> ?_)
  ·have mL:v=x:=by simpa using h3
   rw[if_pos mL]at tE
   refine aU ?_
   rw[tE]
  ·have mL: ¬v=x:=by simpa using h3
   rw[if_neg mL]at tE
   refine aU ?_
   refine aj (k+1) ⟨h2,tE⟩ af (aZ.aR _ (show 0<=1 from af) af eH (fun _ _=>rfl) ?_)
   exact bO
 ·exact PE
theorem BW(l:List Int)(hl:l.length<=1000000)(v:Int):aT Tryz.prog 163 [.sl (l.map .i), .i v] (.ret [.bool (l.contains v)]):=by
 refine aT.aF mix Rf aL ?_
 rw[UQ]
 refine aU ?_
 refine aC (Li l hl v) rfl ?_
 refine aU ?_
 rw[Lh l v 0 (by omega)]
mutual
def zi(m:List (Int×Int)):Tm->List Int->Bool
 | .mk op n kids,nH=>if op=1 then(fU m n==0||nH.contains n)else qh m op n kids 0 nH
def qh(m:List (Int×Int))(op n:Int):List Tm->Nat->List Int->Bool
 |[],_,_=>true
 |k::l,i,nH=>zi m k (if op=8/\i=1 then nH++[n]else nH)&&qh m op n l (i+1) nH
end
theorem FL(m:List (Int×Int))(t:Tm)(nH:List Int):zi m t nH=if t.op=1 then(fU m t.n==0||nH.contains t.n)else qh m t.op t.n t.kids 0 nH:=by cases t;rw[zi];rfl
theorem Lj(m:List (Int×Int)):∀t:Tm,t.fits->∀nH:List Int,nH.length+t.l5<=1000000->aT Tryz.prog 137 [t.d,Lg m, .sl (nH.map .i)] (.ret [.bool (zi m t nH)]):=by
 refine Tm.dN fun t ih hf nH hb=> ?_
 have kC:=(Tm.bu _).1 hf
 refine aT.aF mix Q6 aL ?_
 rw[UI,FL]
 by_cases h1:t.op=1
 ·have mG:(t.op==1)=true:=by simpa using h1
  rw[if_pos h1]
  cases hc:(fU m t.n==0)with
  |true=>
   simp+contextual (disch:=first|omega|simp only[go_sem,false_implies]) only[go_sem,wrap64,if_pos,mG,xM,hc]
  |false=>
   simp+contextual (disch:=first|omega|simp only[go_sem,false_implies]) only[go_sem,wrap64,if_pos,mG,xM,hc]
   refine aC (BW nH af t.n) rfl ?_
   exact zM hc
 ·have mG:(t.op==1)=false:=by simpa using h1
  rw[if_neg h1]
  refine mj mG ?_
  refine aw (fun k:Nat=>⟨aS [.aa, .d (Lg m), .d (.sl (nH.map .i)), .ptr 0 0, .aa, .aa, .aa, .aa, .aa, .aa, .aa, .aa, .aa, .aa, .aa, .aa, .aa, .aa, .aa, .aa, .aa, .aa, .aa, .aa, .aa, .d (.sl (t.kids.map Tm.d)), .d (.i t.kids.length), .d (.i k)],aA (fun _=> .no) 0 (.row [.d (.i t.op), .d (.i t.n), .d (.sl (t.kids.map Tm.d))]),1⟩)
   (fun k=>k<=t.kids.length/\qh m t.op t.n t.kids 0 nH=qh m t.op t.n (t.kids.drop k) k nH) (fun k=>t.kids.length - k) 0 ⟨Nat.zero_le _,rfl⟩ (aZ.aR _ (show 0<=1 from af) af eH (fun _ _=>rfl) ?_) (fun k hk=> ?_)
  ·exact bO
  obtain⟨hk,tE⟩:=hk
  have Gg:=kC.1
  refine aU ?_
  refine ai (fun h2=> ?_) (fun h2=> ?_)
  ·simp at h2
   obtain⟨x,hx⟩:=az h2
   have eU:=List.mem_of_getElem? hx
   have hd:t.kids.drop k=x::t.kids.drop (k+1):=by
    obtain⟨g1,g2⟩:=List.getElem?_eq_some_iff.1 hx
    exact IQ
   have hh:=Tm.nA eU
   rw[hd]at tE
   simp only[qh]at tE
   refine gB hx ?_
   refine ai (fun h3=> ?_) (fun h3=> ?_)
   ·have mL:t.op=8/\k=1:=by
     simp at h3
     exact⟨h3.1,af⟩
    rw[if_pos mL]at tE
    refine aU ?_
    refine rn rfl (u3 nH af _ _) ?_
    refine aU ?_
    refine aI bF ?_
    refine aU ?_
    have e:List.map D.i nH++[D.i t.n]=(nH++[t.n]).map D.i:=aL
    rw[e]
    refine aC (ih x eU (kC.2 x eU) (nH++[t.n]) oz) rfl ?_
    refine aU ?_
    cases hs:zi m x (nH++[t.n])with
    |false=>
     rw[hs,Bool.false_and]at tE
     refine gB hs ?_
     rw[tE]
    |true=>
     exact Yg
   ·have mL: ¬ (t.op=8/\k=1):=by
     simp at h3
     intro⟨h4,h5⟩
     exact h3 h4 af
    rw[if_neg mL]at tE
    refine aU ?_
    refine aC (ih x eU (kC.2 x eU) nH af) rfl ?_
    refine aU ?_
    cases hs:zi m x nH with
    |false=>
     rw[hs,Bool.false_and]at tE
     refine gB hs ?_
     rw[tE]
    |true=>
     exact Yg
  ·exact PE
mutual
def DX(v:Int):Tm->Bool
 | .mk op n kids=>if op=1 then n==v else qi v op n kids 0
def qi(v op n:Int):List Tm->Nat->Bool
 |[],_=>false
 |k::l,i=>(DX v k&& !(op==8&&i==1&&n==v))||qi v op n l (i+1)
end
theorem u4(v:Int)(t:Tm):DX v t=if t.op=1 then t.n==v else qi v t.op t.n t.kids 0:=by cases t;rfl
@[reducible] def Ob (l:List Int):ab:= .map 3 4 (enc (D.int .i64) (ng l))
def sU(l:List Int)(x:Tm×Int):Bool:=(x.1.op !=1&&x.1.op !=3)||(x.1.op==1&&l.contains x.1.n)
def ll(s:List Int×Bool)(x:Tm×Int):List Int×Bool:=(if sU s.1 x=true then s.1 else if x.1.op=1 then zh s.1 x.1.n else s.1, !sU s.1 x)
def pJ(s:List Int×Bool):Option jP:=if s.2=true then none else some .ret
def wa(t:Tm):Bool:=(aq (xm pJ ll) ([],true) (pre t 1)).2
theorem BX(s:bE)(hs:s.Fits)(t:Tm)(ht:t.Fin):aT Tryz.prog 132 [s.d,t.d] (.ret [.bool (eZ s [t]&&wa t), .i (kN (eZ s [t]))]):=by
 refine aT.aF mix Q1 aL ?_
 rw[UD]
 refine aU ?_
 refine aC (FF s hs [t] aL (fun x hx=>by simp at hx;subst hx;exact ht)) rfl ?_
 cases h1:eZ s [t]with
 |false=>exact Is
 |true=>
  refine ow ?_
  refine fP (BP t _ _ _ _ ?_)
  refine ow ?_
  refine sm (σ:=List Int×Bool) t ht.fits ht.l5 [.aa, .aa, .aa, .aa, .ptr 2 0, .ptr 3 0, .ptr 10 0] ?_ bF rfl eH nO (ad _ _ _)
   (fun b=>aA (aA (aA (aA (aA (aA (aA (aA (fun _=> .no) 0 (.row s.row)) 1 (.row t.row)) 2 (.row [.d (.bool false)])) 3 (.row [.d (.i 0)])) 6 (.arr 0 55 3 [t.d])) 10 (.row [.mp 9])) 13 (.row t.row)) 9 (Ob b.1)) pJ ll (fun _=>True) ([],true) trivial rfl (fun id au=> ?_) (fun _ _ _ _ _ _=>trivial) ?_ ?_
  ·exact F9
  ·exact Mv
  ·intro L hL wg x hx s' h1 h2 o3 n3 hI hn ho K X cz
   simp only[mW]
   have hg:=hI.bA
   have q1:o3 10= .row [.mp 9]:=hI.eq 10 af
   have q2:o3 9=Ob s'.1:=hI.eq 9 af
   have q3:o3 2= .row [.d (.bool false)]:=hI.eq 2 af
   have q4:o3 3= .row [.d (.i 0)]:=hI.eq 3 af
   refine aU ?_
   refine lg hL (pd:=none) ?_ ?_
   ·(repeat(first|rfl|rw[ad]|rw[ag _ _ _ _ (by omega)]))
    exact ho
   refine qF q1 q2 ?_
   have hv:sU s'.1 x=((x.1.op !=1&&x.1.op !=3)||(x.1.op==1&&s'.1.contains x.1.n)):=rfl
   rw[<- hv]
   have same:∀ (o':Nat->ab) (n':Nat) (l:List Int),Good o' n'->n3<=n'->(∀id,id<17->o' id=aA o3 9 (Ob l) id)->cH 17 (aA (aA (aA (aA (aA (aA (aA (aA (fun _=> .no) 0 (.row s.row)) 1 (.row t.row)) 2 (.row [.d (.bool false)])) 3 (.row [.d (.i 0)])) 6 (.arr 0 55 3 [t.d])) 10 (.row [.mp 9])) 13 (.row t.row)) 9 (Ob l)) o' n':=fun o' n' l k1 k2 k3=>⟨k1,by have:=hI.le;omega,fun id au=>by
    rw[k3 id au]
    by_cases e:id=9
    ·subst e;rw[ad,ad]
    ·rw[ag _ _ _ _ e,ag _ _ _ _ e,hI.eq id au,ag _ _ _ _ e]⟩
   cases hb:sU s'.1 x with
   |true=>
    have hp:ll s' x=(s'.1,false):=by simp[ll,hb]
    rw[hp]at cz
    refine qF q3 q4 ?_
    refine cz _ _ _ .busy none af (same _ _ _ eH af fun id au=> ?_) fi (fun id h3 h4=>by(repeat(first|rfl|rw[ad]|rw[ag _ _ _ _ (by omega)])))
    by_cases e9:id=9
    ·exact Ps
    ·by_cases e2:id=2
     ·subst e2;(repeat(first|rfl|rw[ad]|rw[ag _ _ _ _ (by omega)]))
      exact q3.symm
     ·by_cases e3:id=3
      ·subst e3;(repeat(first|rfl|rw[ad]|rw[ag _ _ _ _ (by omega)]))
       exact q4.symm
      ·exact fi
   |false=>
    refine qF q1 q2 ?_
    refine ai (fun h3=> ?_) (fun h3=> ?_)
    ·have mL:x.1.op=1:=by simpa using h3
     have hp:ll s' x=(zh s'.1 x.1.n,true):=by simp[ll,hb,mL]
     rw[hp]at cz
     refine qF q1 q2 ?_
     refine cz _ _ _ .busy none af (same _ _ _ eH af fun id au=> ?_) fi (fun id h3 h4=>by(repeat(first|rfl|rw[ad]|rw[ag _ _ _ _ (by omega)])))
     by_cases e9:id=9
     ·subst e9;(repeat(first|rfl|rw[ad]|rw[ag _ _ _ _ (by omega)]))
     ·exact fi
    ·have mL: ¬x.1.op=1:=by simpa using h3
     have hp:ll s' x=(s'.1,true):=by simp[ll,hb,mL]
     rw[hp]at cz
     refine aU ?_
     refine cz _ _ _ .busy none af (same _ _ _ eH af fun id au=> ?_) fi (fun id h3 h4=>by(repeat(first|rfl|rw[ad]|rw[ag _ _ _ _ (by omega)])))
     by_cases e9:id=9
     ·exact Ps
     ·exact fi
  ·intro o' n' hI
   have hJ:=ze pJ ll (pre t 1) ([],true) rfl
   have hpf:wa t=(pJ (aq (xm pJ ll) ([],true) (pre t 1)).1).isNone:=hJ
   have q0:o' 2= .row [.d (.bool false)]:=hI.eq 2 af
   have q1:o' 3= .row [.d (.i 0)]:=hI.eq 3 af
   rw[hpf]
   generalize (aq (xm pJ ll) ([],true) (pre t 1)).1=sf at*
   obtain⟨l,b⟩:=sf
   cases b<;>(simp only[pJ,if_true,if_false,Bool.false_eq_true,oL];simp+contextual (disch:=first|omega|simp only[go_sem,false_implies]) only[go_sem,wrap64,if_pos,q0,q1];simp[kN])
structure Rl where
 fn:Int
 ay:List Tm
 rhs:Tm
 vars:Int
@[reducible] def Rl.row (r:Rl):List V:=[.d (.i r.fn), .d (.sl (r.ay.map Tm.d)), .d (.i r.rhs.op), .d (.i r.rhs.n), .d (.sl (r.rhs.kids.map Tm.d)), .d (.i r.vars)]
@[reducible] def Rl.d (r:Rl):D:= .agg [.i r.fn, .sl (r.ay.map Tm.d), .i r.rhs.op, .i r.rhs.n, .sl (r.rhs.kids.map Tm.d), .i r.vars]
structure Rl.Fin (r:Rl):Prop where
 ay:r.ay.length<=1000000
 all:∀t∈r.ay,t.Fin
 rhs:r.rhs.Fin
theorem BZ(l:List Tm)(hl:l.length<=9223372036854775807)(g:Nat)(aQ:List V)(base:Nat)(h:Nat->ab)(p:Tm->Bool)(hc:∀r∈V.aG aQ,r<base)
 (hp:∀x∈l,iO Tryz.prog g (.d x.d::aQ) base h h (.d (.bool (p x)))):iO Tryz.prog 133 [.d (.sl (l.map Tm.d)), .func (.func g) [] aQ] base h h (.d (.bool (l.all p))):=by
 have:=xu l hl g aQ base (fun _:Unit=>h) (fun _ x=>((),p x)) hc (fun _=>True) (fun _ _ _ _ _=>trivial) (fun x hx _ _=>hp x hx) () trivial
 exact IZ
def ku(s:bE)(t:Tm):Bool:=eZ s [t]&&wa t
theorem Oc(s:bE)(hs:s.Fits)(t:Tm)(ht:t.Fin)(base sp:Nat)(h:Nat->ab)(vF:h sp= .row s.row)(hb:sp<base):iO Tryz.prog 131 [.d t.d, .ptr sp 0] base h h (.d (.bool (ku s t))):=by
 intro o nx hI K X hK
 have hle:=hI.le
 have hg:=hI.bA
 have q0:o sp= .row s.row:=by rw[hI.eq sp hb,vF]
 refine cX.aF mix Q0 aL ?_
 rw[UC]
 refine gB q0 ?_
 refine aC (BX s hs t ht) rfl ?_
 cases hr:eZ s [t]with
 |false=>
  have e:ku s t=false:=by simp[ku,hr]
  exact Yj
 |true=>
  have e:ku s t=wa t:=by simp[ku,hr]
  exact Yj
end Go.Proofs.YtnkamdiiakdkgaaGreat
