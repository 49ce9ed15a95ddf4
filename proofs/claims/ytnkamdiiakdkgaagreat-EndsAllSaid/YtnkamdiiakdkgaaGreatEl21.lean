/-
  A PART OF THE PROOF. Conditions: none.
-/
import Derived.Test.YtnkamdiiakdkgaaGreatEl20
set_option linter.unusedSimpArgs false
set_option linter.unusedVariables false
set_option pp.deepTerms true
set_option pp.maxSteps 1000000
namespace Go.Proofs.YtnkamdiiakdkgaaGreat
def cM(c:Cl):List Int:=(pH c.QK).1
structure pO (c:Cl):Prop where
 GC:kP (cM c)
 eq:c.QK=mn (cM c) 16
theorem QU:kP Jv:=⟨rfl,bI⟩
theorem N5{m:List Int}(hm:kP m):pH (mn m 16)=(m,true):=by unfold pH;rw[PN hm]
theorem Ed{m:List Int}(hm:kP m){c:Cl}(h:c.QK=mn m 16):pO c:=by
 have e:cM c=m:=by unfold cM;rw[h,N5 hm]
 exact⟨e ▸ hm,e.symm ▸ h⟩
theorem rD{p:Pg}(h:cq p=true):∀c∈dh p,pO c:=by
 intro c hc
 unfold dh ky at hc
 obtain⟨n,hn,hc⟩:=List.mem_flatMap.1 hc
 cases hr:p.rules[n]? with
 |none=>rw[hr]at hc;cases hc
 |some r=>
  rw[hr]at hc
  have hk:=uS h (List.mem_of_getElem? hr)
  obtain⟨x,hx,hc⟩:=List.mem_flatMap.1 hc
  unfold Ez at hc
  split at hc
  ·rename_i h4
   simp only[List.mem_singleton]at hc
   subst hc
   exact Ed (DT r.aC x.t.kids) (DV _ _ hk.len (hk.kids (Bf h) hx h4)).symm
  ·split at hc
   ·obtain⟨to,_,rfl⟩:=List.mem_map.1 hc
    exact Ed QU (by rfl)
   ·cases hc
def Ie(l:List Cl)(n:Int):List Int:=match l[n.toNat]? with
 |some c=>cM c
 |none=>qQ
theorem QV{l:List Cl}(hl:∀c∈l,pO c)(n:Int):kP (Ie l n):=by
 unfold Ie
 split
 ·rename_i c hc;exact(hl c (List.mem_of_getElem? hc)).GC
 ·exact qR
def BG(l:List Cl)(cy:List Int):List Int:=(cy.map (Ie l)).foldl c7 qQ
theorem Ee(l:List Cl)(cy:List Int)(n:Int):BG l (cy++[n])=c7 (BG l cy) (Ie l n):=by unfold BG;rw[List.map_append,List.foldl_append];rfl
theorem wQ(l:List Cl){cy:List Int}{k:Nat}{n:Int}(h:cy[k]? =some n):BG l (cy.take (k+1))=c7 (BG l (cy.take k)) (Ie l n):=by
 rw[List.take_add_one,h,Option.toList_some,Ee]
theorem Eg:∀ (ms:List (List Int)) (m:List Int),kP m->(∀x∈ms,kP x)->kP (ms.foldl c7 m)
 |[],m,h,_=>h
 |x::ms,m,h,h2=>Eg ms _ (jx h (h2 x aI)) fun y hy=>h2 y kD
theorem Ig{l:List Cl}(hl:∀c∈l,pO c)(cy:List Int):kP (BG l cy):=by
 unfold BG
 refine Eg _ _ qR fun x hx=> ?_
 obtain⟨n,_,rfl⟩:=List.mem_map.1 hx
 exact QV hl n
def inF(l:List Cl)(cy:List Int):Bool:=cy.all fun n=>decide (0<=n)&&decide (n<(l.length:Int))
theorem uV{l:List Cl}{cy:List Int}(h:inF l cy=true){k:Nat}{n:Int}(hk:cy[k]? =some n):0<=n/\∃c,l[n.toNat]? =some c:=by
 have:=List.all_eq_true.1 h n (List.mem_of_getElem? hk)
 simp at this
 exact⟨this.1,aF ag⟩
def Uh(l:List Cl)(cy:List Int)(k:Nat):Bool:=match cy[k]?,cy[(k+1)%cy.length]? with
 |some a,some b=>(match l[a.toNat]?,l[b.toNat]? with
  |some x,some y=>x.to==y.fr
  |_,_=>false)
 |_,_=>false
def QW(l:List Cl)(cy:List Int):Bool:=(List.range cy.length).all (Uh l cy)
def oL(l:List Cl)(cy:List Int):Bool:=dR cy.length 1 40&&(inF l cy&&QW l cy)
def xR(p:Pg)(cy:List Int):Bool×Int:=if(cq p&&oL (dh p) cy)=true then(if(dh p).length<=60 then(kR (BG (dh p) cy),0)else(false,3))else(false,2)
theorem QX{l:List Cl}{cy:List Int}{k:Nat}(hk:k<cy.length)(h:Uh l cy k=false):QW l cy=false:=by
 rw[Bool.eq_false_iff]
 intro h2
 have:=List.all_eq_true.1 h2 k (List.mem_range.2 hk)
 rw[h]at this;cases this
def Yh(p:Pg)(l:List Cl):Nat->ab:=ax (ax (fun _=> .no) 0 (.row p.row)) 19 (.row [.d (.sl (l.map Cl.d))])
theorem aeA(l:List Cl)(hl:l.length<=100000000)(n:Int)(base tb:Nat)(h:Nat->ab)(ht:h tb= .row [.d (.sl (l.map Cl.d))])(hb:tb<base):jg Tryz.prog 47 [.d (.i n), .ptr tb 0] base h h (.d (.bool (decide (0<=n)&&decide (n<(l.length:Int))))):=by
 intro o nx hI K X hK
 have hle:=hI.le
 have ot:o tb= .row [.d (.sl (l.map Cl.d))]:=by rw[hI.eq tb hb,ht]
 refine cH.aJ mix acL aI ?_
 rw[c47]
 cases h0:decide ((0:Int)<=n)with
 |false=>
  rw[h0,Bool.false_and]at hK
  refine xm ot h0 ?_
  exact hK _ _ ag (hI.mono ag) (fun id i1 i2=>rfl)
 |true=>
  rw[h0,Bool.true_and]at hK
  refine On ot h0 ?_
  exact hK _ _ ag (hI.mono ag) (fun id i1 i2=>rfl)
def OE(k:Nat):List Int:=(List.range 16).map fun p=>if p/4=p%4/\p/4<k then 1 else 0
theorem Ih(k:Nat):(OE k).length=16:=by simp[OE]
theorem idP_4:OE 4=qQ:=bI
theorem N6{k:Nat}(h:k<4):OE (k+1)=(OE k).set (k*4+k) 1:=by
 have:∀k,k<4->OE (k+1)=(OE k).set (k*4+k) 1:=bI
 exact this k h
theorem wS(p:Pg)(hf:p.Fin)(hp:p.Fw)(hq:lQ p=cq p)(cy:List Int)(mX:cy.length<=9223372036854775807):aV Tryz.prog 16 [p.d, .sl (cy.map .i)] (.ret [.bool (xR p cy).1, .i (xR p cy).2]):=by
 refine aV.aJ mix acE aI ?_
 rw[c16,xR]
 refine a8 ?_
 refine aD (DJ p hf) rfl ?_
 cases h1:cq p with
 |false=>
  rw[hq,h1]
  exact aab
 |true=>
 rw[hq,h1]
 by_cases h2:cy.length=0
 ·have hc:oL (dh p) cy=false:=by unfold oL dR;simp[h2]
  have mJ:((cy.length:Int)==0)=true:=by simp[h2]
  rw[hc]
  simp+contextual (disch:=first|omega|simp only[go_sem,false_implies]) only[go_sem,wrap64,if_pos,ly,List.length_map,mJ]
 by_cases h3:40<cy.length
 ·have hd:decide ((cy.length:Int)<=40)=false:=by simp;omega
  have hc:oL (dh p) cy=false:=by unfold oL dR;rw[hd];simp
  have mJ:((cy.length:Int)==0)=false:=by rw[beq_eq_false_iff_ne];omega
  have mf:decide ((cy.length:Int)>40)=true:=by simp;omega
  rw[hc]
  simp+contextual (disch:=first|omega|simp only[go_sem,false_implies]) only[go_sem,wrap64,if_pos,ly,List.length_map,mJ,mf]
 have hib:dR cy.length 1 40=true:=by unfold dR;rw[Bool.and_eq_true];exact⟨decide_eq_true ag,decide_eq_true ag⟩
 have mJ:((cy.length:Int)==0)=false:=by rw[beq_eq_false_iff_ne];omega
 have mf:decide ((cy.length:Int)>40)=false:=by simp;omega
 have Vw:(dh p).length<=50500000:=by
  have:=rB hp (Br h1) p.rules.length (Nat.le_refl _)
  have:=hp.len
  unfold dh;omega
 have agp:oL (dh p) cy=(inF (dh p) cy&&QW (dh p) cy):=by unfold oL;rw[hib,Bool.true_and]
 simp+contextual (disch:=first|omega|simp only[go_sem,false_implies]) only[go_sem,wrap64,if_pos,ly,List.length_map,mJ,mf]
 refine a7 (zE p hp h1) ?_
 refine a8 ?_
 refine a7 (N3 p hp h1) ?_
 have mT:=rD h1
 rw[agp]
 generalize dh p=l at Vw mT|-
 refine a8 ?_
 have hB:Good (Yh p l) 21:=by unfold Yh;exact fm
 have kB:Yh p l 19= .row [.d (.sl (l.map Cl.d))]:=by unfold Yh;(repeat(first|rfl|rw[af]|rw[ae _ _ _ _ (by omega)]))
 refine aS (N4 cy mX 47 [.ptr 19 0] 21 (fun _:Unit=>Yh p l) (fun _ n=>((),decide (0<=n)&&decide (n<(l.length:Int)))) oE (fun _=>True) (fun _ _ _ _ _=>trivial) (fun x hx _ _=>aeA l ag x 21 19 _ kB ag) () trivial _ _ ⟨?_, ?_,fun id aq=> ?_⟩ _ _ fun o2 n2 m1 m2 m3=> ?_)
 ·exact fm
 ·omega
 ·unfold Yh;rw[df]
 rw[n7]
 have jb:(cy.all fun n=>decide (0<=n)&&decide (n<(l.length:Int)))=inF l cy:=rfl
 rw[jb]
 cases h4:inF l cy with
 |false=>exact uX h4
 |true=>
 have q0:o2 0= .row p.row:=by rw[m2.eq 0 (by omega)];unfold Yh;(repeat(first|rfl|rw[af]|rw[ae _ _ _ _ (by omega)]))
 have q19:o2 19= .row [.d (.sl (l.map Cl.d))]:=by rw[m2.eq 19 (by omega)];exact kB
 have hg:=m2.bn
 refine a8 ?_
 have gY:∀m:List Int,Good (ax o2 (n2+1) (mR m)) (n2+2):=fun m=>(hg.mono ag).ax ag (mO _ _)
 refine az (fun k:Nat=>⟨aU [.aa, .d (.sl (cy.map D.i)), .ptr 0 0, .aa, .aa, .aa, .ptr 19 0, .ptr (n2+1) 0, .aa, .aa, .aa, .aa, .aa, .aa, .aa, .aa, .aa, .aa, .aa, .aa, .aa, .aa, .aa, .aa, .aa, .aa, .aa, .aa, .aa, .aa, .aa, .aa, .aa, .d (.i k)],ax o2 (n2+1) (mR (OE k)),n2+2⟩)
  (fun k=>k<=4) (fun k=>4 - k) 0 (Nat.zero_le _) (bt.aT _ (show 0<=n2+2 from ag) ag (gY _) (fun j hj=>rfl) ?_) (fun k hk=> ?_)
 ·exact cz
 replace hk:k<=4:=hk
 refine a8 ?_
 refine aj (fun h5=> ?_) (fun h5=> ?_)
 ·replace h5:k<4:=by simp at h5;omega
  have M0:=sF (OE k) (k*4+k) 1 (by rw[Ih];omega)
  rw[<- N6 h5]at M0
  have KJ:k*4+k+1<=(OE k).length:=by rw[Ih];omega
  simp+contextual (disch:=first|omega|simp only[go_sem,false_implies]) only[go_sem,wrap64,if_pos,Int.toNat_natCast,Nat.mul_one,M0,if_pos KJ]
  refine ak (k+1) h5 ag (bt.aT _ (show 0<=n2+2 from ag) ag (gY _) (fun j hj=>by rw[df]) ?_)
  exact cz
 have xh:k=4:=by simp at h5;omega
 subst xh
 rw[idP_4]
 refine rM ?_
 refine az (fun i:Nat=>⟨aU [.aa, .d (.sl (cy.map D.i)), .ptr 0 0, .aa, .aa, .aa, .ptr 19 0, .ptr (n2+1) 0, .aa, .aa, .aa, .aa, .aa, .aa, .aa, .aa, .aa, .aa, .aa, .aa, .aa, .aa, .aa, .aa, .aa, .aa, .aa, .aa, .aa, .aa, .aa, .aa, .aa, .aa, .aa, .aa, .aa, .aa, .aa, .aa, .aa, .d (.sl (cy.map D.i)), .d (.i cy.length), .d (.i i)],ax o2 (n2+1) (mR (BG l (cy.take i))),n2+2⟩)
  (fun i=>i<=cy.length/\∀k,k<i->Uh l cy k=true) (fun i=>cy.length - i) 0 ⟨Nat.zero_le _,fun k h=>absurd h (Nat.not_lt_zero _)⟩ (bt.aT _ (show 0<=n2+2 from ag) ag (gY _) (fun j hj=>rfl) ?_) (fun i hi=> ?_)
 ·exact cz
 obtain⟨hi,FX⟩:=hi
 refine a8 ?_
 refine aj (fun h6=> ?_) (fun h6=> ?_)
 ·simp at h6
  obtain⟨n,hn⟩:=aF h6
  have agq:(i+1)%cy.length<cy.length:=Nat.mod_lt _ ag
  obtain⟨b,hb⟩:=aF agq
  obtain⟨n0,c,hc⟩:=uV h4 hn
  obtain⟨b0,d,hd⟩:=uV h4 hb
  obtain⟨c1,c2,c3,c4,c5,c6⟩:=c
  obtain⟨d1,d2,d3,d4,d5,d6⟩:=d
  have hmc:=mT _ (List.mem_of_getElem? hc)
  have ik: ¬ ((cy.length:Int)=0):=ag
  have htm:((i:Int)+1).tmod (cy.length:Int)=(((i+1)%cy.length:Nat):Int):=by
   show Int.tmod (Int.ofNat (i+1)) (Int.ofNat cy.length)=_
   rfl
  have hl:Uh l cy i=(c3==d2):=by unfold Uh;rw[hn,hb];simp only;rw[hc,hd]
  have hmo:Ie l n=(pH c6).1:=by unfold Ie;rw[hc];rfl
  have hwt:=wQ l hn
  rw[hmo]at hwt
  have Ui:kP (pH c6).1:=hmc.GC
  have hw:=Ig mT (cy.take i)
  simp+contextual (disch:=first|omega|simp only[go_sem,false_implies]) only[go_sem,wrap64,if_pos,hn,q19,hc,hd,Cl.C5,List.length_map,Option.map_some,hb,if_neg ik,htm,Int.toNat_natCast]
  refine aH (aR rfl) ?_
  cases he:(c3==d2)with
  |false=>
   have Yi:(c3 !=d2)=true:=by rw[bne,he];rfl
   rw[he]at hl
   rw[QX h6 hl]
   exact uX Yi
  |true=>
   have Yi:(c3 !=d2)=false:=by rw[bne,he];rfl
   rw[he]at hl
   have hl6:c6.length<=1000000:=by
    have h1:=hmc.eq
    have h2:=AH (cM ⟨c1,c2,c3,c4,c5,c6⟩) 16
    simp only at h1
    rw[<- h1]at h2;omega
   simp+contextual (disch:=first|omega|simp only[go_sem,false_implies]) only[go_sem,wrap64,if_pos,Yi,hn,q19,hc,Cl.C5,List.length_map,Option.map_some]
   refine a7 (HH c6 hl6) ?_
   simp+contextual (disch:=first|omega|simp only[go_sem,false_implies]) only[go_sem,wrap64,if_pos,gR _ Ui.1,gR _ hw.1,bF,bw,bX _ Ui.1,bX _ hw.1]
   refine a7 (A0 _ _ hw.1 Ui.1) ?_
   have agR:(c7 (BG l (cy.take i)) (pH c6).1).length=16:=(jx hw Ui).1
   simp+contextual (disch:=first|omega|simp only[go_sem,false_implies]) only[go_sem,wrap64,if_pos,bw,bX _ hw.1]
   refine ak (i+1) ⟨h6,fun k hk=> ?_⟩ ag (bt.aT _ (show 0<=n2+2 from ag) ag (gY _) (fun j hj=> ?_) ?_)
   ·by_cases e:k=i
    ·rw[e];exact hl
    ·exact FX k ag
   ·rw[hwt]
    by_cases ej:j=n2+1
    ·subst ej;(repeat(first|rfl|rw[af]|rw[ae _ _ _ _ (by omega)]))
     rw[List.drop_eq_nil_of_le (by rw[bX _ hw.1];exact Nat.le_refl _),List.append_nil]
    ·exact fq
   ·exact cz
 ·simp at h6
  have Vn:i=cy.length:=ag
  subst Vn
  rw[List.take_length]
  have hlf:QW l cy=true:=List.all_eq_true.2 fun k hk=>FX k (List.mem_range.1 hk)
  have hw:=Ig mT cy
  rw[hlf]
  by_cases xS:l.length<=60
  ·have Ki:decide (60<(l.length:Int))=false:=by simp;omega
   simp+contextual (disch:=first|omega|simp only[go_sem,false_implies]) only[go_sem,wrap64,if_pos,q19,List.length_map,Ki,gR _ hw.1,bF,bw,bX _ hw.1]
   refine aD (Qj _ hw.1) rfl ?_
   simp+contextual (disch:=first|omega|simp only[go_sem,false_implies]) only[go_sem,wrap64,if_pos,if_pos xS]
  ·have Ki:decide (60<(l.length:Int))=true:=by simp;omega
   simp+contextual (disch:=first|omega|simp only[go_sem,false_implies]) only[go_sem,wrap64,if_pos,q19,List.length_map,Ki,if_neg xS]
end Go.Proofs.YtnkamdiiakdkgaaGreat
namespace Go.Proofs.YtnkamdiiakdkgaaGreat
structure cB where
 f:Int
 t:Int
 m:List Int
 deriving DecidableEq
def jk(g x:cB):cB:=⟨g.f,x.t,c7 g.m x.m⟩
def sV(c:Cl):cB:=⟨c.fr,c.to,cM c⟩
abbrev GS:=List (cB×List Int)
def gs(s:GS):List cB:=s.map Prod.fst
def pZ(s:GS)(g:cB)(c:List Int):Option GS:=if g∈gs s then some s else if s.length=500 then none else some (s++[(g,c)])
def xT(g:cB)(cg:List Int)(o:Option GS)(x:cB×List Int):Option GS:=o.bind fun s=>if g.t=x.1.f then pZ s (jk g x.1) (cg++x.2)else some s
def Ii(fs:GS)(g:cB)(cg:List Int)(s:GS):Option GS:=fs.foldl (xT g cg) (some s)
def OG(fs:GS)(o:Option GS)(i:Nat):Option GS:=o.bind fun s=>match s[i]? with
 |some x=>Ii fs x.1 x.2 s
 |none=>some s
def wT(fs:GS)(n:Nat):Option GS:=(List.range n).foldl (OG fs) (some fs)
def xU(l:List Cl)(s:GS)(n:Int):GS:=match l[n.toNat]? with
 |some c=>if sV c∈gs s then s else s++[(sV c,[n])]
 |none=>s
def fk(l:List Cl)(ns:List Int):GS:=ns.foldl (xU l) []
def pP(l:List cB)(g:cB):List cB:=if g∈l then l else l++[g]
def Bs(g:cB)(o:List cB)(x:cB):List cB:=if o.length<=500 then(if g.t=x.f then pP o (jk g x)else o)else o
def Ij(fs:List cB)(o:List cB)(i:Nat):List cB:=if o.length<=500 then(match o[i]? with
 |some g=>fs.foldl (Bs g) o
 |none=>o)else o
def lV(l:List Cl):List cB:=l.foldl (fun o c=>pP o (sV c)) []
def dv(fs:List cB)(n:Nat):List cB:=(List.range n).foldl (Ij fs) fs
def uu(s:Option GS)(o:List cB):Prop:=match s with
 |some s=>gs s=o/\o.length<=500
 |none=>500<o.length
theorem gV(s:GS):(gs s).length=s.length:=List.length_map _
theorem QY{s:GS}{o:List cB}(h:uu (some s) o)(g:cB)(c:List Int):uu (pZ s g c) (pP o g):=by
 obtain⟨h1,h2⟩:=h
 unfold pZ pP
 rw[h1]
 by_cases hg:g∈o
 ·rw[if_pos hg,if_pos hg];exact⟨h1,h2⟩
 ·rw[if_neg hg,if_neg hg]
  have hl:s.length=o.length:=by rw[<- h1,gV]
  by_cases h5:s.length=500
  ·rw[if_pos h5];show 500<_;rw[List.length_append,List.length_singleton];omega
  ·rw[if_neg h5]
   refine⟨by unfold gs;rw[List.map_append];show gs s++[g]=_;rw[h1], ?_⟩
   exact K4
theorem Yj{s:Option GS}{o:List cB}(h:uu s o)(g:cB)(cg:List Int)(x:cB×List Int):uu (xT g cg s x) (Bs g o x.1):=by
 cases s with
 |none=>have h:500<o.length:=h;unfold Bs;rw[if_neg (by omega)];exact h
 |some s=>
  unfold Bs xT
  rw[if_pos h.2,Option.bind_some]
  by_cases e:g.t=x.1.f
  ·rw[if_pos e,if_pos e];exact QY h _ _
  ·rw[if_neg e,if_neg e];exact h
theorem Ik(g:cB)(cg:List Int):∀ (fs:GS) {s:Option GS} {o:List cB},uu s o->uu (fs.foldl (xT g cg) s) ((gs fs).foldl (Bs g) o)
 |[],_,_,h=>h
 |x::fs,_,_,h=>Ik g cg fs (Yj h g cg x)
theorem QZ{s:Option GS}{o:List cB}(h:uu s o)(fs:GS)(i:Nat):uu (OG fs s i) (Ij (gs fs) o i):=by
 cases s with
 |none=>have h:500<o.length:=h;unfold Ij;rw[if_neg (by omega)];exact h
 |some s=>
  obtain⟨h1,h2⟩:=h
  unfold Ij OG
  rw[if_pos h2,Option.bind_some, <- h1]
  unfold gs
  rw[List.getElem?_map]
  cases s[i]? with
  |none=>exact⟨rfl,by rw[<- gs,h1];exact h2⟩
  |some x=>exact Ik x.1 x.2 fs ⟨rfl,by rw[<- gs,h1];exact h2⟩
theorem Eh(fs:GS):∀ (is:List Nat) {s:Option GS} {o:List cB},uu s o->uu (is.foldl (OG fs) s) (is.foldl (Ij (gs fs)) o)
 |[],_,_,h=>h
 |i::is,_,_,h=>Eh fs is (QZ h fs i)
theorem Kj{fs:GS}(h:fs.length<=500)(n:Nat):uu (wT fs n) (dv (gs fs) n):=Eh fs _ ⟨rfl,by rw[gV];exact h⟩
def Yk(l:List Cl)(ns:List Int):List Cl:=ns.filterMap fun n=>l[n.toNat]?
theorem Bt(l:List Cl):∀ (ns:List Int) (s:GS),gs (ns.foldl (xU l) s)=(Yk l ns).foldl (fun o c=>pP o (sV c)) (gs s)
 |[],s=>rfl
 |n::ns,s=>by
  rw[List.foldl_cons,Bt l ns]
  unfold Yk
  rw[List.filterMap_cons]
  unfold xU
  cases l[n.toNat]? with
  |none=>rfl
  |some c=>
   show _=List.foldl _ (pP (gs s) (sV c)) _
   congr 1
   unfold pP
   by_cases h:sV c∈gs s
   ·simp only[if_pos h]
   ·simp only[if_neg h];unfold gs;rw[List.map_append];rfl
theorem uW(l:List Cl):∀ (ns:List Int) (s:GS),(ns.foldl (xU l) s).length<=s.length+ns.length
 |[],s=>aI
 |n::ns,s=>by
  rw[List.foldl_cons]
  refine Nat.le_trans (uW l ns _) ?_
  have:(xU l s n).length<=s.length+1:=by
   unfold xU
   split
   ·split
    ·omega
    ·rw[List.length_append];exact Nat.le_refl _
   ·omega
  rw[List.length_cons];omega
theorem Ei(fs:GS){s:GS}:∀ (is:List Nat),(∀i∈is,s.length<=i)->is.foldl (OG fs) (some s)=some s
 |[],_=>rfl
 |i::is,h=>by
  rw[List.foldl_cons]
  have:OG fs (some s) i=some s:=by
   unfold OG
   rw[Option.bind_some,List.getElem?_eq_none (h i (by simp))]
  rw[this];exact Ei fs is fun j hj=>h j (by simp[hj])
theorem zF(fs:GS):∀ (is:List Nat),is.foldl (OG fs) none=none
 |[]=>rfl
 |_::is=>zF fs is
theorem wU(g:cB)(cg:List Int):∀ (fs:GS),fs.foldl (xT g cg) none=none
 |[]=>rfl
 |_::fs=>wU g cg fs
theorem tS{n m:Nat}(h:n<=m):List.range m=List.range n++List.range' n (m - n):=by
 have:=List.range'_append (s:=0) (m:=n) (n:=m - n) (step:=1)
 simp only[Nat.one_mul,Nat.zero_add]at this
 rw[List.range_eq_range',List.range_eq_range',this];congr 1;omega
theorem Kk{fs s:GS}{n m:Nat}(h:wT fs n=some s)(hn:s.length<=n)(hm:n<=m):wT fs m=some s:=by
 unfold wT at h|-
 rw[tS hm,List.foldl_append,h]
 exact Ei fs _ fun i hi=>by have:=List.mem_range'_1.1 hi;omega
theorem Q0{fs:GS}{n m:Nat}(h:wT fs n=none)(hm:n<=m):wT fs m=none:=by
 unfold wT at h|-
 rw[tS hm,List.foldl_append,h,zF]
theorem sW(fs:GS)(n:Nat):wT fs (n+1)=OG fs (wT fs n) n:=by unfold wT;rw[List.range_succ,List.foldl_append];rfl
theorem oB(fs:List cB)(n:Nat):dv fs (n+1)=Ij fs (dv fs n) n:=by unfold dv;rw[List.range_succ,List.foldl_append];rfl
theorem N7{fs:GS}{g:cB}{cg:List Int}{s:GS}{k:Nat}{x:cB×List Int}(h:fs[k]? =some x):Ii (fs.take (k+1)) g cg s=xT g cg (Ii (fs.take k) g cg s) x:=by
 unfold Ii;rw[List.take_add_one,h,List.foldl_append];rfl
theorem Kl{l:List Cl}{ns:List Int}{k:Nat}{n:Int}(h:ns[k]? =some n):fk l (ns.take (k+1))=xU l (fk l (ns.take k)) n:=by
 unfold fk;rw[List.take_add_one,h,List.foldl_append];rfl
theorem wV{o:List cB}{g x:cB}:x∈pP o g↔x∈o\/x=g:=by
 unfold pP
 split
 ·rename_i h
  exact⟨.inl,fun h'=>h'.elim id fun e=>e ▸ h⟩
 ·rw[List.mem_append,List.mem_singleton]
theorem wW{o:List cB}(h:o.Nodup)(g:cB):(pP o g).Nodup:=by
 unfold pP
 split
 ·exact h
 ·rename_i hg
  rw[List.nodup_append]
  refine⟨h,aI,fun a ha b hb e=> ?_⟩
  rw[List.mem_singleton]at hb
  exact hg (hb ▸ e ▸ ha)
theorem N8(o:List cB)(g:cB):∃t,pP o g=o++t:=by
 unfold pP
 split
 ·exact⟨[],aI⟩
 ·exact⟨[g],rfl⟩
theorem Il(g:cB)(o:List cB)(x:cB):∃t,Bs g o x=o++t:=by
 unfold Bs
 split
 ·split
  ·exact N8 _ _
  ·exact⟨[],aI⟩
 ·exact⟨[],aI⟩
theorem wX(g:cB):∀ (fs o:List cB),∃t,fs.foldl (Bs g) o=o++t
 |[],o=>⟨[],aI⟩
 |x::fs,o=>by
  obtain⟨t,ht⟩:=Il g o x
  obtain⟨u,hu⟩:=wX g fs (Bs g o x)
  exact⟨t++u,by rw[List.foldl_cons,hu,ht,List.append_assoc]⟩
theorem Im(fs o:List cB)(i:Nat):∃t,Ij fs o i=o++t:=by
 unfold Ij
 split
 ·split
  ·exact wX _ _ _
  ·exact⟨[],aI⟩
 ·exact⟨[],aI⟩
theorem Q1{P:cB->Prop}{g x:cB}(h:g.t=x.f->P (jk g x)){o:List cB}(ho:∀y∈o,P y):∀y∈Bs g o x,P y:=by
 unfold Bs
 split
 ·split
  ·rename_i e
   intro y hy
   rcases wV.1 hy with h'|h'
   ·exact ho y h'
   ·exact h' ▸ h e
  ·exact ho
 ·exact ho
theorem Ej{P:cB->Prop}{g:cB}:∀ (fs:List cB) {o:List cB},(∀x∈fs,g.t=x.f->P (jk g x))->(∀y∈o,P y)->∀y∈fs.foldl (Bs g) o,P y
 |[],_,_,ho=>ho
 |x::fs,_,h,ho=>Ej fs (fun y hy=>h y kD) (Q1 (h x aI) ho)
theorem Ek{P:cB->Prop}{fs:List cB}(h0:∀x∈fs,P x)(h1:∀g x,P g->x∈fs->g.t=x.f->P (jk g x)):∀n,∀y∈dv fs n,P y
 |0=>h0
 |n+1=>by
  rw[oB]
  have ih:=Ek h0 h1 n
  unfold Ij
  split
  ·split
   ·rename_i g hg
    exact Ej fs (fun x hx e=>h1 g x (ih g (List.mem_of_getElem? hg)) hx e) ih
   ·exact ih
  ·exact ih
theorem wY(g:cB):∀ (fs:List cB) {o:List cB},o.Nodup->(fs.foldl (Bs g) o).Nodup
 |[],_,h=>h
 |x::fs,o,h=>wY g fs (by
   unfold Bs
   split
   ·split
    ·exact wW h _
    ·exact h
   ·exact h)
theorem mF{fs:List cB}(h:fs.Nodup):∀n,(dv fs n).Nodup
 |0=>h
 |n+1=>by
  rw[oB]
  unfold Ij
  split
  ·split
   ·exact wY _ _ (mF h n)
   ·exact mF h n
  ·exact mF h n
theorem El(g:cB):∀ (fs o:List cB),(fs.foldl (Bs g) o).length<=500->∀x∈fs,g.t=x.f->jk g x∈fs.foldl (Bs g) o
 |[],_,_,x,hx,_=>absurd hx aI
 |y::fs,o,hl,x,hx,e=>by
  rw[List.foldl_cons]at hl|-
  rcases List.mem_cons.1 hx with h|h
  ·subst h
   obtain⟨t,ht⟩:=wX g fs (Bs g o x)
   obtain⟨u,hu⟩:=Il g o x
   have ua:o.length<=500:=by
    rw[ht,hu,List.length_append,List.length_append]at hl;omega
   rw[ht]
   refine List.mem_append_left _ ?_
   unfold Bs
   rw[if_pos ua,if_pos e]
   exact wV.2 (.inr rfl)
  ·exact El g fs _ hl x h e
theorem sX{fs:List cB}:∀n,(dv fs n).length<=500->∀j,j<n->∀g,(dv fs n)[j]? =some g->∀x∈fs,g.t=x.f->jk g x∈dv fs n
 |0,_,j,hj,_,_,_,_,_=>absurd hj ag
 |n+1,hl,j,hj,g,hg,x,hx,e=>by
  rw[oB]at hl hg|-
  obtain⟨t,ht⟩:=Im fs (dv fs n) n
  have ua:(dv fs n).length<=500:=by rw[ht,List.length_append]at hl;omega
  by_cases hn:(dv fs n).length<=n
  ·have e1:Ij fs (dv fs n) n=dv fs n:=by
    unfold Ij;rw[if_pos ua,List.getElem?_eq_none hn]
   rw[e1]at hg|-
   have GK:j<n:=by
    have:=(List.getElem?_eq_some_iff.1 hg).1;omega
   exact sX n ua j GK g hg x hx e
  ·have oX:(dv fs n)[j]? =some g:=by
    rw[ht,List.getElem?_append_left (by omega)]at hg;exact hg
   rcases Nat.lt_or_ge j n with h|h
   ·rw[ht];exact List.mem_append_left _ (sX n ua j h g oX x hx e)
   ·have:j=n:=ag
    subst this
    have e1:Ij fs (dv fs j) j=fs.foldl (Bs g) (dv fs j):=by unfold Ij;rw[if_pos ua,oX]
    rw[e1]at hl|-
    exact El g fs _ hl x hx e
theorem tT{fs:List cB}(hl:(dv fs 501).length<=500){g x:cB}(hg:g∈dv fs 501)(hx:x∈fs)(e:g.t=x.f):jk g x∈dv fs 501:=by
 obtain⟨j,hj⟩:=List.mem_iff_getElem?.1 hg
 have:=(List.getElem?_eq_some_iff.1 hj).1
 exact sX 501 hl j ag g hj x hx e
theorem pQ{fs:List cB}:∀n,∀x∈fs,x∈dv fs n
 |0,x,hx=>hx
 |n+1,x,hx=>by
  rw[oB]
  obtain⟨t,ht⟩:=Im fs (dv fs n) n
  rw[ht];exact List.mem_append_left _ (pQ n x hx)
theorem Io:∀ (a:List cB) (b:List cB),a.Nodup->(∀x∈a,x∈b)->a.length<=b.length
 |[],_,_,_=>aI
 |x::a,b,h,hs=>by
  rw[List.nodup_cons]at h
  have:=Io a (b.erase x) h.2 fun y hy=>by
   have ik:y≠x:=fun e=>h.1 (e ▸ hy)
   exact(List.mem_erase_of_ne ik).2 (hs y kD)
  have hx:=hs x aI
  rw[List.length_erase_of_mem hx]at this
  have:0<b.length:=List.length_pos_of_mem hx
  rw[List.length_cons];omega
theorem Km{fs fs':List cB}(hl:(dv fs 501).length<=500)(hn:fs'.Nodup)(hs:∀x∈fs',x∈fs):(∀x∈dv fs' 501,x∈dv fs 501)/\(dv fs' 501).length<=500:=by
 have h1:∀x∈dv fs' 501,x∈dv fs 501:=
  Ek (P:=fun x=>x∈dv fs 501) (fun x hx=>pQ 501 x (hs x hx)) (fun g x hg hx e=>tT hl hg (hs x hx) e) 501
 exact⟨h1,Nat.le_trans (Io _ _ (mF hn 501) h1) hl⟩
theorem rE{l:List Cl}:∀ {g:cB},g∈lV l↔∃c∈l,g=sV c:=by
 have:∀ (l:List Cl) (o:List cB) (g:cB),g∈l.foldl (fun o c=>pP o (sV c)) o↔g∈o\/∃c∈l,g=sV c:=by
  intro l
  induction l with
  |nil=>intro o g;simp
  |cons c l ih=>
   intro o g
   rw[List.foldl_cons,ih,wV]
   constructor
   ·rintro((h|h)|⟨d,hd,h⟩)
    ·exact .inl h
    ·exact .inr ⟨c,aI,h⟩
    ·exact .inr ⟨d,by simp[hd],h⟩
   ·rintro(h|⟨d,hd,h⟩)
    ·exact .inl (.inl h)
    ·rcases List.mem_cons.1 hd with e|e
     ·exact .inl (.inr (e ▸ h))
     ·exact .inr ⟨d,e,h⟩
 intro g
 unfold lV
 rw[this];simp
theorem pR(l:List Cl):(lV l).Nodup:=by
 have:∀ (l:List Cl) (o:List cB),o.Nodup->(l.foldl (fun o c=>pP o (sV c)) o).Nodup:=by
  intro l
  induction l with
  |nil=>intro o h;exact h
  |cons c l ih=>intro o h;exact ih _ (wW h _)
 exact this l [] List.nodup_nil
def fN(l:List Cl)(w:Cl->Bool)(k:Nat):List Int:=(List.range k).filterMap fun n:Nat=>match l[n]? with
 |some c=>if w c=true then some (n:Int)else none
 |none=>none
theorem zG(l:List Cl)(w:Cl->Bool){k:Nat}{c:Cl}(h:l[k]? =some c):fN l w (k+1)=if w c=true then fN l w k++[(k:Int)]else fN l w k:=by
 unfold fN
 rw[List.range_succ,List.filterMap_append]
 simp only[List.filterMap_cons,List.filterMap_nil,h]
 split
 ·rename_i h;split at h<;>simp_all
 ·rename_i b h;split at h<;>simp_all
theorem rF{l:List Cl}{w:Cl->Bool}{k:Nat}{n:Int}(h:n∈fN l w k):0<=n/\∃c,l[n.toNat]? =some c/\w c=true:=by
 unfold fN at h
 obtain⟨i,hi,e⟩:=List.mem_filterMap.1 h
 split at e
 ·rename_i c hc
  split at e
  ·rename_i hw
   cases e
   exact⟨ag,c,by rw[Int.toNat_natCast];exact hc,hw⟩
  ·cases e
 ·cases e
theorem wZ(l:List Cl)(w:Cl->Bool)(k:Nat):(fN l w k).length<=k:=by
 unfold fN
 refine Nat.le_trans (List.length_filterMap_le _ _) ?_
 rw[List.length_range];exact Nat.le_refl _
theorem Ip(l:List Cl)(w:Cl->Bool):∀k,k<=l.length->Yk l (fN l w k)=(l.take k).filter w
 |0,_=>by simp[fN,Yk]
 |k+1,hk=>by
  have ih:=Ip l w k ag
  obtain⟨c,hc⟩:=aF (l:=l) (k:=k) ag
  rw[zG l w hc,List.take_add_one,hc,Option.toList_some,List.filter_append]
  unfold Yk at ih|-
  split
  ·rename_i hw
   rw[List.filterMap_append,ih]
   simp[List.filterMap_cons,hc,hw]
  ·rename_i hw
   rw[ih];simp[hw]
theorem Yl(l:List Cl)(w:Cl->Bool):gs (fk l (fN l w l.length))=lV (l.filter w):=by
 unfold fk
 rw[Bt,Ip l w _ (Nat.le_refl _),List.take_length];rfl
inductive Wk (l:List Cl) (w:Cl->Bool):List Int->Int->Int->List Int->Prop
 |one {n:Int} {c:Cl}:0<=n->l[n.toNat]? =some c->w c=true->Wk l w [n] c.fr c.to (cM c)
 |snoc {q:List Int} {a b:Int} {m:List Int} {n:Int} {c:Cl}:Wk l w q a b m->0<=n->l[n.toNat]? =some c->w c=true->b=c.fr->Wk l w (q++[n]) a c.to (c7 m (cM c))
theorem Q2{P:cB×List Int->Prop}{s s':GS}{g:cB}{c:List Int}(h:pZ s g c=some s')(hs:∀y∈s,P y)(hg:P (g,c)):∀y∈s',P y:=by
 unfold pZ at h
 split at h
 ·cases h;exact hs
 ·split at h
  ·cases h
  ·cases h
   intro y hy
   rcases List.mem_append.1 hy with h'|h'
   ·exact hs y h'
   ·rw[List.mem_singleton.1 h'];exact hg
theorem Iq{P:cB×List Int->Prop}{g:cB}{cg:List Int}:∀ (fs:GS) {s s':GS},(∀x∈fs,g.t=x.1.f->P (jk g x.1,cg++x.2))->Ii fs g cg s=some s'->(∀y∈s,P y)->∀y∈s',P y
 |[],s,s',_,h,hs=>by unfold Ii at h;cases h;exact hs
 |x::fs,s,s',hx,h,hs=>by
  unfold Ii at h
  rw[List.foldl_cons]at h
  cases h1:xT g cg (some s) x with
  |none=>rw[h1,wU]at h;cases h
  |some s1=>
   rw[h1]at h
   refine Iq fs (fun y hy=>hx y kD) h ?_
   unfold xT at h1
   rw[Option.bind_some]at h1
   split at h1
   ·rename_i e;exact Q2 h1 hs (hx x aI e)
   ·cases h1;exact hs
theorem Ir{P:cB×List Int->Prop}{fs:GS}(h0:∀x∈fs,P x)(h1:∀y x,P y->x∈fs->y.1.t=x.1.f->P (jk y.1 x.1,y.2++x.2)):∀n s,wT fs n=some s->∀y∈s,P y
 |0,s,h=>by cases h;exact h0
 |n+1,s,h=>by
  rw[sW]at h
  cases e:wT fs n with
  |none=>rw[e]at h;cases h
  |some s0=>
   have ih:=Ir h0 h1 n s0 e
   rw[e]at h
   unfold OG at h
   rw[Option.bind_some]at h
   split at h
   ·rename_i x hx
    exact Iq fs (fun z hz e=>h1 x z (ih x (List.mem_of_getElem? hx)) hz e) h ih
   ·cases h;exact ih
theorem p9(l:List Cl)(ns:List Int):∀x∈fk l ns,∃n∈ns,∃c,l[n.toNat]? =some c/\x=(sV c,[n]):=by
 have:∀ (ns:List Int) (s:GS),∀x∈ns.foldl (xU l) s,x∈s\/∃n∈ns,∃c,l[n.toNat]? =some c/\x=(sV c,[n]):=by
  intro ns
  induction ns with
  |nil=>intro s x hx;exact .inl hx
  |cons n ns ih=>
   intro s x hx
   rcases ih _ x hx with h|⟨k,hk,h⟩
   ·unfold xU at h
    split at h
    ·rename_i c hc
     split at h
     ·exact .inl h
     ·rcases List.mem_append.1 h with h|h
      ·exact .inl h
      ·exact .inr ⟨n,aI,c,hc,List.mem_singleton.1 h⟩
    ·exact .inl h
   ·exact .inr ⟨k,by simp[hk],h⟩
 intro x hx
 rcases this ns [] x hx with h|h
 ·cases h
 ·exact h
theorem N9{l:List Cl}{w:Cl->Bool}{n:Nat}{s:GS}(h:wT (fk l (fN l w l.length)) n=some s):∀y∈s,Wk l w y.2 y.1.f y.1.t y.1.m:=by
 refine Ir (P:=fun y=>Wk l w y.2 y.1.f y.1.t y.1.m) (fun x hx=> ?_) (fun y x hy hx e=> ?_) n s h
 ·obtain⟨k,hk,c,hc,rfl⟩:=p9 l _ x hx
  obtain⟨h0,c',s8,hw⟩:=rF hk
  rw[hc]at s8;cases s8
  exact .one h0 hc hw
 ·obtain⟨k,hk,c,hc,rfl⟩:=p9 l _ x hx
  obtain⟨h0,c',s8,hw⟩:=rF hk
  rw[hc]at s8;cases s8
  exact .snoc hy h0 hc hw e
theorem Wk.GC {l:List Cl}{w:Cl->Bool}(hl:∀c∈l,pO c){q:List Int}{a b:Int}{m:List Int}(h:Wk l w q a b m):kP m:=by
 induction h with
 |one _ hc _=>exact(hl _ (List.mem_of_getElem? hc)).GC
 |snoc _ _ hc _ _ ih=>exact jx ih (hl _ (List.mem_of_getElem? hc)).GC
theorem Wk.data {l:List Cl}{w:Cl->Bool}(hl:∀c∈l,pO c){q:List Int}{a b:Int}{m:List Int}(h:Wk l w q a b m):
 0<q.length/\(∀n∈q,0<=n/\∃c,l[n.toNat]? =some c/\w c=true)/\BG l q=m/\
 (∃n c,q[0]? =some n/\l[n.toNat]? =some c/\c.fr=a)/\(∃n c,q[q.length - 1]? =some n/\l[n.toNat]? =some c/\c.to=b)/\
 (∀k,k+1<q.length->∃x y c d,q[k]? =some x/\q[k+1]? =some y/\l[x.toNat]? =some c/\l[y.toNat]? =some d/\c.to=d.fr):=by
 induction h with
 | @one n c h0 hc hw=>
   refine⟨aI,fun k hk=> ?_, ?_,⟨n,c,rfl,hc,rfl⟩,⟨n,c,rfl,hc,rfl⟩,fun k hk=> ?_⟩
   ·rw[List.mem_singleton.1 hk];exact⟨h0,c,hc,hw⟩
   ·show c7 qQ (Ie l n)=_
    unfold Ie;rw[hc]
    exact Hh (hl _ (List.mem_of_getElem? hc)).GC
   ·simp only[List.length_singleton]at hk;omega
 | @snoc q a b m n c hq h0 hc hw hb ih=>
   obtain⟨i1,i2,i3,⟨n0,c0,i4,i5,i6⟩,⟨n1,c1,j1,j2,j3⟩,i7⟩:=ih
   have hlen:(q++[n]).length=q.length+1:=aI
   have Hn:(q++[n])[q.length]? =some n:=by rw[List.getElem?_append_right (Nat.le_refl _)];simp
   refine⟨ag,fun k hk=> ?_, ?_,⟨n0,c0,by rw[List.getElem?_append_left i1];exact i4,i5,i6⟩,⟨n,c,by rw[hlen];exact Hn,hc,rfl⟩,fun k hk=> ?_⟩
   ·rcases List.mem_append.1 hk with h|h
    ·exact i2 k h
    ·rw[List.mem_singleton.1 h];exact⟨h0,c,hc,hw⟩
   ·rw[Ee,i3];unfold Ie;rw[hc]
   ·rw[hlen]at hk
    rcases Nat.lt_or_ge (k+1) q.length with h|h
    ·obtain⟨x,y,e,d,h1,h2,h3,h4,h5⟩:=i7 k h
     exact⟨x,y,e,d,by rw[List.getElem?_append_left (by omega)];exact h1,by rw[List.getElem?_append_left h];exact h2,h3,h4,h5⟩
    ·have:k=q.length - 1:=ag
     subst this
     exact⟨n1,n,c1,c,by rw[List.getElem?_append_left (by omega)];exact j1,by rw[show q.length - 1+1=q.length by omega];exact Hn,j2,hc,by rw[j3,hb]⟩
theorem Wk.cyc {l:List Cl}{w:Cl->Bool}(hl:∀c∈l,pO c){q:List Int}{a:Int}{m:List Int}(h:Wk l w q a a m)(h40:q.length<=40):oL l q=true:=by
 obtain⟨i1,i2,i3,⟨n0,c0,i4,i5,i6⟩,⟨n1,c1,j1,j2,j3⟩,i7⟩:=h.data hl
 unfold oL dR
 simp only[Bool.and_eq_true,decide_eq_true_eq]
 refine⟨⟨ag,ag⟩,List.all_eq_true.2 fun n hn=> ?_,List.all_eq_true.2 fun k hk=> ?_⟩
 ·obtain⟨h0,c,hc,_⟩:=i2 n hn
  have:=(List.getElem?_eq_some_iff.1 hc).1
  simp only[Bool.and_eq_true,decide_eq_true_eq];omega
 ·have hk:=List.mem_range.1 hk
  unfold Uh
  rcases Nat.lt_or_ge (k+1) q.length with h'|h'
  ·obtain⟨x,y,e,d,h1,h2,h3,h4,h5⟩:=i7 k h'
   rw[Nat.mod_eq_of_lt h',h1,h2]
   simp only[h3,h4,h5,beq_self_eq_true]
  ·have e:k=q.length - 1:=ag
   rw[show k+1=q.length by omega,Nat.mod_self,e,j1,i4]
   simp only[j2,i5,j3,i6,beq_self_eq_true]
def ki(g:cB):Bool:=g.f==g.t&&(decide (c7 g.m g.m=g.m)&&(List.range 4).all fun i=>mg g.m i i !=2)
theorem rG{g:cB}:ki g=true↔g.f=g.t/\c7 g.m g.m=g.m/\∀i,i<4->mg g.m i i≠2:=by
 unfold ki
 simp only[Bool.and_eq_true,beq_iff_eq,decide_eq_true_eq,List.all_eq_true,List.mem_range,bne_iff_ne]
def iB:GS->Bool×List Int
 |[]=>(true,[])
 |x::s=>if ki x.1=true then(false,if x.2.length<=40 then x.2 else(iB s).2)else iB s
theorem Is:∀s:GS,(iB s).1= !(gs s).any ki
 |[]=>rfl
 |x::s=>by
  unfold iB
  show _= !(ki x.1||(gs s).any ki)
  by_cases h:ki x.1=true
  ·rw[if_pos h,h];rfl
  ·rw[if_neg h,Is s];simp[h]
theorem w7:∀s:GS,(iB s).2=[]\/∃x∈s,ki x.1=true/\x.2.length<=40/\(iB s).2=x.2
 |[]=> .inl rfl
 |x::s=>by
  have ih:=w7 s
  unfold iB
  by_cases h:ki x.1=true
  ·rw[if_pos h]
   by_cases h4:x.2.length<=40
   ·exact .inr ⟨x,aI,h,h4,by rw[if_pos h4]⟩
   ·dsimp only
    rw[if_neg h4]
    rcases ih with e|⟨y,hy,h'⟩
    ·exact .inl e
    ·exact .inr ⟨y,by simp[hy],h'⟩
  ·rw[if_neg h]
   rcases ih with e|⟨y,hy,h'⟩
   ·exact .inl e
   ·exact .inr ⟨y,by simp[hy],h'⟩
theorem It:∀s:GS,(iB s).1=true->(iB s).2=[]
 |[],_=>rfl
 |x::s,h=>by
  unfold iB at h|-
  by_cases hb:ki x.1=true
  ·rw[if_pos hb]at h;cases h
  ·rw[if_neg hb]at h|-;exact It s h
def Q3:Option GS->Bool×List Int×Int
 |some s=>((iB s).1,(iB s).2,0)
 |none=>(false,[],3)
def pS(l:List Cl)(w:Cl->Bool):Bool×List Int×Int:=Q3 (wT (fk l (fN l w l.length)) 501)
theorem Iu(l:List Cl)(w:Cl->Bool):pS l w=Q3 (wT (fk l (fN l w l.length)) 501):=rfl
def nW(l:List Cl):Bool:= !(dv (lV l) 501).any ki
theorem w8{l:List Cl}(hl:∀c∈l,pO c)(xS:l.length<=60)(w:Cl->Bool):
 (500<(dv (lV (l.filter w)) 501).length/\pS l w=(false,[],3))\/
 ((dv (lV (l.filter w)) 501).length<=500/\∃q,pS l w=(nW (l.filter w),q,0)/\(nW (l.filter w)=true->q=[])/\q.length<=40/\
   (q≠[]->oL l q=true/\kR (BG l q)=false/\∀n∈q,0<=n/\∃c,l[n.toNat]? =some c/\w c=true)):=by
 have m8:(fk l (fN l w l.length)).length<=500:=by
  have h1:=uW l (fN l w l.length) []
  have h2:=wZ l w l.length
  have h3:(fk l (fN l w l.length)).length<=([]:GS).length+(fN l w l.length).length:=h1
  simp only[List.length_nil]at h3
  omega
 have xB:∀n,uu (wT (fk l (fN l w l.length)) n) (dv (lV (l.filter w)) n):=fun n=>by rw[<- Yl];exact Kj m8 n
 rw[Iu]
 unfold nW
 generalize 501=n
 have hr:=xB n
 revert hr
 generalize hs:wT (fk l (fN l w l.length)) n=o
 intro hr
 cases o with
 |none=>exact .inl ⟨hr,rfl⟩
 |some s=>
  obtain⟨h1,h2⟩:=hr
  have e:(iB s).1= !(dv (lV (l.filter w)) n).any ki:=by rw[Is,h1]
  refine .inr ⟨h2,(iB s).2,by show((iB s).1,_,_)=_;rw[e],fun h=>It s (e.trans h), ?_,fun ik=> ?_⟩
  ·rcases w7 s with h|⟨x,_,_,h,h'⟩
   ·rw[h];decide
   ·rw[h'];exact h
  ·rcases w7 s with h|⟨x,hx,hb,h40,h'⟩
   ·exact absurd h ik
   ·have hw:=N9 hs x hx
    obtain⟨b1,b2,b3⟩:=rG.1 hb
    rw[<- b1]at hw
    rw[h']
    refine⟨hw.cyc hl h40, ?_,(hw.data hl).2.1⟩
    rw[(hw.data hl).2.2.1]
    cases hf:kR x.1.m with
    |false=>rfl
    |true=>
     obtain⟨i,hi,h2⟩:=(vN b2).1 ((tD (hw.GC hl)).1 hf)
     exact absurd h2 (b3 i hi)
theorem Wk.append {l:List Cl}{w:Cl->Bool}(hl:∀c∈l,pO c){q:List Int}{a b:Int}{m:List Int}(h:Wk l w q a b m){q':List Int}{b' c:Int}{m':List Int}(h':Wk l w q' b' c m')(e:b=b'):
 Wk l w (q++q') a c (c7 m m'):=by
 induction h' with
 |one h0 hc hw=>exact .snoc h h0 hc hw e
 | @snoc q' b' d m' n c hq h0 hc hw hb ih=>
   have i:=ih e
   rw[<- List.append_assoc, <- yV (h.GC hl) (hq.GC hl) (hl _ (List.mem_of_getElem? hc)).GC]
   exact .snoc i h0 hc hw hb
theorem Wk.mem {l:List Cl}{w:Cl->Bool}(hg:(dv (lV (l.filter w)) 501).length<=500){q:List Int}{a b:Int}{m:List Int}(h:Wk l w q a b m):(⟨a,b,m⟩:cB)∈dv (lV (l.filter w)) 501:=by
 induction h with
 | @one n c h0 hc hw=>
   exact pQ 501 (sV c) (rE.2 ⟨c,List.mem_filter.2 ⟨List.mem_of_getElem? hc,hw⟩,rfl⟩)
 | @snoc q a b m n c hq h0 hc hw hb ih=>
   exact tT (g:=⟨a,b,m⟩) (x:=sV c) hg ih (rE.2 ⟨c,List.mem_filter.2 ⟨List.mem_of_getElem? hc,hw⟩,rfl⟩) hb
theorem Oa{l:List Cl}{w:Cl->Bool}(hl:∀c∈l,pO c){q:List Int}{a:Int}{m:List Int}(h:Wk l w q a a m):∀k,∃q',Wk l w q' a a (kQ m k)
 |0=>⟨q,h⟩
 |k+1=>by
  obtain⟨q',h'⟩:=Oa hl h k
  exact⟨q'++q,h'.append hl h rfl⟩
theorem Ym{l:List Cl}(hl:∀c∈l,pO c){cy:List Int}(h:oL l cy=true):∃a,Wk l (fun _=>true) cy a a (BG l cy):=by
 unfold oL dR at h
 simp only[Bool.and_eq_true,decide_eq_true_eq]at h
 obtain⟨⟨h0,_⟩,jb,FX⟩:=h
 have hn:0<cy.length:=ag
 obtain⟨n0,Yn⟩:=aF (l:=cy) (k:=0) hn
 obtain⟨p0,c0,KA⟩:=uV jb Yn
 have hw:∀k,k<cy.length->∃n c,cy[k]? =some n/\l[n.toNat]? =some c/\Wk l (fun _=>true) (cy.take (k+1)) c0.fr c.to (BG l (cy.take (k+1))):=by
  intro k
  induction k with
  |zero=>
   intro _
   refine⟨n0,c0,Yn,KA, ?_⟩
   rw[wQ l Yn,List.take_add_one,Yn,List.take_zero]
   show Wk l _ [n0] _ _ (c7 qQ (Ie l n0))
   unfold Ie
   rw[KA,Hh (hl _ (List.mem_of_getElem? KA)).GC]
   exact .one p0 KA rfl
  |succ k ih=>
   intro hk
   obtain⟨n,c,h1,h2,h3⟩:=ih ag
   obtain⟨n',ma⟩:=aF (l:=cy) (k:=k+1) hk
   obtain⟨p',c',mJ⟩:=uV jb ma
   refine⟨n',c',ma,mJ, ?_⟩
   rw[wQ l ma,List.take_add_one (l:=cy) (i:=k+1),ma,Option.toList_some]
   have hb:c.to=c'.fr:=by
    have:=List.all_eq_true.1 FX k (List.mem_range.2 ag)
    unfold Uh at this
    rw[Nat.mod_eq_of_lt hk,h1,ma]at this
    simpa only[h2,mJ,beq_iff_eq]using this
   have:Ie l n'=cM c':=by unfold Ie;rw[mJ]
   rw[this]
   exact .snoc h3 p' mJ rfl hb
 obtain⟨n,c,h1,h2,h3⟩:=hw (cy.length - 1) ag
 rw[show cy.length - 1+1=cy.length by omega,List.take_length]at h3
 refine⟨c0.fr, ?_⟩
 have hb:c.to=c0.fr:=by
  have:=List.all_eq_true.1 FX (cy.length - 1) (List.mem_range.2 ag)
  unfold Uh at this
  rw[show cy.length - 1+1=cy.length by omega,Nat.mod_self,h1,Yn]at this
  simpa only[h2,KA,beq_iff_eq]using this
 rw[hb]at h3
 exact h3
theorem iU(l:List Cl):l.filter (fun _=>true)=l:=aI
theorem Kn{l:List Cl}(hl:∀c∈l,pO c)(hg:(dv (lV l) 501).length<=500)(he:nW l=true){cy:List Int}(h:oL l cy=true):kR (BG l cy)=true:=by
 obtain⟨a,hw⟩:=Ym hl h
 have hm:=hw.GC hl
 rw[tD hm]
 have qw:∀k,(⟨a,a,kQ (BG l cy) k⟩:cB)∈dv (lV l) 501:=by
  intro k
  obtain⟨q,hq⟩:=Oa hl hw k
  have:=hq.mem (by rw[iU];exact hg)
  rw[iU]at this
  exact this
 obtain⟨k,hk⟩:=PM hm ((dv (lV l) 501).map cB.m) fun k=>List.mem_map.2 ⟨_,qw k,rfl⟩
 rw[<- Mq hm k,vN hk]
 unfold nW at he
 rw[Bool.not_eq_true',List.any_eq_false]at he
 have hb:=he _ (qw k)
 apply Classical.byContradiction
 intro hc
 exact hb (rG.2 ⟨rfl,hk,fun i hi h2=>hc ⟨i,hi,h2⟩⟩)
theorem zH{l l':List Cl}(hs:∀c∈l',∃d∈l,sV c=sV d)(hg:(dv (lV l) 501).length<=500)(he:nW l=true):(dv (lV l') 501).length<=500/\nW l'=true:=by
 obtain⟨h1,h2⟩:=Km hg (pR l') (fun x hx=>by
  obtain⟨c,hc,rfl⟩:=rE.1 hx
  obtain⟨d,hd,e⟩:=hs c hc
  exact rE.2 ⟨d,hd,e⟩)
 refine⟨h2, ?_⟩
 unfold nW at he|-
 rw[Bool.not_eq_true',List.any_eq_false]at he|-
 exact fun g h=>he g (h1 g h)
theorem Ko{l:List Cl}(w:Cl->Bool)(hg:(dv (lV l) 501).length<=500)(he:nW l=true):(dv (lV (l.filter w)) 501).length<=500/\nW (l.filter w)=true:=
 zH (fun c hc=>⟨c,(List.mem_filter.1 hc).1,rfl⟩) hg he
theorem w9{α β:Type}{f g:α->List β}:∀ {l:List α},(∀x∈l,(f x).Sublist (g x))->(l.flatMap f).Sublist (l.flatMap g)
 |[],_=>List.Sublist.refl _
 |x::l,h=>by
  rw[List.flatMap_cons,List.flatMap_cons]
  exact(h x aI).append (w9 fun y hy=>h y kD)
theorem Em{α β:Type}{f:α->List β}{a b:List α}(h:a.Sublist b):(a.flatMap f).Sublist (b.flatMap f):=by
 induction h with
 |slnil=>exact Gx
 |cons x h ih=>rw[List.flatMap_cons];exact ih.trans (List.sublist_append_right _ _)
 |cons_cons x h ih=>rw[List.flatMap_cons,List.flatMap_cons];exact(List.Sublist.refl _).append ih
def Yo(ps:List Int)(r:Rl):List cB:=(T8 ps 0 r).map sV
theorem Yp(ps:List Int)(n k:Int)(r:Rl)(x:Sp):(Ez ps n r x).map sV=(Ez ps k r x).map sV:=by
 unfold Ez
 split
 ·rfl
 ·split
  ·rw[List.map_map,List.map_map];rfl
  ·rfl
theorem Yq(ps:List Int)(n:Int)(r:Rl):(T8 ps n r).map sV=Yo ps r:=by
 unfold Yo T8
 rw[List.map_flatMap,List.map_flatMap]
 congr 1
 funext x
 exact Yp ps n 0 r x
theorem Iv(p:Pg)(ps:List Int):∀k,k<=p.rules.length->(ky p ps k).map sV=(p.rules.take k).flatMap (Yo ps)
 |0,_=>rfl
 |k+1,hk=>by
  obtain⟨r,hr⟩:=aF (l:=p.rules) (k:=k) ag
  rw[sR p ps hr,List.map_append,Iv p ps k (by omega),Yq,List.take_add_one,hr,Option.toList_some,List.flatMap_append]
  simp
theorem Iw(p:Pg):(dh p).map sV=p.rules.flatMap (Yo (pN p)):=by
 unfold dh
 rw[Iv p _ _ (Nat.le_refl _),List.take_length]
theorem Q4{ps ps':List Int}(h:ps'.Sublist ps)(r:Rl):(Yo ps' r).Sublist (Yo ps r):=by
 unfold Yo T8
 refine List.Sublist.map _ (w9 fun x _=> ?_)
 unfold Ez
 split
 ·exact Gx
 ·split
  ·exact h.map _
  ·exact Gx
def pT(p:Pg)(k:Nat):Pg:=⟨p.sig,p.rules.take k++p.rules.drop (k+1)⟩
theorem Ix{α:Type}:∀ (l:List α) (k:Nat),(l.take k++l.drop (k+1)).Sublist l
 |[],k=>aI
 |x::l,0=>aI
 |x::l,k+1=>by
  rw[List.take_succ_cons,List.drop_succ_cons,List.cons_append]
  exact(Ix l k).cons_cons x
theorem iC(p:Pg)(k:Nat):(pT p k).rules.Sublist p.rules:=Ix p.rules k
theorem Q5{p q:Pg}(hs:q.sig=p.sig)(h:q.rules.Sublist p.rules):(pN q).Sublist (pN p):=by
 unfold pN
 rw[hs]
 refine List.Sublist.trans (l₂:=(((List.range p.sig.bK.length).map fun n:Nat=>(n:Int)).filter fun n=>(p.rules.flatMap fun r=>mC r.rhs).contains n).filter fun n=>(q.rules.flatMap fun r=>mC r.rhs).contains n) ?_ List.filter_sublist
 rw[List.filter_filter]
 have:(fun n:Int=>(q.rules.flatMap fun r=>mC r.rhs).contains n&&(p.rules.flatMap fun r=>mC r.rhs).contains n)=fun n=>(q.rules.flatMap fun r=>mC r.rhs).contains n:=by
  funext n
  cases e:(q.rules.flatMap fun r=>mC r.rhs).contains n with
  |false=>rfl
  |true=>
   rw[List.contains_iff_mem]at e
   rw[Bool.true_and,List.contains_iff_mem]
   exact(Em h).subset e
 rw[this]
 exact Gx
theorem Q6{p q:Pg}(hs:q.sig=p.sig)(h:q.rules.Sublist p.rules):((dh q).map sV).Sublist ((dh p).map sV):=by
 rw[Iw,Iw]
 exact(Em h).trans (w9 fun r _=>Q4 (Q5 hs h) r)
theorem Q7{p:Pg}(k:Nat):(dh (pT p k)).length<=(dh p).length/\∀c∈dh (pT p k),∃d∈dh p,sV c=sV d:=by
 have h:=Q6 (p:=p) (q:=pT p k) rfl (iC p k)
 refine⟨by simpa using h.length_le,fun c hc=> ?_⟩
 obtain⟨d,hd,e⟩:=List.mem_map.1 (h.subset (List.mem_map.2 ⟨c,hc,rfl⟩))
 exact⟨d,hd,e.symm⟩
theorem Ob{p:Pg}(h:cq p=true)(k:Nat):cq (pT p k)=true:=by
 have hs:=iC p k
 simp only[cq,Bool.and_eq_true,decide_eq_true_eq,List.all_eq_true]at h|-
 exact⟨⟨h.1.1,Nat.le_trans hs.length_le h.1.2⟩,fun r hr=>h.2 r (hs.subset hr)⟩
theorem Kp{p:Pg}(h:uR p)(k:Nat):uR (pT p k):=fun r hr=>h r ((iC p k).subset hr)
theorem Q8{p:Pg}(h:p.Fin)(k:Nat):(pT p k).Fin:=⟨h.sig,Nat.le_trans (iC p k).length_le h.len,fun r hr=>h.all r ((iC p k).subset hr)⟩
theorem Yr{p:Pg}(h:p.Fw)(k:Nat):(pT p k).Fw:=by
 constructor<;>first|exact h.sig|exact Nat.le_trans (iC p k).length_le h.len|exact fun r hr=>h.all r ((iC p k).subset hr)
end Go.Proofs.YtnkamdiiakdkgaaGreat
section
open Go
set_option maxHeartbeats 2000000
namespace Go.Proofs.YtnkamdiiakdkgaaGreat
@[reducible] def cB.d (g:cB):D:= .agg [.i g.f, .i g.t, .sl ((mn g.m 16).map lx.d)]
@[reducible] def cB.row (g:cB):List V:=[.d (.i g.f), .d (.i g.t), .d (.sl ((mn g.m 16).map lx.d))]
end Go.Proofs.YtnkamdiiakdkgaaGreat
end
section
open Go
set_option maxHeartbeats 4000000
namespace Go.Proofs.YtnkamdiiakdkgaaGreat
def kC(g:cB):List D:= .i g.f:: .i g.t::g.m.map D.i
def kG(g:cB):D:= .agg (kC g)
theorem l4{m:List Int}(h:m.length=4):∃a b c d,m=[a,b,c,d]:=by
 match m,h with
 |[a,b,c,d],_=>exact⟨a,b,c,d,rfl⟩
theorem l16{m:List Int}(h:m.length=16):∃a b c d,a.length=4/\b.length=4/\c.length=4/\d.length=4/\m=a++b++c++d:=by
 refine⟨m.take 4,(m.drop 4).take 4,(m.drop 8).take 4,m.drop 12,by simp;omega,by simp;omega,by simp;omega,by simp;omega, ?_⟩
 rw[show m.drop 8=(m.drop 4).drop 4 by simp,show m.drop 12=((m.drop 4).drop 4).drop 4 by simp]
 simp only[List.append_assoc,List.take_append_drop]
theorem rH(x y:List Int)(hx:x.length=4)(hy:y.length=4):∀d,mH Tryz.prog (d+2) 88 (.agg (x.map D.i)) (.agg (y.map D.i))=some (decide (x=y)):=by
 intro d
 obtain⟨a,b,c,e,rfl⟩:=l4 hx
 obtain⟨a',b',c',e',rfl⟩:=l4 hy
 have h1:bp Tryz.prog 88=some (.arr 4 3):=ai
 have h3:bp Tryz.prog 3=some .int:=ai
 have h5:ct Tryz.prog 3=some false:=ai
 have h6:Tryz.prog.cellsOf 3=1:=ai
 simp[mH,h1,h3,h5,h6,ye,Ov,cw,B0]
 rw[Bool.eq_iff_iff]
 simp
theorem En(x y:List Int)(hx:x.length=16)(hy:y.length=16)(d:Nat):mH Tryz.prog (d+3) 90 (mD x) (mD y)=some (decide (x=y)):=by
 obtain⟨a,b,c,e,la,lb,lc,le,rfl⟩:=l16 hx
 obtain⟨a',b',c',e',la',lb',lc',le',rfl⟩:=l16 hy
 have h1:bp Tryz.prog 90=some (.arr 4 88):=ai
 have h5:ct Tryz.prog 88=some true:=ai
 have h6:Tryz.prog.cellsOf 88=4:=ai
 have part:∀ (p q r s:List Int),p.length=4->q.length=4->r.length=4->s.length=4->
  cw Tryz.prog 88 ((p++q++r++s).map D.i) 0=some (.agg (p.map D.i))/\cw Tryz.prog 88 ((p++q++r++s).map D.i) 4=some (.agg (q.map D.i))/\
  cw Tryz.prog 88 ((p++q++r++s).map D.i) 8=some (.agg (r.map D.i))/\cw Tryz.prog 88 ((p++q++r++s).map D.i) 12=some (.agg (s.map D.i)):=by
  intro p q r s hp hq hr hs
  obtain⟨a,b,c,e,rfl⟩:=l4 hp
  obtain⟨a,b,c,e,rfl⟩:=l4 hq
  obtain⟨a,b,c,e,rfl⟩:=l4 hr
  obtain⟨a,b,c,e,rfl⟩:=l4 hs
  refine⟨?_, ?_, ?_, ?_⟩<;>simp[cw,h5,h6]
 obtain⟨p1,p2,p3,p4⟩:=part a b c e la lb lc le
 obtain⟨q1,q2,q3,q4⟩:=part a' b' c' e' la' lb' lc' le'
 show mH Tryz.prog ((d+2)+1) _ _ _=_
 unfold mH
 rw[h1]
 dsimp only[mD]
 simp only[ye,h6,Nat.zero_mul,Nat.zero_add,Nat.one_mul,Nat.reduceAdd,Nat.reduceMul,p1,p2,p3,p4,q1,q2,q3,q4,Ov,rH _ _ la la',rH _ _ lb lb',rH _ _ lc lc',rH _ _ le le',B0]
 refine congrArg some ?_
 rw[Bool.eq_iff_iff]
 simp only[Bool.and_eq_true,decide_eq_true_eq,Bool.and_true,List.append_assoc]
 constructor
 ·rintro⟨rfl,rfl,rfl,rfl⟩;rfl
 ·intro h
  obtain⟨h1,h⟩:=List.append_inj h ag
  obtain⟨h2,h⟩:=List.append_inj h ag
  obtain⟨h3,h⟩:=List.append_inj h ag
  exact⟨h1,h2,h3,h⟩
theorem sY(g x:cB)(hg:g.m.length=16)(hx:x.m.length=16):mH Tryz.prog 100 162 (kG g) (kG x)=some (decide (g=x)):=by
 have h1:bp Tryz.prog 162=some (.struct [(3,0),(3,1),(90,2)]):=ai
 have h3:bp Tryz.prog 3=some .int:=ai
 have h5:ct Tryz.prog 3=some false:=ai
 have h6:ct Tryz.prog 90=some true:=ai
 have h7:Tryz.prog.cellsOf 90=16:=ai
 have part:∀g:cB,g.m.length=16->cw Tryz.prog 90 (kC g) 2=some (mD g.m):=by
  intro g hg
  have:List.take 16 (List.drop 2 (kC g))=g.m.map D.i:=by
   unfold kC
   rw[List.drop_succ_cons,List.drop_succ_cons,List.drop_zero,List.take_of_length_le (by simp[hg])]
  have hl:(kC g).length=18:=by simp[kC,hg]
  simp[cw,h6,h7,this,hl]
 have e0:∀g:cB,cw Tryz.prog 3 (kC g) 0=some (.i g.f):=fun g=>by simp[cw,h5,kC]
 have e1:∀g:cB,cw Tryz.prog 3 (kC g) 1=some (.i g.t):=fun g=>by simp[cw,h5,kC]
 have ei:∀ (a b:Int),mH Tryz.prog 99 3 (.i a) (.i b)=some (a==b):=fun a b=>by simp[mH,h3]
 show mH Tryz.prog (99+1) _ _ _=_
 unfold mH
 rw[h1]
 dsimp only[kG]
 simp only[yd,e0,e1,part g hg,part x hx,Ov,ei,En _ _ hg hx 96,B0]
 refine congrArg some ?_
 rw[Bool.eq_iff_iff]
 obtain⟨a,b,c⟩:=g
 obtain⟨a',b',c'⟩:=x
 simp
theorem xa(o:Nat->ab)(oF:Bool)(x y:List Int)(hx:x.length=16)(hy:y.length=16):uA Tryz.prog o 90 oF (.d (.agg (x.map D.i))) (.d (.agg (y.map D.i)))=some (.d (.bool (decide (x=y)))):=by
 obtain⟨n,e,h⟩:∃n e,Tryz.prog.underlying 90=some (.array n e):=⟨4,88,ai⟩
 have h2:Tryz.prog.eqGuardType Tryz.prog.depth 90=false:=ai
 unfold uA
 rw[h]
 dsimp only
 rw[if_pos h2,show(100:Nat)=97+3 from rfl]
 rw[En x y hx hy 97]
 rfl
def nX(s:GS):List (D×D):=s.map fun p=>(kG p.1, .sl (p.2.map D.i))
theorem Kq(s:GS)(g:cB)(c:List Int):nX s++[(kG g, .sl (c.map D.i))]=nX (s++[(g,c)]):=by simp[nX]
theorem Bu{g:cB}(hg:g.m.length=16):∀ (s:GS),(∀x∈s,x.1.m.length=16)->g∉gs s->∀i,findD Tryz.prog 162 (kG g) (nX s) i=some none
 |[],_,_,_=>rfl
 |x::s,hs,h,i=>by
  have ik:g≠x.1:=fun e=>h (by rw[e];simp[gs])
  have ih:=Bu hg s (fun y hy=>hs y kD) (fun hm=>h (by simp[gs]at hm|-;exact .inr hm)) (i+1)
  show findD _ _ _ ((kG x.1,_)::nX s) i=_
  unfold findD
  rw[sY g x.1 hg (hs x (by simp)),decide_eq_false ik]
  exact ih
theorem nY{g:cB}(hg:g.m.length=16){c:List Int}:∀ (s:GS) (j:Nat),(∀x∈s,x.1.m.length=16)->(gs s).Nodup->s[j]? =some (g,c)->∀i,findD Tryz.prog 162 (kG g) (nX s) i=some (some (i+j,kG g, .sl (c.map D.i)))
 |[],j,_,_,h,_=>by cases h
 |x::s,0,hs,hn,h,i=>by
  simp only[List.getElem?_cons_zero,Option.some.injEq]at h
  subst h
  show findD _ _ _ ((kG g,_)::nX s) i=_
  unfold findD
  rw[sY g g hg hg,decide_eq_true rfl]
  rfl
 |x::s,j+1,hs,hn,h,i=>by
  simp only[List.getElem?_cons_succ]at h
  have ik:g≠x.1:=fun e=>by
   unfold gs at hn
   rw[List.map_cons,List.nodup_cons]at hn
   exact hn.1 (List.mem_map.2 ⟨_,List.mem_of_getElem? h,e⟩)
  have IU:(gs s).Nodup:=by unfold gs at hn|-;rw[List.map_cons,List.nodup_cons]at hn;exact hn.2
  have ih:=nY hg s j (fun y hy=>hs y kD) IU h (i+1)
  show findD _ _ _ ((kG x.1,_)::nX s) i=_
  unfold findD
  rw[sY g x.1 hg (hs x (by simp)),decide_eq_false ik]
  show findD _ _ _ (nX s) (i+1)=_
  rw[ih,show i+1+j=i+(j+1) by omega]
theorem Eo(g:cB):ja (kG g)=true:=by
 simp only[kG,ja,kC,List.all_cons,List.all_map]
 simp[mI]
end Go.Proofs.YtnkamdiiakdkgaaGreat
end
section
open Go
set_option maxHeartbeats 4000000
namespace Go.Proofs.YtnkamdiiakdkgaaGreat
structure Kr (o:Nat->ab) (nx pc pa pm e:Nat) (s:GS):Prop where
 bn:Good o nx
 lc:pc<nx
 la:pa<nx
 lm:pm<nx
 ca:pc≠pa
 cm:pc≠pm
 am:pa≠pm
 oc:o pc= .row [.osl pa e, .mp pm]
 oa:o pa= .arr e 162 18 ((gs s).map kG)
 om:o pm= .map 162 37 (nX s)
 len:∀x∈s,x.1.m.length=16
 fin:s.length<=500
 nd:(gs s).Nodup
theorem pU(g:cB)(h:g.m.length=16):(kC g).length=18:=by simp[kC,h]
theorem lW(g:cB)(h:g.m.length=16):List.take 18 ((kC g).map V.d)=(kC g).map V.d:=List.take_of_length_le (by simp[pU g h])
theorem nZ(g:cB)(h:g.m.length=16):((kC g).map V.d).length=18:=by simp[pU g h]
theorem rI(x:List Int)(hx:x.length=4):∀d,iI Tryz.prog (d+2) 88 (.agg (x.map D.i))=true:=by
 intro d
 obtain⟨a,b,c,e,rfl⟩:=l4 hx
 have h1:bp Tryz.prog 88=some (.arr 4 3):=ai
 have h3:bp Tryz.prog 3=some .int:=ai
 have h5:ct Tryz.prog 3=some false:=ai
 have h6:Tryz.prog.cellsOf 3=1:=ai
 simp[iI,h1,h3,h5,h6,cw,show List.range 4=[0,1,2,3]from rfl]
theorem Oc(x:List Int)(hx:x.length=16)(d:Nat):iI Tryz.prog (d+3) 90 (mD x)=true:=by
 obtain⟨a,b,c,e,la,lb,lc,le,rfl⟩:=l16 hx
 have ha:=rI a la d;have hb:=rI b lb d;have hc:=rI c lc d;have he:=rI e le d
 have h1:bp Tryz.prog 90=some (.arr 4 88):=ai
 have h5:ct Tryz.prog 88=some true:=ai
 have h6:Tryz.prog.cellsOf 88=4:=ai
 obtain⟨a1,a2,a3,a4,rfl⟩:=l4 la
 obtain⟨b1,b2,b3,b4,rfl⟩:=l4 lb
 obtain⟨c1,c2,c3,c4,rfl⟩:=l4 lc
 obtain⟨e1,e2,e3,e4,rfl⟩:=l4 le
 show iI Tryz.prog ((d+2)+1) _ _=_
 unfold iI
 rw[h1]
 dsimp only[mD]
 simp only[List.map_cons,List.map_nil]at ha hb hc he
 simp[h5,h6,cw,show List.range 4=[0,1,2,3]from rfl,ha,hb,hc,he]
theorem Bv(g:cB)(h:g.m.length=16):iI Tryz.prog 100 162 (kG g)=true:=by
 have h1:bp Tryz.prog 162=some (.struct [(3,0),(3,1),(90,2)]):=ai
 have h3:bp Tryz.prog 3=some .int:=ai
 have h5:ct Tryz.prog 3=some false:=ai
 have h6:ct Tryz.prog 90=some true:=ai
 have h7:Tryz.prog.cellsOf 90=16:=ai
 have part:cw Tryz.prog 90 (kC g) 2=some (mD g.m):=by
  have:List.take 16 (List.drop 2 (kC g))=g.m.map D.i:=by
   unfold kC
   rw[List.drop_succ_cons,List.drop_succ_cons,List.drop_zero,List.take_of_length_le (by simp[h])]
  have hl:(kC g).length=18:=by simp[kC,h]
  simp[cw,h6,h7,this,hl]
 have e0:cw Tryz.prog 3 (kC g) 0=some (.i g.f):=by simp[cw,h5,kC]
 have e1:cw Tryz.prog 3 (kC g) 1=some (.i g.t):=by simp[cw,h5,kC]
 have ei:∀a:Int,iI Tryz.prog 99 3 (.i a)=true:=fun a=>by simp[iI,h3]
 show iI Tryz.prog (99+1) _ _=_
 unfold iI
 rw[h1]
 dsimp only[kG]
 simp only[List.all_cons,List.all_nil,e0,e1,part,ei,Oc g.m h 96,Bool.and_self]
theorem Iy{o:Nat->ab}{nx pc pa pm e:Nat}{s:GS}(H:Kr o nx pc pa pm e s)(g:cB)(hg:g.m.length=16)(c:List Int){K X:V->(Nat->ab)->Nat->Prop}
 (hK:∀s' e' o' nx',pZ s g c=some s'->e'=(if g∈gs s then e else e+1)->nx<=nx'->Kr o' nx' pc pa pm e' s'->(∀id,id<nx->id≠pc->id≠pa->id≠pm->o' id=o id)->K (.bW []) o' nx')
 (hX:∀o' nx',pZ s g c=none->nx<=nx'->Good o' nx'->(∀id,id<nx->o' id=o id)->X (.d (.iface 154 (.agg []))) o' nx'):
 cH Tryz.prog 156 [.ptr pc 0, .d (kG g), .d (.sl (c.map D.i))] o nx K X:=by
 have oc:=H.oc;have oa:=H.oa;have om:=H.om
 have lc:=H.lc;have la:=H.la;have lm:=H.lm
 have ca:=H.ca;have cm:=H.cm;have am:=H.am
 have ck:=Bv g hg
 have u1:∀ (f:Nat->ab) x,ax f nx x pc=f pc:=fun f x=>ae _ _ _ _ ag
 have u2:∀ (f:Nat->ab) x,ax f nx x pa=f pa:=fun f x=>ae _ _ _ _ ag
 have u3:∀ (f:Nat->ab) x,ax f nx x pm=f pm:=fun f x=>ae _ _ _ _ ag
 have kc:(kG g).cells=kC g:=rfl
 have kt:=lW g hg
 have kl:=nZ g hg
 have tM:=pU g hg
 have ad:pf ((kC g).map V.d)=some (kC g):=bF _
 refine cH.aJ mix TA aI ?_
 rw[Xa]
 by_cases jb:g∈gs s
 ·obtain⟨⟨g',c'⟩,hp,EW⟩:=List.mem_map.1 jb
  dsimp only at EW
  subst EW
  obtain⟨j,hj⟩:=List.mem_iff_getElem?.1 hp
  have hf:=nY hg s j H.len H.nd hj 0
  have gY:pZ s g' c=some s:=by unfold pZ;rw[if_pos jb]
  rw[show kG g'= .agg (kC g')from rfl]at hf ck
  simp+contextual (disch:=first|omega|simp only[go_sem,false_implies]) only[go_sem,wrap64,if_pos,oc,oa,om,u1,u2,u3,kc,kt,kl,ad,hf,ck]
  refine aH (aR rfl) ?_
  refine iD ?_
  refine hK s e _ _ gY (by rw[if_pos jb]) ag ⟨(H.bn.mono ag).ax ag EO,ag,ag,ag,ca,cm,am, ?_, ?_, ?_,H.len,H.fin,H.nd⟩ (fun id i1 i2 i3 i4=>ae _ _ _ _ ag)
  ·rw[u1,oc]
  ·rw[u2,oa]
  ·rw[u3,om]
 ·have hf:=Bu hg s H.len jb 0
  rw[show kG g= .agg (kC g)from rfl]at hf ck
  simp+contextual (disch:=first|omega|simp only[go_sem,false_implies]) only[go_sem,wrap64,if_pos,oc,oa,om,u1,u2,u3,kc,kt,kl,ad,hf,ck]
  refine aH (aR rfl) ?_
  by_cases h5:s.length=500
  ·have xh:(((gs s).length:Int)==500)=true:=by rw[gV,h5];rfl
   have gY:pZ s g c=none:=by unfold pZ;rw[if_neg jb,if_pos h5]
   simp+contextual (disch:=first|omega|simp only[go_sem,false_implies]) only[go_sem,wrap64,if_pos,oc,oa,om,u1,u2,u3,kc,kt,kl,ad,List.length_map,xh]
   exact hX _ _ gY ag ((H.bn.mono ag).ax ag EO) (fun id i1=>ae _ _ _ _ ag)
  ·have xh:(((gs s).length:Int)==500)=false:=by rw[gV,beq_eq_false_iff_ne];omega
   have gY:pZ s g c=some (s++[(g,c)]):=by unfold pZ;rw[if_neg jb,if_neg h5]
   have gO:=H.fin
   have fu:(gs s).length<=140737488355327/\((gs s).length+1)*144<=140737488355328:=by rw[gV];omega
   have w1:∀ (f:Nat->ab) x,ax f (nx+25) x pc=f pc:=fun f x=>ae _ _ _ _ ag
   have w2:∀ (f:Nat->ab) x,ax f (nx+25) x pa=f pa:=fun f x=>ae _ _ _ _ ag
   have w3:∀ (f:Nat->ab) x,ax f (nx+25) x pm=f pm:=fun f x=>ae _ _ _ _ ag
   have v1:∀ (f:Nat->ab) x,ax f pa x pc=f pc:=fun f x=>ae _ _ _ _ ca
   have v3:∀ (f:Nat->ab) x,ax f pa x pm=f pm:=fun f x=>ae _ _ _ _ (fun h=>am h.symm)
   have v4:∀ (f:Nat->ab) x,ax f pc x pm=f pm:=fun f x=>ae _ _ _ _ (fun h=>cm h.symm)
   have v5:∀ (f:Nat->ab) x,ax f pc x nx=f nx:=fun f x=>ae _ _ _ _ ag
   have v6:∀ (f:Nat->ab) x,ax f pa x nx=f nx:=fun f x=>ae _ _ _ _ ag
   simp+contextual (disch:=first|omega|simp only[go_sem,false_implies]) only[go_sem,wrap64,if_pos,oc,oa,om,u1,u2,u3,kc,kt,kl,ad,List.length_map,xh,Nat.add_assoc,Nat.left_eq_add,Nat.add_eq_left,Nat.add_left_cancel_iff,tM,if_pos fu,w1,w2,w3,v1,v3,v4,v5,v6,hf,ck,Eo]
   refine aH (bO (ids:=[pc,pa]) (nx:=nx) gE gE [([],[]),([],[]),([0],[]),([0],[]),([0],[]),([2],[]),([],[27]),([1,27],[1]),([0],[]),([0],[]),([0,1],[0])] bI) ?_
   have xi:(kC g).all mI=true:=Eo g
   simp+contextual (disch:=first|omega|simp only[go_sem,false_implies]) only[go_sem,wrap64,if_pos,oc,oa,om,u1,u2,u3,kc,kt,kl,ad,List.length_map,Nat.add_assoc,Nat.left_eq_add,Nat.add_eq_left,Nat.add_left_cancel_iff,tM,w1,w2,w3,v1,v3,v4,v5,v6,hf,ck,xi]
   refine aH (bO (ids:=[pc,pm]) (nx:=nx) gE gE [([],[]),([0],[]),([0],[]),([0],[]),([2],[]),([],[]),([1],[1])] bI) ?_
   refine iD ?_
   refine hK _ (e+1) _ _ gY (by rw[if_neg jb]) ag ?_ (fun id i1 i2 i3 i4=>by rw[ae _ _ _ _ i4,ae _ _ _ _ i2,ae _ _ _ _ i3,ae _ _ _ _ (by omega),ae _ _ _ _ (by omega)])
   have ZY:gs (s++[(g,c)])=gs s++[g]:=by simp[gs]
   refine⟨?_,ag,ag,ag,ca,cm,am, ?_, ?_, ?_, ?_, ?_, ?_⟩
   ·refine Good.ax (Good.ax (Good.ax (Good.ax (Good.ax (H.bn.mono ag) ag ?_) ag ?_) ag ?_) ag ?_) ag ?_
    all_goals simp[ab.refs,jq,V.aE,V.refs]
    omega
   ·rw[ae _ _ _ _ cm,af]
   ·rw[ae _ _ _ _ am,ae _ _ _ _ ca.symm,af,ZY,List.map_append];rfl
   ·rw[af, <- Kq];rfl
   ·intro x hx
    rcases List.mem_append.1 hx with h|h
    ·exact H.len x h
    ·rw[List.mem_singleton.1 h];exact hg
   ·exact K4
   ·rw[ZY,List.nodup_append]
    refine⟨H.nd,aI,fun a ha b hb e=> ?_⟩
    rw[List.mem_singleton]at hb
    exact jb (hb ▸ e ▸ ha)
theorem Bw{o:Nat->ab}{nx pc pa pm e:Nat}{s:GS}(H:Kr o nx pc pa pm e s):Kr (xE [pc,pa,pm] o) nx pc pa pm e s:=by
 have jb:∀id,id∈[pc,pa,pm]->xE [pc,pa,pm] o id=o id:=fun id aq=>by
  unfold xE;rw[if_pos (by rw[List.contains_iff_mem];exact aq)]
 have Dk:∀id,id∉[pc,pa,pm]->xE [pc,pa,pm] o id= .no:=fun id aq=>by
  unfold xE;rw[if_neg (by rw[List.contains_iff_mem];exact aq)]
 have lc:=H.lc;have la:=H.la;have lm:=H.lm
 refine⟨⟨fun id aq=>Dk id (fun hm=> ?_),fun id r hr=> ?_⟩,H.lc,H.la,H.lm,H.ca,H.cm,H.am,by rw[jb pc (by simp),H.oc],by rw[jb pa (by simp),H.oa],by rw[jb pm (by simp),H.om],H.len,H.fin,H.nd⟩
 ·simp at hm;omega
 ·by_cases aq:id∈[pc,pa,pm]
  ·rw[jb id aq]at hr;exact H.bn.refs id r hr
  ·rw[Dk id aq]at hr;cases hr
theorem Gc{o:Nat->ab}{nx pc pa pm e:Nat}{s:GS}(H:Kr o nx pc pa pm e s):∀id∈[pc,pa,pm],∀j∈(o id).refs,j∈[pc,pa,pm]:=by
 intro id aq j hj
 simp only[List.mem_cons,List.not_mem_nil,or_false]at aq
 rcases aq with rfl|rfl|rfl
 ·rw[H.oc]at hj;simp[ab.refs,V.aE,V.refs]at hj|-;omega
 ·rw[H.oa]at hj;simp[ab.refs]at hj
 ·rw[H.om]at hj;simp[ab.refs]at hj
theorem Q9{o:Nat->ab}{nx pc pa pm e:Nat}{s:GS}(H:Kr o nx pc pa pm e s)(g:cB)(hg:g.m.length=16)(c:List Int)(jb:g∈gs s):xF Tryz.prog 156 [.ptr pc 0, .d (kG g), .d (.sl (c.map D.i))] [pc,pa,pm] o (.ret []) []:=by
 have lc:=H.lc;have la:=H.la;have lm:=H.lm
 refine xF.jd (nx:=nx) (fun id aq=>by simp at aq;omega) (fun id aq=>by simp[V.aE,V.refs]at aq;simp[aq]) (Gc H) (fun x hx=>by cases hx) (fun x hx=>by cases hx) ?_
 refine Iy (Bw H) g hg c (fun s' e' o' nx' h1 h2 h3 h4 h5=>⟨fun id aq=> ?_,[],[],rfl,rfl,rfl,fun id aq=>by simp[V.bg]at aq⟩) (fun o' nx' h1=> ?_)
 ·rw[if_pos jb]at h2
  subst h2
  have hs:s'=s:=by unfold pZ at h1;simp only[if_pos jb]at h1;exact(Option.some.inj h1).symm
  subst hs
  simp only[List.mem_cons,List.not_mem_nil,or_false]at aq
  rcases aq with rfl|rfl|rfl
  ·rw[h4.oc];exact H.oc.symm
  ·rw[h4.oa];exact H.oa.symm
  ·rw[h4.om];exact H.om.symm
 ·unfold pZ at h1;simp only[if_pos jb]at h1;cases h1
def Ep(pc pa pm e:Nat)(s:GS):List (Nat×ab):=[(pc, .row [.osl pa e, .mp pm]),(pa, .arr e 162 18 ((gs s).map kG)),(pm, .map 162 37 (nX s))]
theorem Ra{o:Nat->ab}{nx pc pa pm e:Nat}{s:GS}(H:Kr o nx pc pa pm e s)(g:cB)(hg:g.m.length=16)(c:List Int)(jb:g∉gs s)(h5:s.length≠500):xF Tryz.prog 156 [.ptr pc 0, .d (kG g), .d (.sl (c.map D.i))] [pc,pa,pm] o (.ret []) (Ep pc pa pm (e+1) (s++[(g,c)])):=by
 have lc:=H.lc;have la:=H.la;have lm:=H.lm
 have ca:=H.ca;have cm:=H.cm;have am:=H.am
 refine xF.jd (nx:=nx) (fun id aq=>by simp at aq;omega) (fun id aq=>by simp[V.aE,V.refs]at aq;simp[aq]) (Gc H) (fun x hx=> ?_) (fun x hx j hj=> ?_) ?_
 ·simp only[Ep,List.mem_cons,List.not_mem_nil,or_false]at hx
  rcases hx with rfl|rfl|rfl<;>simp
 ·simp only[Ep,List.mem_cons,List.not_mem_nil,or_false]at hx
  rcases hx with rfl|rfl|rfl
  ·simp[ab.refs,V.aE,V.refs]at hj|-;omega
  ·simp[ab.refs]at hj
  ·simp[ab.refs]at hj
 refine Iy (Bw H) g hg c (fun s' e' o' nx' h1 h2 h3 h4 h6=>⟨fun id aq=> ?_,[],[],rfl,rfl,rfl,fun id aq=>by simp[V.bg]at aq⟩) (fun o' nx' h1=> ?_)
 ·rw[if_neg jb]at h2
  subst h2
  have hs:s'=s++[(g,c)]:=by unfold pZ at h1;simp only[if_neg jb,if_neg h5]at h1;exact(Option.some.inj h1).symm
  subst hs
  simp only[List.mem_cons,List.not_mem_nil,or_false]at aq
  simp only[Ep,put,List.foldl_cons,List.foldl_nil]
  rcases aq with rfl|rfl|rfl
  ·rw[h4.oc,ae _ _ _ _ cm,ae _ _ _ _ ca,af]
  ·rw[h4.oa,ae _ _ _ _ am,af]
  ·rw[h4.om,af]
 ·unfold pZ at h1;simp only[if_neg jb,if_neg h5]at h1;cases h1
theorem Rb{o:Nat->ab}{nx pc pa pm e:Nat}{s:GS}(H:Kr o nx pc pa pm e s)(g:cB)(hg:g.m.length=16)(c:List Int)(gY:pZ s g c=none):xF Tryz.prog 156 [.ptr pc 0, .d (kG g), .d (.sl (c.map D.i))] [pc,pa,pm] o (.bE (.iface 154 (.agg []))) []:=by
 have lc:=H.lc;have la:=H.la;have lm:=H.lm
 have hr:=Bw H
 refine xF.jd (nx:=nx) (fun id aq=>by simp at aq;omega) (fun id aq=>by simp[V.aE,V.refs]at aq;simp[aq]) (Gc H) (fun x hx=>by cases hx) (fun x hx=>by cases hx) ?_
 refine Iy hr g hg c (fun s' e' o' nx' h1=>by rw[gY]at h1;cases h1) (fun o' nx' h1 h2 h3 h4=>⟨fun id aq=> ?_, .iface 154 (.agg []),rfl,rfl,fun id aq=>by simp[V.ids]at aq⟩)
 rw[h4 id (by simp at aq;omega)]
 unfold xE;rw[if_pos (by rw[List.contains_iff_mem];exact aq)];rfl
end Go.Proofs.YtnkamdiiakdkgaaGreat
end
namespace Go.Proofs.YtnkamdiiakdkgaaGreat
theorem mG{B:Nat->Prop}{φ:Place}{H:Hp}{w:World}:∀ (pre:List V) (x:V) (rest:List V) (vals:List Value),V.aB B φ H w (pre++x::rest) vals↔∃v1 val us,vals=v1++val::us/\V.aB B φ H w pre v1/\V.den B φ H w x val/\V.aB B φ H w rest us
 |[],x,rest,vals=>by
  constructor
  ·rintro⟨u,us,h1,h2,h3⟩;exact⟨[],u,us,h1,rfl,h2,h3⟩
  ·rintro⟨v1,u,us,h1,h0,h2,h3⟩
   have h0:v1=[]:=h0
   subst h0
   exact⟨u,us,h1,h2,h3⟩
 |a::pre,x,rest,vals=>by
  constructor
  ·rintro⟨u,us,h1,h2,h3⟩
   obtain⟨v1,val,us',g1,g2,g3,g4⟩:=(mG pre x rest us).1 h3
   exact⟨u::v1,val,us',by rw[h1,g1];rfl,⟨u,v1,rfl,h2,g2⟩,g3,g4⟩
  ·rintro⟨v1,val,us',g1,⟨u,v2,g5,g6,g7⟩,g3,g4⟩
   subst g5
   exact⟨u,v2++val::us',by rw[g1];rfl,g6,(mG pre x rest _).2 ⟨v2,val,us',rfl,g7,g3,g4⟩⟩
theorem cH.Ys {P:Program}{g:FuncId}(pre:List V){x:V}{d:D}{rest:List V}{o:Nat->ab}{nx:Nat}{K X:V->(Nat->ab)->Nat->Prop}(hx:dB o x=some d)
 (h:cH P g (pre++ .d d::rest) (put o (bT o x.ids)) nx K X):cH P g (pre++x::rest) o nx K X:=by
 refine⟨h.1,fun M φ w vals hH hd=> ?_⟩
 have hd0:=hd
 obtain⟨v1,val,us,jK,o9,hv,ed⟩:=(mG pre x rest vals.toList).1 hd
 have hu:=fun id aq=>cJ x val hv id aq
 obtain⟨f1,f2,f3,f4,f5⟩:=cO (H:=hp o nx) hH x.ids hu
 have fU:(hp o nx).put (bT o x.ids)=hp (put o (bT o x.ids)) nx:=Nk (fun y hy=>by
  simp only[bT,List.mem_map]at hy
  obtain⟨id,aq,rfl⟩:=hy
  exact hu id aq)
 have JX:=f1;have HT:=f2
 rw[show bT (hp o nx).o x.ids=bT o x.ids from rfl,fU]at JX HT
 have T1:∀k,cE φ ((hp o nx).put (bT o x.ids)) k->cE φ (hp o nx) k:=by
  rintro k ⟨id,g1,g2⟩
  by_cases aq:id∈x.ids
  ·have:=f3 id aq
   rw[show((hp o nx).put (bT o x.ids)).o id=_ from this]at g1
   refine⟨id, ?_,g2⟩
   revert g1
   cases(hp o nx).o id<;>simp[ab.fz,ab.live]
  ·have:=f4 id aq
   exact R4
 have zw:∀j,mS (((hp o nx).put (bT o x.ids)).o j) ((hp o nx).o j):=fun j=>by
  by_cases hm:j∈x.ids
  ·exact Rz
  ·exact Rn
 have h4:=V.lL (H:=hp o nx) (H':=(hp o nx).put (bT o x.ids)) (B:=ao M φ (hp o nx)) (B':=ao M φ ((hp o nx).put (bT o x.ids))) (fun k h h'=>h (h'.imp id (T1 k))) x val (fun id aq=>⟨zw id,rfl,(f5 id).2 ((V.lM x val hv) id aq)⟩) hv
 have h5:=eC f1 (o:=o) x d val (fun id aq=>f3 id aq) hx h4
 have h6:=V.fj (H:=hp o nx) (H':=(hp o nx).put (bT o x.ids)) (B:=ao M φ (hp o nx)) (B':=ao M φ ((hp o nx).put (bT o x.ids))) (fun k h h'=>h (h'.imp id (T1 k))) rest us (fun id aq=>⟨zw id,rfl,(f5 id).2 ((V.eT rest us ed) id aq)⟩) ed
 have h7:=V.fj (H:=hp o nx) (H':=(hp o nx).put (bT o x.ids)) (B:=ao M φ (hp o nx)) (B':=ao M φ ((hp o nx).put (bT o x.ids))) (fun k h h'=>h (h'.imp id (T1 k))) pre v1 (fun id aq=>⟨zw id,rfl,(f5 id).2 ((V.eT pre v1 o9) id aq)⟩) o9
 rw[show(hp o nx).put (bT (hp o nx).o x.ids)=hp (put o (bT o x.ids)) nx from fU]at h5
 rw[fU]at h6 h7
 refine(h.2 M φ w vals JX ((mG pre (.d d) rest vals.toList).2 ⟨v1,val,us,jK,h7,h5,h6⟩)).mono ?_
 rintro e w' ⟨aG,o',nx',v,k1,k2,k3⟩
 exact⟨aG,o',nx',v,k1,HT.trans k2,k3⟩
end Go.Proofs.YtnkamdiiakdkgaaGreat
section
open Go
set_option maxHeartbeats 4000000
namespace Go.Proofs.YtnkamdiiakdkgaaGreat
def BH(s:GS):List D:=s.map fun p=> .sl (p.2.map D.i)
def Er(o:Nat->ab)(pc pm nx:Nat)(s:GS):Nat->ab:=
 ax (ax (ax (ax (ax o pc (.row [.osl (nx+2) 0, .mp pm])) pm (.map 162 37 (nX s))) nx (.arr 0 162 18 ((gs s).map kG))) (nx+1) (.arr 0 37 1 (BH s))) (nx+2) (.arr 0 162 18 ((gs s).map kG))
theorem Gd(o:Nat->ab){pc pm nx:Nat}(s:GS)(lc:pc<nx)(cm:pc≠pm):Er o pc pm nx s pc= .row [.osl (nx+2) 0, .mp pm]:=by
 unfold Er;rw[ae _ _ _ _ (by omega),ae _ _ _ _ (by omega),ae _ _ _ _ (by omega),ae _ _ _ _ cm,af]
theorem Ge(o:Nat->ab){pc pm nx:Nat}(s:GS)(lm:pm<nx):Er o pc pm nx s pm= .map 162 37 (nX s):=by
 unfold Er;rw[ae _ _ _ _ (by omega),ae _ _ _ _ (by omega),ae _ _ _ _ (by omega),af]
theorem flH_0(o:Nat->ab)(pc pm nx:Nat)(s:GS):Er o pc pm nx s nx= .arr 0 162 18 ((gs s).map kG):=by
 unfold Er;rw[ae _ _ _ _ (by omega),ae _ _ _ _ (by omega),af]
theorem flH_1(o:Nat->ab)(pc pm nx:Nat)(s:GS):Er o pc pm nx s (nx+1)= .arr 0 37 1 (BH s):=by
 unfold Er;rw[ae _ _ _ _ (by omega),af]
theorem flH_2(o:Nat->ab)(pc pm nx:Nat)(s:GS):Er o pc pm nx s (nx+2)= .arr 0 162 18 ((gs s).map kG):=by unfold Er;rw[af]
theorem xb(o:Nat->ab){pc pm nx:Nat}(s:GS){id:Nat}(h:id<nx\/nx+3<=id)(h1:id≠pc)(h2:id≠pm):Er o pc pm nx s id=o id:=by
 unfold Er;rw[ae _ _ _ _ (by omega),ae _ _ _ _ (by omega),ae _ _ _ _ (by omega),ae _ _ _ _ h2,ae _ _ _ _ h1]
theorem Es{o:Nat->ab}{pc pm nx:Nat}(oX:Good o nx)(lc:pc<nx)(lm:pm<nx)(s:GS):Good (Er o pc pm nx s) (nx+3):=by
 unfold Er
 refine Good.ax (Good.ax (Good.ax (Good.ax (Good.ax (oX.mono ag) ag ?_) ag rfl) ag rfl) ag rfl) ag rfl
 exact KY
theorem Gf{o:Nat->ab}{nx pc pm:Nat}(oX:Good o nx)(gY:∀id,nx<=id->o id= .no)(lc:pc<nx)(lm:pm<nx)(cm:pc≠pm){gone:Nat->Prop}(Wh:∀id,gone id->nx<=id){e:Nat->V}{so:Nat->ab}{m:Nat}(L:List V)(s:GS){x y z:V}
 (sc:so pc= .row [z, .mp pm]) (sm:so pm= .map 162 37 (nX s)) (sr:∀id,id<nx->id≠pc->id≠pm->so id=o id)
 (gx:pE so gone 162 18 ((gs s).map kG) x) (gy:pE so gone 37 1 (BH s) y) (gz:pE so gone 162 18 ((gs s).map kG) z)
 (hxy:∀id ep fF,x= .osl id ep->y= .osl id fF->False) (hxz:∀id ep fF,x= .osl id ep->z= .osl id fF->False) (hyz:∀id ep fF,y= .osl id ep->z= .osl id fF->False)
 (he:kx nx [⟨x,162,18,(gs s).map kG⟩,⟨y,37,1,BH s⟩,⟨z,162,18,(gs s).map kG⟩] so gone e L 0):bt nx ⟨e,so,m⟩ ⟨aU L,Er o pc pm nx s,nx+3⟩:=by
 refine bt.see gone [⟨x,162,18,(gs s).map kG⟩,⟨y,37,1,BH s⟩,⟨z,162,18,(gs s).map kG⟩] nx L rfl (Nat.le_refl _) (fun id aq=> ?_) (fun i g hg=> ?_) (fun id aq=> ?_) (fun id h1 h2=>absurd (Wh id h1) ag) (fun i j gi gj id ep fF h h2 h3 h4=> ?_) he
 ·by_cases e1:id=pc
  ·subst e1
   rw[Gd o s lc cm]
   exact qX sc (AZ 2 rfl rfl rfl (MV (fun r hr=>by simp[V.refs]at hr;omega) qW))
  ·by_cases e2:id=pm
   ·subst e2
    rw[Ge o s lm]
    exact cV sm (fun r hr=>by simp[ab.refs]at hr)
   ·rw[xb o s (.inl aq) e1 e2]
    exact cV (sr id aq e1 e2) (fun r hr=>oX.refs id r hr)
 ·match i,hg with
  |0,hg=>cases hg;exact⟨flH_0 o pc pm nx s,gx⟩
  |1,hg=>cases hg;exact⟨flH_1 o pc pm nx s,gy⟩
  |2,hg=>cases hg;exact⟨flH_2 o pc pm nx s,gz⟩
 ·have aq:nx+3<=id:=aq
  rw[xb o s (.inr aq) (by omega) (by omega)]
  exact gY id ag
 ·match i,j,h,h2 with
  |0,0,_,_=>rfl
  |1,1,_,_=>rfl
  |2,2,_,_=>rfl
  |0,1,h,h2=>cases h;cases h2;exact(hxy _ _ _ h3 h4).elim
  |1,0,h,h2=>cases h;cases h2;exact(hxy _ _ _ h4 h3).elim
  |0,2,h,h2=>cases h;cases h2;exact(hxz _ _ _ h3 h4).elim
  |2,0,h,h2=>cases h;cases h2;exact(hxz _ _ _ h4 h3).elim
  |1,2,h,h2=>cases h;cases h2;exact(hyz _ _ _ h3 h4).elim
  |2,1,h,h2=>cases h;cases h2;exact(hyz _ _ _ h4 h3).elim
theorem Et{O:Nat->ab}{N pc pa pm e id:Nat}{s:GS}(H:Kr O N pc pa pm e s)(g:cB)(hg:g.m.length=16)(n:Int)(aq:id<N)(h1:id≠pc)(h2:id≠pa)(h3:id≠pm)(ho:O id= .arr 0 3 1 [.i n]){K X:V->(Nat->ab)->Nat->Prop}
 (hK:∀s' e' o' nx',pZ s g [n]=some s'->N<=nx'->Kr o' nx' pc pa pm e' s'->(∀j,j<N->j≠pc->j≠pa->j≠pm->j≠id->o' j=O j)->K (.bW []) o' nx')
 (hX:∀o' nx',pZ s g [n]=none->N<=nx'->Good o' nx'->(∀j,j<N->j≠id->o' j=O j)->X (.d (.iface 154 (.agg []))) o' nx'):
 cH Tryz.prog 156 [.ptr pc 0, .d (kG g), .osl id 0] O N K X:=by
 have e0:put O (bT O (V.ids (.osl id 0)))=ax O id (.rV 0 [.i n]):=by
  simp only[V.ids,bT,List.map_cons,List.map_nil,ho]
  rfl
 refine cH.Ys [.ptr pc 0, .d (kG g)] (x:= .osl id 0) (d:= .sl [.i n]) (rest:=[]) (by simp[dB,ho]) ?_
 rw[e0]
 refine Iy (s:=s) (pa:=pa) (pm:=pm) (e:=e) ⟨H.bn.ax aq (by simp[ab.refs]),H.lc,H.la,H.lm,H.ca,H.cm,H.am,by rw[ae _ _ _ _ h1.symm,H.oc],by rw[ae _ _ _ _ h2.symm,H.oa],by rw[ae _ _ _ _ h3.symm,H.om],H.len,H.fin,H.nd⟩ g hg [n]
  (fun s' e' o' nx' a _ b c d=>hK s' e' o' nx' a b c fun j j1 j2 j3 j4 j5=>by rw[d j j1 j2 j3 j4,ae _ _ _ _ j5])
  (fun o' nx' a b c d=>hX o' nx' a b c fun j j1 j5=>by rw[d j j1,ae _ _ _ _ j5])
end Go.Proofs.YtnkamdiiakdkgaaGreat
end
