/-
  EndsTurns: at every call the law answers true, and leaves all memory as it was. Conditions: none.
-/
import Derived.Test.YtnkamdiiakdkgaaGreatRows
import Derived.Test.YtnkamdiiakdkgaaGreatEt20
set_option linter.unusedSimpArgs false
set_option linter.unusedVariables false
set_option pp.deepTerms true
set_option pp.maxSteps 1000000
namespace Go.Proofs.YtnkamdiiakdkgaaGreat
def cM(c:Cl):List Int:=(iC c.NF).1
structure DN (c:Cl):Prop where
 mat:iz (cM c)
 eq:c.NF=kW (cM c) 16
theorem NT:iz sS:=⟨rfl,bO⟩
theorem Lk{m:List Int}(hm:iz m):iC (kW m 16)=(m,true):=by unfold iC;rw[yE hm]
theorem Ck{m:List Int}(hm:iz m){c:Cl}(h:c.NF=kW m 16):DN c:=by
 have e:cM c=m:=by unfold cM;rw[h,Lk hm]
 exact⟨e ▸ hm,e.symm ▸ h⟩
theorem Cm{p:Pg}(h:dM p=true):∀c∈jS p,DN c:=by
 intro c hc
 unfold jS kG at hc
 obtain⟨n,hn,hc⟩:=List.mem_flatMap.1 hc
 cases hr:p.rules[n]? with
 |none=>rw[hr]at hc;cases hc
 |some r=>
  rw[hr]at hc
  have hk:=s5 h (List.mem_of_getElem? hr)
  obtain⟨x,hx,hc⟩:=List.mem_flatMap.1 hc
  unfold Hx at hc
  split at hc
  ·rename_i h4
   simp only[List.mem_singleton]at hc
   subst hc
   exact Ck (BZ r.aA x.t.kids) (B1 _ _ hk.len (hk.kids (zk h) hx h4)).symm
  ·split at hc
   ·obtain⟨to,_,rfl⟩:=List.mem_map.1 hc
    exact Ck NT (by rfl)
   ·cases hc
def QW(l:List Cl)(n:Int):List Int:=match l[n.toNat]? with
 |some c=>cM c
 |none=>pR
theorem Fz{l:List Cl}(hl:∀c∈l,DN c)(n:Int):iz (QW l n):=by
 unfold QW
 split
 ·rename_i c hc;exact(hl c (List.mem_of_getElem? hc)).mat
 ·exact iZ
def vj(l:List Cl)(cy:List Int):List Int:=(cy.map (QW l)).foldl bK pR
theorem Ll(l:List Cl)(cy:List Int)(n:Int):vj l (cy++[n])=bK (vj l cy) (QW l n):=by unfold vj;rw[List.map_append,List.foldl_append];rfl
theorem Lm(l:List Cl){cy:List Int}{k:Nat}{n:Int}(h:cy[k]? =some n):vj l (cy.take (k+1))=bK (vj l (cy.take k)) (QW l n):=by
 rw[List.take_add_one,h,Option.toList_some,Ll]
theorem vc:∀ (ms:List (List Int)) (m:List Int),iz m->(∀x∈ms,iz x)->iz (ms.foldl bK m)
 |[],m,h,_=>h
 |x::ms,m,h,h2=>vc ms _ (cl h (h2 x aJ)) fun y hy=>h2 y oY
theorem nD{l:List Cl}(hl:∀c∈l,DN c)(cy:List Int):iz (vj l cy):=by
 unfold vj
 refine vc _ _ iZ fun x hx=> ?_
 obtain⟨n,_,rfl⟩:=List.mem_map.1 hx
 exact Fz hl n
def QX(l:List Cl)(cy:List Int):Bool:=cy.all fun n=>decide (0<=n)&&decide (n<(l.length:Int))
theorem FA{l:List Cl}{cy:List Int}(h:QX l cy=true){k:Nat}{n:Int}(hk:cy[k]? =some n):0<=n/\∃c,l[n.toNat]? =some c:=by
 have:=List.all_eq_true.1 h n (List.mem_of_getElem? hk)
 simp at this
 exact⟨this.1,aL ae⟩
def QY(l:List Cl)(cy:List Int)(k:Nat):Bool:=match cy[k]?,cy[(k+1)%cy.length]? with
 |some a,some b=>(match l[a.toNat]?,l[b.toNat]? with
  |some x,some y=>x.to==y.fr
  |_,_=>false)
 |_,_=>false
def NU(l:List Cl)(cy:List Int):Bool:=(List.range cy.length).all (QY l cy)
def nd(l:List Cl)(cy:List Int):Bool:=dE cy.length 1 40&&(QX l cy&&NU l cy)
def vO(p:Pg)(cy:List Int):Bool×Int:=if(dM p&&nd (jS p) cy)=true then(if(jS p).length<=60 then(iA (vj (jS p) cy),0)else(false,3))else(false,2)
theorem NV{l:List Cl}{cy:List Int}{k:Nat}(hk:k<cy.length)(h:QY l cy k=false):NU l cy=false:=by
 rw[Bool.eq_false_iff]
 intro h2
 have:=List.all_eq_true.1 h2 k (List.mem_range.2 hk)
 rw[h]at this;cases this
def UZ(p:Pg)(l:List Cl):Nat->ab:=aD (aD (fun _=> .no) 0 (.row p.row)) 19 (.row [.d (.sl (l.map Cl.d))])
theorem abx(l:List Cl)(hl:l.length<=100000000)(n:Int)(base tb:Nat)(h:Nat->ab)(ht:h tb= .row [.d (.sl (l.map Cl.d))])(hb:tb<base):iN Tryz.prog 47 [.d (.i n), .ptr tb 0] base h h (.d (.bool (decide (0<=n)&&decide (n<(l.length:Int))))):=by
 intro o nx hI K X hK
 have hle:=hI.le
 have ot:o tb= .row [.d (.sl (l.map Cl.d))]:=by rw[hI.eq tb hb,ht]
 refine cX.aF mix ZE aJ ?_
 rw[c47]
 cases h0:decide ((0:Int)<=n)with
 |false=>
  rw[h0,Bool.false_and]at hK
  refine vk ot h0 ?_
  exact hK _ _ ae (hI.mono ae) (fun id i1 i2=>rfl)
 |true=>
  rw[h0,Bool.true_and]at hK
  refine Hw ot h0 ?_
  exact hK _ _ ae (hI.mono ae) (fun id i1 i2=>rfl)
def LJ(k:Nat):List Int:=(List.range 16).map fun p=>if p/4=p%4/\p/4<k then 1 else 0
theorem FB(k:Nat):(LJ k).length=16:=by simp[LJ]
theorem idP_4:LJ 4=pR:=bO
theorem Ln{k:Nat}(h:k<4):LJ (k+1)=(LJ k).set (k*4+k) 1:=by
 have:∀k,k<4->LJ (k+1)=(LJ k).set (k*4+k) 1:=bO
 exact this k h
theorem oM(p:Pg)(hf:p.Fin)(hp:p.Fw)(hq:rZ p=dM p)(cy:List Int)(l6:cy.length<=9223372036854775807):aV Tryz.prog 16 [p.d, .sl (cy.map .i)] (.ret [.bool (vO p cy).1, .i (vO p cy).2]):=by
 refine aV.aF mix Zx aJ ?_
 rw[c16,vO]
 refine aY ?_
 refine ay (Kz p hf) rfl ?_
 cases h1:dM p with
 |false=>
  rw[hq,h1]
  simp+contextual (disch:=first|omega|simp only[go_sem,false_implies]) only[go_sem,wrap64,if_pos,kH]
 |true=>
 rw[hq,h1]
 by_cases h2:cy.length=0
 ·have hc:nd (jS p) cy=false:=by unfold nd dE;simp[h2]
  have sq:((cy.length:Int)==0)=true:=by simp[h2]
  rw[hc]
  simp+contextual (disch:=first|omega|simp only[go_sem,false_implies]) only[go_sem,wrap64,if_pos,kH,List.length_map,sq]
 by_cases h3:40<cy.length
 ·have hd:decide ((cy.length:Int)<=40)=false:=by simp;omega
  have hc:nd (jS p) cy=false:=by unfold nd dE;rw[hd];simp
  have sq:((cy.length:Int)==0)=false:=by rw[beq_eq_false_iff_ne];omega
  have my:decide ((cy.length:Int)>40)=true:=by simp;omega
  rw[hc]
  simp+contextual (disch:=first|omega|simp only[go_sem,false_implies]) only[go_sem,wrap64,if_pos,kH,List.length_map,sq,my]
 have hib:dE cy.length 1 40=true:=by unfold dE;rw[Bool.and_eq_true];exact⟨decide_eq_true ae,decide_eq_true ae⟩
 have sq:((cy.length:Int)==0)=false:=by rw[beq_eq_false_iff_ne];omega
 have my:decide ((cy.length:Int)>40)=false:=by simp;omega
 have Sd:(jS p).length<=50500000:=by
  have:=va hp (Fy h1) p.rules.length (Nat.le_refl _)
  have:=hp.len
  unfold jS;omega
 have adv:nd (jS p) cy=(QX (jS p) cy&&NU (jS p) cy):=by unfold nd;rw[hib,Bool.true_and]
 simp+contextual (disch:=first|omega|simp only[go_sem,false_implies]) only[go_sem,wrap64,if_pos,kH,List.length_map,sq,my]
 refine aW (Hu p hp h1) ?_
 refine aY ?_
 refine aW (UW p hp h1) ?_
 have DO:=Cm h1
 rw[adv]
 generalize jS p=l at Sd DO|-
 refine aY ?_
 have hB:Good (UZ p l) 21:=by unfold UZ;exact ff
 have kB:UZ p l 19= .row [.d (.sl (l.map Cl.d))]:=by unfold UZ;(repeat(first|rfl|rw[af]|rw[ah _ _ _ _ (by omega)]))
 refine bd (Lj cy l6 47 [.ptr 19 0] 21 (fun _:Unit=>UZ p l) (fun _ n=>((),decide (0<=n)&&decide (n<(l.length:Int)))) nF (fun _=>True) (fun _ _ _ _ _=>trivial) (fun x hx _ _=>abx l ae x 21 19 _ kB ae) () trivial _ _ ⟨?_, ?_,fun id au=> ?_⟩ _ _ fun o2 n2 m1 m2 m3=> ?_)
 ·exact ff
 ·omega
 ·unfold UZ;rw[et]
 rw[ni]
 have Lw:(cy.all fun n=>decide (0<=n)&&decide (n<(l.length:Int)))=QX l cy:=rfl
 rw[Lw]
 cases h4:QX l cy with
 |false=>exact FG h4
 |true=>
 have q0:o2 0= .row p.row:=by rw[m2.eq 0 (by omega)];unfold UZ;(repeat(first|rfl|rw[af]|rw[ah _ _ _ _ (by omega)]))
 have q19:o2 19= .row [.d (.sl (l.map Cl.d))]:=by rw[m2.eq 19 (by omega)];exact kB
 have hg:=m2.bz
 refine aY ?_
 have oP:∀m:List Int,Good (aD o2 (n2+1) (mR m)) (n2+2):=fun m=>(hg.mono ae).aD ae (n9 _ _)
 refine aB (fun k:Nat=>⟨a7 [.aa, .d (.sl (cy.map D.i)), .ptr 0 0, .aa, .aa, .aa, .ptr 19 0, .ptr (n2+1) 0, .aa, .aa, .aa, .aa, .aa, .aa, .aa, .aa, .aa, .aa, .aa, .aa, .aa, .aa, .aa, .aa, .aa, .aa, .aa, .aa, .aa, .aa, .aa, .aa, .aa, .d (.i k)],aD o2 (n2+1) (mR (LJ k)),n2+2⟩)
  (fun k=>k<=4) (fun k=>4 - k) 0 (Nat.zero_le _) (br.aR _ (show 0<=n2+2 from ae) ae (oP _) (fun j hj=>rfl) ?_) (fun k hk=> ?_)
 ·exact ct
 replace hk:k<=4:=hk
 refine aY ?_
 refine ai (fun h5=> ?_) (fun h5=> ?_)
 ·replace h5:k<4:=by simp at h5;omega
  have J7:=qV (LJ k) (k*4+k) 1 (by rw[FB];omega)
  rw[<- Ln h5]at J7
  have HE:k*4+k+1<=(LJ k).length:=by rw[FB];omega
  simp+contextual (disch:=first|omega|simp only[go_sem,false_implies]) only[go_sem,wrap64,if_pos,Int.toNat_natCast,Nat.mul_one,J7,if_pos HE]
  refine aj (k+1) h5 ae (br.aR _ (show 0<=n2+2 from ae) ae (oP _) (fun j hj=>by rw[et]) ?_)
  exact ct
 have zI:k=4:=by simp at h5;omega
 subst zI
 rw[idP_4]
 refine qq ?_
 refine aB (fun i:Nat=>⟨a7 [.aa, .d (.sl (cy.map D.i)), .ptr 0 0, .aa, .aa, .aa, .ptr 19 0, .ptr (n2+1) 0, .aa, .aa, .aa, .aa, .aa, .aa, .aa, .aa, .aa, .aa, .aa, .aa, .aa, .aa, .aa, .aa, .aa, .aa, .aa, .aa, .aa, .aa, .aa, .aa, .aa, .aa, .aa, .aa, .aa, .aa, .aa, .aa, .aa, .d (.sl (cy.map D.i)), .d (.i cy.length), .d (.i i)],aD o2 (n2+1) (mR (vj l (cy.take i))),n2+2⟩)
  (fun i=>i<=cy.length/\∀k,k<i->QY l cy k=true) (fun i=>cy.length - i) 0 ⟨Nat.zero_le _,fun k h=>absurd h (Nat.not_lt_zero _)⟩ (br.aR _ (show 0<=n2+2 from ae) ae (oP _) (fun j hj=>rfl) ?_) (fun i hi=> ?_)
 ·exact ct
 obtain⟨hi,HI⟩:=hi
 refine aY ?_
 refine ai (fun h6=> ?_) (fun h6=> ?_)
 ·simp at h6
  obtain⟨n,hn⟩:=aL h6
  have adw:(i+1)%cy.length<cy.length:=Nat.mod_lt _ ae
  obtain⟨b,hb⟩:=aL adw
  obtain⟨n0,c,hc⟩:=FA h4 hn
  obtain⟨b0,d,hd⟩:=FA h4 hb
  obtain⟨c1,c2,c3,c4,c5,c6⟩:=c
  obtain⟨d1,d2,d3,d4,d5,d6⟩:=d
  have hmc:=DO _ (List.mem_of_getElem? hc)
  have jY: ¬ ((cy.length:Int)=0):=ae
  have htm:((i:Int)+1).tmod (cy.length:Int)=(((i+1)%cy.length:Nat):Int):=by
   show Int.tmod (Int.ofNat (i+1)) (Int.ofNat cy.length)=_
   rfl
  have hl:QY l cy i=(c3==d2):=by unfold QY;rw[hn,hb];simp only;rw[hc,hd]
  have hmo:QW l n=(iC c6).1:=by unfold QW;rw[hc];rfl
  have hwt:=Lm l hn
  rw[hmo]at hwt
  have hm6:iz (iC c6).1:=hmc.mat
  have hw:=nD DO (cy.take i)
  simp+contextual (disch:=first|omega|simp only[go_sem,false_implies]) only[go_sem,wrap64,if_pos,hn,q19,hc,hd,Cl.Jq,List.length_map,Option.map_some,hb,if_neg jY,htm,Int.toNat_natCast]
  refine aO (aQ rfl) ?_
  cases he:(c3==d2)with
  |false=>
   have U0:(c3 !=d2)=true:=by rw[bne,he];rfl
   rw[he]at hl
   rw[NV h6 hl]
   exact FG U0
  |true=>
   have U0:(c3 !=d2)=false:=by rw[bne,he];rfl
   rw[he]at hl
   have hl6:c6.length<=1000000:=by
    have h1:=hmc.eq
    have h2:=EF (cM ⟨c1,c2,c3,c4,c5,c6⟩) 16
    simp only at h1
    rw[<- h1]at h2;omega
   simp+contextual (disch:=first|omega|simp only[go_sem,false_implies]) only[go_sem,wrap64,if_pos,U0,hn,q19,hc,Cl.Jq,List.length_map,Option.map_some]
   refine aW (yU c6 hl6) ?_
   simp+contextual (disch:=first|omega|simp only[go_sem,false_implies]) only[go_sem,wrap64,if_pos,gu _ hm6.1,gu _ hw.1,dQ,eU,cU _ hm6.1,cU _ hw.1]
   refine aW (J6 _ _ hw.1 hm6.1) ?_
   have adX:(bK (vj l (cy.take i)) (iC c6).1).length=16:=(cl hw hm6).1
   simp+contextual (disch:=first|omega|simp only[go_sem,false_implies]) only[go_sem,wrap64,if_pos,eU,cU _ hw.1]
   refine aj (i+1) ⟨h6,fun k hk=> ?_⟩ ae (br.aR _ (show 0<=n2+2 from ae) ae (oP _) (fun j hj=> ?_) ?_)
   ·by_cases e:k=i
    ·rw[e];exact hl
    ·exact HI k ae
   ·rw[hwt]
    by_cases ej:j=n2+1
    ·subst ej;(repeat(first|rfl|rw[af]|rw[ah _ _ _ _ (by omega)]))
     rw[List.drop_eq_nil_of_le (by rw[cU _ hw.1];exact Nat.le_refl _),List.append_nil]
    ·exact gY
   ·exact ct
 ·simp at h6
  have R3:i=cy.length:=ae
  subst R3
  rw[List.take_length]
  have hlf:NU l cy=true:=List.all_eq_true.2 fun k hk=>HI k (List.mem_range.1 hk)
  have hw:=nD DO cy
  rw[hlf]
  by_cases U1:l.length<=60
  ·have U2:decide (60<(l.length:Int))=false:=by simp;omega
   simp+contextual (disch:=first|omega|simp only[go_sem,false_implies]) only[go_sem,wrap64,if_pos,q19,List.length_map,U2,gu _ hw.1,dQ,eU,cU _ hw.1]
   refine ay (Na _ hw.1) rfl ?_
   simp+contextual (disch:=first|omega|simp only[go_sem,false_implies]) only[go_sem,wrap64,if_pos,if_pos U1]
  ·have U2:decide (60<(l.length:Int))=true:=by simp;omega
   simp+contextual (disch:=first|omega|simp only[go_sem,false_implies]) only[go_sem,wrap64,if_pos,q19,List.length_map,U2,if_neg U1]
end Go.Proofs.YtnkamdiiakdkgaaGreat
namespace Go.Proofs.YtnkamdiiakdkgaaGreat
theorem NW{m:List Int}(hm:iz m):bK m pR=m:=by
 refine yB (cl hm iZ) hm fun i j hi hj=>⟨?_, ?_⟩
 ·rw[dZ hm iZ hi hj]
  constructor
  ·rintro⟨k,hk,h1,h2⟩
   rw[mQ hk hj]at h2
   by_cases e:k=j
   ·subst e;exact h1
   ·rw[if_neg e]at h2;exact absurd rfl h2
  ·intro h;exact⟨j,hj,h,by rw[mQ hj hj,if_pos rfl];decide⟩
 ·rw[eZ hm iZ hi hj]
  constructor
  ·rintro⟨k,hk,h1,h2,h3⟩
   rw[mQ hk hj]at h2 h3
   by_cases e:k=j
   ·subst e;rw[if_pos rfl]at h3;rcases h3 with h3|h3
    ·exact h3
    ·cases h3
   ·rw[if_neg e]at h2;exact absurd rfl h2
  ·intro h;exact⟨j,hj,uf h,by rw[mQ hj hj,if_pos rfl];decide, .inl h⟩
theorem ve:∀ (ms:List (List Int)) (m:List Int),iz m->(∀x∈ms,iz x)->ms.foldl bK m=bK m (ms.foldl bK pR)
 |[],m,h,_=>(NW h).symm
 |x::ms,m,h,h2=>by
  have hx:=h2 x aJ
  have hms:∀y∈ms,iz y:=fun y hy=>h2 y oY
  rw[List.foldl_cons,List.foldl_cons,MK hx,ve ms _ (cl h hx) hms,ve ms x hx hms,dV h hx (vc ms _ iZ hms)]
theorem oN{l:List Cl}(hl:∀c∈l,DN c)(a b:List Int):vj l (a++b)=bK (vj l a) (vj l b):=by
 have h1:=nD hl a
 have hb:∀x∈b.map (QW l),iz x:=fun x hx=>by
  obtain⟨n,_,rfl⟩:=List.mem_map.1 hx
  exact Fz hl n
 unfold vj at h1|-
 rw[List.map_append,List.foldl_append,ve _ _ h1 hb]
theorem Lo{l:List Cl}(hl:∀c∈l,DN c)(cy:List Int)(k:Nat):iA (vj l (cy.drop k++cy.take k))=iA (vj l cy):=by
 have h1:=nD hl (cy.take k)
 have h2:=nD hl (cy.drop k)
 conv=>rhs;rw[<- List.take_append_drop k cy]
 rw[oN hl,oN hl,Bool.eq_iff_iff,ke (cl h2 h1),ke (cl h1 h2)]
 exact GG h2 h1
theorem DP{l:List Cl}(hl:∀c∈l,DN c)(cy:List Int):iA (vj l (cy++cy))=iA (vj l cy):=by
 have h:=nD hl cy
 rw[oN hl,Bool.eq_iff_iff,ke (cl h h),ke h]
 exact Jv h 1
theorem FC(cy:List Int){k i:Nat}(hk:k<cy.length)(hi:i<cy.length):(cy.drop k++cy.take k)[i]? =cy[(i+k)%cy.length]? :=by
 by_cases h:i<cy.length - k
 ·rw[List.getElem?_append_left (by rw[List.length_drop];exact h),List.getElem?_drop,Nat.mod_eq_of_lt (by omega),Nat.add_comm]
 ·rw[List.getElem?_append_right (by rw[List.length_drop];omega),List.length_drop,List.getElem?_take_of_lt (by omega)]
  have:(i+k)%cy.length=i+k - cy.length:=by
   rw[Nat.mod_eq_sub_mod (by omega),Nat.mod_eq_of_lt (by omega)]
  rw[this];congr 1;omega
theorem Lp(l:List Cl){a b:List Int}{i j:Nat}(h1:a[i]? =b[j]?)(h2:a[(i+1)%a.length]? =b[(j+1)%b.length]?):QY l a i=QY l b j:=by unfold QY;rw[h1,h2]
theorem FE{l:List Cl}{a b:List Int}(h:QX l b=true)(hs:∀x∈a,x∈b):QX l a=true:=List.all_eq_true.2 fun x hx=>List.all_eq_true.1 h x (hs x hx)
theorem NX{l:List Cl}{cy:List Int}(h:nd l cy=true){k:Nat}(hk:k<cy.length):nd l (cy.drop k++cy.take k)=true:=by
 have hlen:(cy.drop k++cy.take k).length=cy.length:=by rw[List.length_append,List.length_drop,List.length_take];omega
 unfold nd at h|-
 simp only[Bool.and_eq_true]at h|-
 rw[hlen]
 refine⟨h.1,FE h.2.1 fun x hx=> ?_,List.all_eq_true.2 fun i hi=> ?_⟩
 ·rcases List.mem_append.1 hx with g|g
  ·exact List.mem_of_mem_drop g
  ·exact List.mem_of_mem_take g
 ·have hi:=List.mem_range.1 hi
  rw[hlen]at hi
  have hn:0<cy.length:=ae
  rw[Lp l (b:=cy) (j:=(i+k)%cy.length) (FC cy hk hi) ?_]
  ·exact Oh
  ·rw[hlen,FC cy hk (Nat.mod_lt _ hn)]
   congr 1
   rw[Nat.mod_add_mod,Nat.mod_add_mod];congr 1;omega
theorem FF(cy:List Int){i:Nat}(hi:i<2*cy.length):(cy++cy)[i]? =cy[i%cy.length]? :=by
 by_cases h:i<cy.length
 ·rw[List.getElem?_append_left h,Nat.mod_eq_of_lt h]
 ·rw[List.getElem?_append_right (by omega),Nat.mod_eq_sub_mod (by omega),Nat.mod_eq_of_lt (by omega)]
theorem NY{l:List Cl}{cy:List Int}(h:nd l cy=true)(h40:2*cy.length<=40):nd l (cy++cy)=true:=by
 have hlen:(cy++cy).length=2*cy.length:=by rw[List.length_append];omega
 unfold nd dE at h|-
 simp only[Bool.and_eq_true,decide_eq_true_eq]at h|-
 rw[hlen]
 refine⟨⟨ae,ae⟩,FE h.2.1 fun x hx=> ?_,List.all_eq_true.2 fun i hi=> ?_⟩
 ·rcases List.mem_append.1 hx with g|g<;>exact g
 ·have hi:=List.mem_range.1 hi
  rw[hlen]at hi
  have hn:0<cy.length:=ae
  rw[Lp l (b:=cy) (j:=i%cy.length) (FF cy hi) ?_]
  ·exact Oh
  ·rw[hlen,FF cy (Nat.mod_lt _ (by omega))]
   congr 1
   rw[Nat.mod_mul_left_mod,Nat.mod_add_mod]
theorem Hv{a b c:List cB}(ha:dz a=true)(hb:dz b=true)(hc:dz c=true):
 dz (jB a b 16)=true/\dz (jB b c 16)=true/\jB (jB a b 16) c 16=jB a (jB b c 16) 16:=by
 rw[nr]at ha hb hc
 obtain⟨ma,ea⟩:=Option.isSome_iff_exists.1 ha
 obtain⟨mb,eb⟩:=Option.isSome_iff_exists.1 hb
 obtain⟨mc,ec⟩:=Option.isSome_iff_exists.1 hc
 have NH:=yF ea;have Iw:=yF eb;have wz:=yF ec
 have e1:=mP ea eb
 have e2:=mP eb ec
 have t1:=yE (cl NH Iw)
 have t2:=yE (cl Iw wz)
 refine⟨by rw[nr, <- e1,t1];rfl,by rw[nr, <- e2,t2];rfl, ?_⟩
 rw[<- e1, <- e2, <- mP t1 ec, <- mP ea t2,dV NH Iw wz]
theorem NZ{l:List Cl}{cy:List Int}(h:nd l cy=true):1<=cy.length/\cy.length<=40/\QX l cy=true:=by
 unfold nd dE at h
 simp only[Bool.and_eq_true,decide_eq_true_eq]at h
 exact⟨ae,ae,h.2.1⟩
def Lq:IC:=c7.snd.snd.snd
theorem FM(hkn:aV Tryz.prog 10 [] (.ret [.bool true]))(p:Pg)(gC:p.Fin)(Vg:p.Fw)(hq:rZ p=dM p)(h1:dM p=true)(cy:List Int)(l6:cy.length<=50)(a:Int)(ha:0<=a/\a<=255)
 {e:Nat->V} {o:Nat->ab} {nx:Nat} (he1:e 1= .d (.sl (cy.map .i))) (he2:e 2= .d (.int .u8 a)) (he6:e 6= .ptr 0 0) (ho:o 0= .row p.row) (tL:0<nx):
 lJ Tryz.prog 191 0 false Lq (AE Tryz.prog [.tmp 12] (.ret [.bool true])) ⟨e,o,nx⟩:=by
 have DO:=Cm h1
 have R1:∀c,vO p c=if nd (jS p) c=true then(if(jS p).length<=60 then(iA (vj (jS p) c),0)else(false,3))else(false,2):=fun c=>by unfold vO;rw[h1,Bool.true_and]
 simp only[Lq,c7,IC.snd]
 simp+contextual (disch:=first|omega|simp only[go_sem,false_implies]) only[go_sem,wrap64,if_pos,he1,he2,he6,ho]
 refine aW (oM p gC Vg hq cy ae) ?_
 cases hc:nd (jS p) cy with
 |false=>
  have e0:vO p cy=(false,2):=by rw[R1,hc];rfl
  rw[e0]
  refine aY ?_
  exact vn
 |true=>
 obtain⟨g1,g2,g3⟩:=NZ hc
 by_cases U1:(jS p).length<=60
 ·have e0:vO p cy=(iA (vj (jS p) cy),0):=by rw[R1,hc,if_pos rfl,if_pos U1]
  have hz:((cy.length:Int)==0)=false:=by rw[beq_eq_false_iff_ne];omega
  have jY: ¬ ((cy.length:Int)=0):=ae
  obtain⟨k,hk,QN⟩:∃k:Nat,a.tmod (cy.length:Int)=(k:Int)/\k<cy.length:=by
   refine⟨a.toNat%cy.length, ?_,Nat.mod_lt _ ae⟩
   obtain⟨n,rfl⟩:∃n:Nat,a=n:=⟨a.toNat,ae⟩
   show Int.tmod (Int.ofNat n) (Int.ofNat cy.length)=_
   rfl
  have Vq:List.take cy.length (cy.map D.i)=cy.map D.i:=List.take_of_length_le (by rw[List.length_map];exact Nat.le_refl _)
  have zM:List.drop k (cy.map D.i)=(cy.drop k).map D.i:=List.map_drop.symm
  have ht2:List.take k (cy.map D.i)=(cy.take k).map D.i:=List.map_take.symm
  have tD:(cy.drop k).length<=50:=by rw[List.length_drop];omega
  have Vi:(cy.take k).length<=50:=by rw[List.length_take];omega
  have hap:(cy.drop k).map D.i++(cy.take k).map D.i=(cy.drop k++cy.take k).map D.i:=by rw[List.map_append]
  have adx:cy.map D.i++cy.map D.i=(cy++cy).map D.i:=by rw[List.map_append]
  rw[e0]
  simp+contextual (disch:=first|omega|simp only[go_sem,false_implies]) only[go_sem,wrap64,if_pos,he1,he2,he6,ho,hz,if_neg jY,hk,List.length_map,Vq,zM,ht2]
  refine aO (eF (ids:=[]) (nx:=nx+19) aJ aJ [([],[]),([],[]),([],[]),([],[3]),([],[]),([],[]),([],[]),([3],[3]),([],[])] bO) ?_
  refine Q7 he1 he2 he6 ho hap ?_
  have ady:=NX hc QN
  have e1:vO p (cy.drop k++cy.take k)=(iA (vj (jS p) cy),0):=by rw[R1,ady,if_pos rfl,if_pos U1,Lo DO]
  refine aW (oM p gC Vg hq (cy.drop k++cy.take k) (by rw[List.length_append];omega)) ?_
  rw[e1]
  by_cases h40:40<2*cy.length
  ·have U3:decide (2*(cy.length:Int)>40)=true:=by simp;omega
   simp+contextual (disch:=first|omega|simp only[go_sem,false_implies]) only[go_sem,wrap64,if_pos,he1,he2,he6,ho,List.length_map,bne_self_eq_false,U3]
   exact vn
  ·have U3:decide (2*(cy.length:Int)>40)=false:=by simp;omega
   simp+contextual (disch:=first|omega|simp only[go_sem,false_implies]) only[go_sem,wrap64,if_pos,he1,he2,he6,ho,List.length_map,bne_self_eq_false,U3]
   have htw:=NY hc ae
   have e2:vO p (cy++cy)=(iA (vj (jS p) cy),0):=by rw[R1,htw,if_pos rfl,if_pos U1,DP DO]
   rw[adx]
   refine dL (oM p gC Vg hq (cy++cy) (by rw[List.length_append];omega)) ?_
   rw[e2]
   refine aY ?_
   refine aO (eF (ids:=[0]) (nx:=nx+47) aJ aJ [([0],[]),([],[]),([],[3]),([],[]),([3],[3]),([3],[3]),([],[]),([],[]),([],[]),([],[]),([],[])] bO) ?_
   simp+contextual (disch:=first|omega|simp only[go_sem,false_implies]) only[go_sem,wrap64,if_pos,beq_self_eq_true]
   exact vn
 ·have e0:vO p cy=(false,3):=by rw[R1,hc,if_pos rfl,if_neg U1]
  rw[e0]
  refine aY ?_
  exact vn
theorem s9{a b:List cB}(ha:dz a=true)(hb:dz b=true):vN a b=(jB a b 16,0):=by unfold vN;rw[ha,hb];rfl
theorem Cn(hkn:aV Tryz.prog 10 [] (.ret [.bool true]))(p:Pg)(cy:List Int)(t:Int)(a b c:List cB)(hf:p.Fits)(l6:cy.length<=9223372036854775807)(ht:0<=t/\t<=255)(ha:a.length<=9223372036854775807)(hb:b.length<=9223372036854775807)(hc:c.length<=9223372036854775807):
 aV Tryz.prog 7 [p.d, .sl (cy.map .i), .int .u8 t, .sl (a.map cB.d), .sl (b.map cB.d), .sl (c.map cB.d)] (.ret [.bool true]):=by
 refine aV.aF mix fn7 aJ ?_
 rw[c7]
 show lJ _ _ _ _ (.seq _ (.seq _ (.seq _ Lq))) _ _
 by_cases a3:30<a.length
 ·have a3':decide ((a.length:Int)>30)=true:=by simp;omega
  refine ng a3' ?_
  exact vn
 have a3':decide ((a.length:Int)>30)=false:=by simp;omega
 by_cases b3:30<b.length
 ·have LF:decide ((b.length:Int)>30)=true:=by simp;omega
  refine Hw a3' LF ?_
  exact vn
 have LF:decide ((b.length:Int)>30)=false:=by simp;omega
 by_cases c3:30<c.length
 ·have NJ:decide ((c.length:Int)>30)=true:=by simp;omega
  refine Q5 a3' LF NJ ?_
  exact vn
 have NJ:decide ((c.length:Int)>30)=false:=by simp;omega
 refine Q5 a3' LF NJ ?_
 refine ay (UY p hf) rfl ?_
 cases h0:iF p with
 |false=>
  refine gX h0 ?_
  exact vn
 |true=>
 obtain⟨gC,X2⟩:=Hq hf h0
 have Vg:=Hs hf h0
 have hq:=NA p X2
 refine gX h0 ?_
 refine ay (UX p Vg) rfl ?_
 cases h1:dM p with
 |false=>
  refine gX h1 ?_
  exact vn
 |true=>
 by_cases h50:50<cy.length
 ·have U4:decide ((cy.length:Int)>50)=true:=by simp;omega
  refine Hw h1 U4 ?_
  exact vn
 have U4:decide ((cy.length:Int)>50)=false:=by simp;omega
 refine Hw h1 U4 ?_
 refine ay (zo a ae) rfl ?_
 cases r1:dz a with
 |false=>
  refine gX r1 ?_
  exact LQ
 |true=>
 refine gX r1 ?_
 refine ay (zo b ae) rfl ?_
 cases r2:dz b with
 |false=>
  refine gX r2 ?_
  exact LQ
 |true=>
 refine gX r2 ?_
 refine ay (zo c ae) rfl ?_
 cases r3:dz c with
 |false=>
  refine gX r3 ?_
  exact LQ
 |true=>
 refine gX r3 ?_
 obtain⟨s1,s2,s3⟩:=Hv r1 r2 r3
 have l1:=zE a b 16
 have l2:=zE b c 16
 have l3:=zE (jB a b 16) c 16
 have d1:decide (((jB a b 16).length:Int)>16)=false:=by simp;omega
 have d2:decide (((jB b c 16).length:Int)>16)=false:=by simp;omega
 have d3:decide (((jB (jB a b 16) c 16).length:Int)>16)=false:=by simp;omega
 have y1:=nC a b ae ae
 have y2:=nC b c ae ae
 have y3:=nC (jB a b 16) c ae ae
 have y4:=nC a (jB b c 16) ae ae
 rw[s9 r1 r2]at y1
 rw[s9 r2 r3]at y2
 rw[s9 s1 r3]at y3
 rw[s9 r1 s2, <- s3]at y4
 refine aW y1 ?_
 refine aY ?_
 refine aW y2 ?_
 refine Hw d1 d2 ?_
 refine aW y3 ?_
 refine aY ?_
 refine aW y4 ?_
 refine ng d3 ?_
 refine ay (vK (jB (jB a b 16) c 16) ae) rfl ?_
 refine aY ?_
 exact LQ
end Go.Proofs.YtnkamdiiakdkgaaGreat
section
namespace Go.Proofs.YtnkamdiiakdkgaaGreat
open Go.ChangeShapes Go.WideShapes Go.RowKit
theorem adz{x:D}(h:D.gx Tryz.prog x 5):∃n:Int,x= .int .u8 n/\(0<=n/\n<=255):=by
 obtain⟨n,h,hw⟩:=lh undT_5 h
 simp[Lit.wf]at hw
 exact⟨n,h,hw⟩
end Go.Proofs.YtnkamdiiakdkgaaGreat
end
section
namespace Go.Proofs.YtnkamdiiakdkgaaGreat
open Go.ChangeShapes Go.WideShapes Go.RowKit
theorem aby{x:D}(h:D.gx Tryz.prog x 64):∃r:cB,x=r.d/\True:=by
 obtain⟨cs,rfl,hh⟩:=nb ag (ls:=[3,3,4]) ag h
 clear h;have h:=hh;clear hh
 obtain⟨a,cs,rfl,ha,h⟩:=aX h
 obtain⟨b,cs,rfl,hb,h⟩:=aX h
 obtain⟨d,cs,rfl,hd,h⟩:=aX h
 have:=jj h;subst this
 obtain⟨m,rfl,_⟩:=lh undT_3 ha
 obtain⟨n,rfl,_⟩:=lh undT_3 hb
 obtain⟨l,rfl⟩:=Ho ag hd
 exact⟨⟨m,n,l⟩,rfl,trivial⟩
theorem DS{x:D}(h:D.gx Tryz.prog x 38):∃l:List cB,x= .sl (l.map cB.d)/\l.length<=9223372036854775807:=by
 obtain⟨es,rfl,h1,h2⟩:=lS undT_38 h
 obtain⟨l,rfl,hl⟩:=jK (fun x h=>aby h) es h2
 have:maxLen<=9223372036854775807:=bO
 exact⟨l,rfl,by simp at h1;omega⟩
end Go.Proofs.YtnkamdiiakdkgaaGreat
end
section
namespace Go.Proofs.YtnkamdiiakdkgaaGreat
open Go.ChangeShapes Go.WideShapes Go.RowKit
theorem U5{x:D}(h:D.gx Tryz.prog x 37):∃l:List Int,x= .sl (l.map D.i)/\l.length<=9223372036854775807:=by
 obtain⟨es,rfl,h1,h2⟩:=lS undT_37 h
 obtain⟨l,rfl,hl⟩:=jK (fun x h=>by obtain⟨n,h,_⟩:=lh undT_3 h;exact⟨n,h,trivial⟩) es h2
 have:maxLen<=9223372036854775807:=bO
 exact⟨l,rfl,by simp at h1;omega⟩
end Go.Proofs.YtnkamdiiakdkgaaGreat
end
section
namespace Go.Proofs.YtnkamdiiakdkgaaGreat
open Go
def U6:Nat->Bool:=fun g=> !([160,174,175,181,162,177,178,72,101,102,73,103,138,139,140,141,142,143,145,146,164,167,168,180,156,120,119,170,76]:List Nat).contains g
def yP:D:= .agg [.sl [.agg [.str [70,97,108,115,101], .i 0], .agg [.str [84,114,117,101], .i 0], .agg [.str [90], .i 0], .agg [.str [83], .i 1], .agg [.str [78,105,108], .i 0], .agg [.str [67,111,110,115], .i 2]], .sl [.agg [.str [97,100,100], .i 2], .agg [.str [111,114], .i 2], .agg [.str [99,111,105,110], .i 0], .agg [.str [108,101,110], .i 1]], .sl [.agg [.i 0, .sl [.agg [.i 3, .i 2, .sl []], .agg [.i 1, .i 0, .sl []]], .i 1, .i 0, .sl [], .i 1], .agg [.i 0, .sl [.agg [.i 3, .i 3, .sl [.agg [.i 1, .i 0, .sl []]]], .agg [.i 1, .i 1, .sl []]], .i 3, .i 3, .sl [.agg [.i 4, .i 0, .sl [.agg [.i 1, .i 0, .sl []], .agg [.i 1, .i 1, .sl []]]]], .i 2], .agg [.i 1, .sl [.agg [.i 3, .i 1, .sl []], .agg [.i 1, .i 0, .sl []]], .i 3, .i 1, .sl [], .i 1], .agg [.i 1, .sl [.agg [.i 1, .i 0, .sl []], .agg [.i 3, .i 1, .sl []]], .i 3, .i 1, .sl [], .i 1], .agg [.i 1, .sl [.agg [.i 3, .i 0, .sl []], .agg [.i 3, .i 0, .sl []]], .i 3, .i 0, .sl [], .i 0], .agg [.i 2, .sl [], .i 3, .i 2, .sl [], .i 0], .agg [.i 2, .sl [], .i 3, .i 3, .sl [.agg [.i 3, .i 2, .sl []]], .i 0], .agg [.i 3, .sl [.agg [.i 3, .i 5, .sl [.agg [.i 1, .i 0, .sl []], .agg [.i 1, .i 1, .sl []]]]], .i 3, .i 3, .sl [.agg [.i 4, .i 3, .sl [.agg [.i 1, .i 1, .sl []]]]], .i 2], .agg [.i 3, .sl [.agg [.i 1, .i 0, .sl []]], .i 4, .i 0, .sl [.agg [.i 1, .i 1, .sl []], .agg [.i 1, .i 1, .sl []]], .i 2]]]
def yR:D:= .agg [.sl [.agg [.str [70,97,108,115,101], .i 0], .agg [.str [84,114,117,101], .i 0], .agg [.str [90], .i 0], .agg [.str [83], .i 1], .agg [.str [78,105,108], .i 0], .agg [.str [67,111,110,115], .i 2]], .sl [.agg [.str [97,100,100], .i 2], .agg [.str [111,114], .i 2], .agg [.str [99,111,105,110], .i 0], .agg [.str [108,101,110], .i 1]], .sl [.agg [.i 0, .sl [.agg [.i 3, .i 2, .sl []], .agg [.i 1, .i 0, .sl []]], .i 1, .i 0, .sl [], .i 1], .agg [.i 0, .sl [.agg [.i 3, .i 3, .sl [.agg [.i 1, .i 0, .sl []]]], .agg [.i 1, .i 1, .sl []]], .i 3, .i 3, .sl [.agg [.i 4, .i 0, .sl [.agg [.i 1, .i 0, .sl []], .agg [.i 1, .i 1, .sl []]]]], .i 2], .agg [.i 1, .sl [.agg [.i 3, .i 1, .sl []], .agg [.i 1, .i 0, .sl []]], .i 3, .i 1, .sl [], .i 1], .agg [.i 1, .sl [.agg [.i 1, .i 0, .sl []], .agg [.i 3, .i 1, .sl []]], .i 3, .i 1, .sl [], .i 1], .agg [.i 1, .sl [.agg [.i 3, .i 0, .sl []], .agg [.i 3, .i 0, .sl []]], .i 3, .i 0, .sl [], .i 0], .agg [.i 2, .sl [], .i 3, .i 2, .sl [], .i 0], .agg [.i 2, .sl [], .i 3, .i 3, .sl [.agg [.i 3, .i 2, .sl []]], .i 0], .agg [.i 3, .sl [.agg [.i 3, .i 5, .sl [.agg [.i 1, .i 0, .sl []], .agg [.i 1, .i 1, .sl []]]]], .i 3, .i 3, .sl [.agg [.i 4, .i 3, .sl [.agg [.i 1, .i 1, .sl []]]]], .i 2]]]
def yS:D:= .agg [.sl [.agg [.str [70,97,108,115,101], .i 0], .agg [.str [84,114,117,101], .i 0], .agg [.str [90], .i 0], .agg [.str [83], .i 1], .agg [.str [78,105,108], .i 0], .agg [.str [67,111,110,115], .i 2]], .sl [.agg [.str [97,100,100], .i 2], .agg [.str [111,114], .i 2], .agg [.str [99,111,105,110], .i 0], .agg [.str [108,101,110], .i 1]], .sl [.agg [.i 0, .sl [.agg [.i 3, .i 2, .sl []], .agg [.i 1, .i 0, .sl []]], .i 1, .i 0, .sl [], .i 1], .agg [.i 0, .sl [.agg [.i 3, .i 3, .sl [.agg [.i 1, .i 0, .sl []]]], .agg [.i 1, .i 1, .sl []]], .i 3, .i 3, .sl [.agg [.i 4, .i 0, .sl [.agg [.i 1, .i 0, .sl []], .agg [.i 1, .i 1, .sl []]]]], .i 2], .agg [.i 1, .sl [.agg [.i 3, .i 1, .sl []], .agg [.i 1, .i 0, .sl []]], .i 3, .i 1, .sl [], .i 1], .agg [.i 1, .sl [.agg [.i 1, .i 0, .sl []], .agg [.i 3, .i 1, .sl []]], .i 3, .i 1, .sl [], .i 1], .agg [.i 1, .sl [.agg [.i 3, .i 0, .sl []], .agg [.i 3, .i 0, .sl []]], .i 3, .i 0, .sl [], .i 0], .agg [.i 2, .sl [], .i 3, .i 2, .sl [], .i 0], .agg [.i 2, .sl [], .i 3, .i 3, .sl [.agg [.i 3, .i 2, .sl []]], .i 0], .agg [.i 3, .sl [.agg [.i 1, .i 0, .sl []]], .i 4, .i 3, .sl [.agg [.i 1, .i 0, .sl []]], .i 1]]]
def yC:D:= .agg [.sl [.agg [.str [70,97,108,115,101], .i 0], .agg [.str [84,114,117,101], .i 0], .agg [.str [90], .i 0], .agg [.str [83], .i 1], .agg [.str [78,105,108], .i 0], .agg [.str [67,111,110,115], .i 2]], .sl [.agg [.str [97,100,100], .i 2], .agg [.str [111,114], .i 2], .agg [.str [99,111,105,110], .i 0], .agg [.str [108,101,110], .i 1]], .sl [.agg [.i 0, .sl [.agg [.i 3, .i 2, .sl []], .agg [.i 1, .i 0, .sl []]], .i 1, .i 0, .sl [], .i 1], .agg [.i 0, .sl [.agg [.i 3, .i 3, .sl [.agg [.i 1, .i 0, .sl []]]], .agg [.i 1, .i 1, .sl []]], .i 3, .i 3, .sl [.agg [.i 4, .i 0, .sl [.agg [.i 1, .i 0, .sl []], .agg [.i 1, .i 1, .sl []]]]], .i 2], .agg [.i 1, .sl [.agg [.i 3, .i 1, .sl []], .agg [.i 1, .i 0, .sl []]], .i 3, .i 1, .sl [], .i 1], .agg [.i 1, .sl [.agg [.i 1, .i 0, .sl []], .agg [.i 3, .i 1, .sl []]], .i 3, .i 1, .sl [], .i 1], .agg [.i 1, .sl [.agg [.i 3, .i 0, .sl []], .agg [.i 3, .i 0, .sl []]], .i 3, .i 0, .sl [], .i 0], .agg [.i 2, .sl [], .i 3, .i 2, .sl [], .i 0], .agg [.i 2, .sl [], .i 3, .i 3, .sl [.agg [.i 3, .i 2, .sl []]], .i 0], .agg [.i 3, .sl [.agg [.i 1, .i 0, .sl []]], .i 3, .i 5, .sl [.agg [.i 1, .i 0, .sl []], .agg [.i 4, .i 3, .sl [.agg [.i 1, .i 0, .sl []]]]], .i 1]]]
def yT:D:= .agg [.sl [.agg [.str [70,97,108,115,101], .i 0], .agg [.str [84,114,117,101], .i 0], .agg [.str [90], .i 0], .agg [.str [83], .i 1], .agg [.str [78,105,108], .i 0], .agg [.str [67,111,110,115], .i 2]], .sl [.agg [.str [97,100,100], .i 2], .agg [.str [111,114], .i 2], .agg [.str [99,111,105,110], .i 0], .agg [.str [108,101,110], .i 1]], .sl [.agg [.i 0, .sl [.agg [.i 3, .i 3, .sl [.agg [.i 1, .i 0, .sl []]]], .agg [.i 1, .i 1, .sl []]], .i 4, .i 0, .sl [.agg [.i 1, .i 1, .sl []], .agg [.i 1, .i 0, .sl []]], .i 2]]]
def Lr:pT Tryz.prog:=pT.of U6 [] (fun _ h=>by cases h)
end Go.Proofs.YtnkamdiiakdkgaaGreat
end
section
namespace Go.Proofs.YtnkamdiiakdkgaaGreat
open Go
theorem N0:nL Tryz.prog bI Lr 5000 40 [yP]=some (.ret [.i 0]):=ag
theorem QZ:aV Tryz.prog 40 [yP] (.ret [.i 0]):=aV.gk mix gr N0
end Go.Proofs.YtnkamdiiakdkgaaGreat
end
section
namespace Go.Proofs.YtnkamdiiakdkgaaGreat
open Go
theorem N1:nL Tryz.prog bI Lr 5000 40 [yR]=some (.ret [.i 0]):=ag
theorem Q0:aV Tryz.prog 40 [yR] (.ret [.i 0]):=aV.gk mix gr N1
end Go.Proofs.YtnkamdiiakdkgaaGreat
end
section
namespace Go.Proofs.YtnkamdiiakdkgaaGreat
open Go
theorem N2:nL Tryz.prog bI Lr 5000 40 [yS]=some (.ret [.i 0]):=ag
theorem Q1:aV Tryz.prog 40 [yS] (.ret [.i 0]):=aV.gk mix gr N2
end Go.Proofs.YtnkamdiiakdkgaaGreat
end
section
namespace Go.Proofs.YtnkamdiiakdkgaaGreat
open Go
theorem N3:nL Tryz.prog bI Lr 5000 40 [yC]=some (.ret [.i 0]):=ag
theorem Q2:aV Tryz.prog 40 [yC] (.ret [.i 0]):=aV.gk mix gr N3
end Go.Proofs.YtnkamdiiakdkgaaGreat
end
section
namespace Go.Proofs.YtnkamdiiakdkgaaGreat
open Go
theorem N4:nL Tryz.prog bI Lr 5000 40 [yT]=some (.ret [.i 0]):=ag
theorem Q3:aV Tryz.prog 40 [yT] (.ret [.i 0]):=aV.gk mix gr N4
end Go.Proofs.YtnkamdiiakdkgaaGreat
end
section
namespace Go.Proofs.YtnkamdiiakdkgaaGreat
open Go
def Co:pT Tryz.prog:=pT.of U6 [(40,[yP], .ret [.i 0]),(40,[yR], .ret [.i 0]),(40,[yS], .ret [.i 0]),(40,[yC], .ret [.i 0]),(40,[yT], .ret [.i 0])] (fun x h=>by
 simp only[List.mem_cons,List.not_mem_nil,or_false]at h
 rcases h with rfl|rfl|rfl|rfl|rfl
 ·exact QZ
 ·exact Q0
 ·exact Q1
 ·exact Q2
 ·exact Q3
 )
end Go.Proofs.YtnkamdiiakdkgaaGreat
end
section
namespace Go.Proofs.YtnkamdiiakdkgaaGreat
open Go
theorem U7:nL Tryz.prog bI Co 5000 11 [yR]=some (.ret [.sl [.agg [.i 1, .i 0, .i 0, .sl [.i 0], .bool false, .sl [.agg [.i 0, .i 0, .bool true], .agg [.i 1, .i 1, .bool false]]], .agg [.i 7, .i 3, .i 3, .sl [.i 0], .bool false, .sl [.agg [.i 0, .i 0, .bool true]]]], .i 0]):=ag
theorem adA:aV Tryz.prog 11 [yR] (.ret [.sl [.agg [.i 1, .i 0, .i 0, .sl [.i 0], .bool false, .sl [.agg [.i 0, .i 0, .bool true], .agg [.i 1, .i 1, .bool false]]], .agg [.i 7, .i 3, .i 3, .sl [.i 0], .bool false, .sl [.agg [.i 0, .i 0, .bool true]]]], .i 0]):=aV.gk mix gr U7
theorem U8:nL Tryz.prog bI Co 5000 16 [yR, .sl [.i 0]]=some (.ret [.bool true, .i 0]):=ag
theorem adB:aV Tryz.prog 16 [yR, .sl [.i 0]] (.ret [.bool true, .i 0]):=aV.gk mix gr U8
end Go.Proofs.YtnkamdiiakdkgaaGreat
end
section
namespace Go.Proofs.YtnkamdiiakdkgaaGreat
open Go
theorem U9:nL Tryz.prog bI Co 5000 19 [yR]=some (.ret [.bool true, .sl [], .i 0]):=ag
theorem adC:aV Tryz.prog 19 [yR] (.ret [.bool true, .sl [], .i 0]):=aV.gk mix gr U9
end Go.Proofs.YtnkamdiiakdkgaaGreat
end
section
namespace Go.Proofs.YtnkamdiiakdkgaaGreat
open Go
theorem Va:nL Tryz.prog bI Co 5000 19 [yS]=some (.ret [.bool false, .sl [.i 1], .i 0]):=ag
theorem adD:aV Tryz.prog 19 [yS] (.ret [.bool false, .sl [.i 1], .i 0]):=aV.gk mix gr Va
theorem Vb:nL Tryz.prog bI Co 5000 20 [yS]=some (.ret [.bool false, .sl [.i 1], .i 0]):=ag
theorem adE:aV Tryz.prog 20 [yS] (.ret [.bool false, .sl [.i 1], .i 0]):=aV.gk mix gr Vb
end Go.Proofs.YtnkamdiiakdkgaaGreat
end
section
namespace Go.Proofs.YtnkamdiiakdkgaaGreat
open Go
theorem Vc:nL Tryz.prog bI Co 5000 19 [yC]=some (.ret [.bool false, .sl [.i 1], .i 0]):=ag
theorem adF:aV Tryz.prog 19 [yC] (.ret [.bool false, .sl [.i 1], .i 0]):=aV.gk mix gr Vc
theorem Vd:nL Tryz.prog bI Co 5000 20 [yC]=some (.ret [.bool true, .sl [], .i 0]):=ag
theorem adG:aV Tryz.prog 20 [yC] (.ret [.bool true, .sl [], .i 0]):=aV.gk mix gr Vd
end Go.Proofs.YtnkamdiiakdkgaaGreat
end
section
namespace Go.Proofs.YtnkamdiiakdkgaaGreat
open Go
theorem Ve:nL Tryz.prog bI Co 5000 19 [yT]=some (.ret [.bool true, .sl [], .i 0]):=ag
theorem adH:aV Tryz.prog 19 [yT] (.ret [.bool true, .sl [], .i 0]):=aV.gk mix gr Ve
end Go.Proofs.YtnkamdiiakdkgaaGreat
end
section
namespace Go.Proofs.YtnkamdiiakdkgaaGreat
open Go
def adI:pT Tryz.prog:=pT.of U6 [(40,[yP], .ret [.i 0]),(40,[yR], .ret [.i 0]),(40,[yS], .ret [.i 0]),(40,[yC], .ret [.i 0]),(40,[yT], .ret [.i 0]),(11,[yR], .ret [.sl [.agg [.i 1, .i 0, .i 0, .sl [.i 0], .bool false, .sl [.agg [.i 0, .i 0, .bool true], .agg [.i 1, .i 1, .bool false]]], .agg [.i 7, .i 3, .i 3, .sl [.i 0], .bool false, .sl [.agg [.i 0, .i 0, .bool true]]]], .i 0]),(16,[yR, .sl [.i 0]], .ret [.bool true, .i 0]),(19,[yR], .ret [.bool true, .sl [], .i 0]),(19,[yS], .ret [.bool false, .sl [.i 1], .i 0]),(20,[yS], .ret [.bool false, .sl [.i 1], .i 0]),(19,[yC], .ret [.bool false, .sl [.i 1], .i 0]),(20,[yC], .ret [.bool true, .sl [], .i 0]),(19,[yT], .ret [.bool true, .sl [], .i 0])] (fun x h=>by
 simp only[List.mem_cons,List.not_mem_nil,or_false]at h
 rcases h with rfl|rfl|rfl|rfl|rfl|rfl|rfl|rfl|rfl|rfl|rfl|rfl|rfl
 ·exact QZ
 ·exact Q0
 ·exact Q1
 ·exact Q2
 ·exact Q3
 ·exact adA
 ·exact adB
 ·exact adC
 ·exact adD
 ·exact adE
 ·exact adF
 ·exact adG
 ·exact adH
 )
theorem Cp:nL Tryz.prog bI adI 5000 10 []=some (.ret [.bool true]):=ag
theorem N5:aV Tryz.prog 10 [] (.ret [.bool true]):=aV.gk mix gr Cp
end Go.Proofs.YtnkamdiiakdkgaaGreat
end
section
namespace Go.Proofs.YtnkamdiiakdkgaaGreat
open Go.ChangeShapes Go.WideShapes Go.RowKit
set_option maxRecDepth 100000 in
theorem rr(os:Os)(started:os.Started)(H:Type)(enc:TypeId×Value->H):
 ReturnsInHanded {} Tryz.checked os 7 .any (Rows.endsTurnsSpec.pre6 enc Tryz.prog Tryz.f7 Rows.endsTurnsRow.domain false) (Rows.endsTurnsSpec.post enc Tryz.prog Tryz.f7 Rows.endsTurnsRow.apart Rows.endsTurnsRow.fresh Rows.endsTurnsRow.handsOn Rows.endsTurnsRow.again):=by
 refine returnsInHanded_of_change (C:=Tryz.checked) ag started ag Tryz.func7
  (ChangeSpec.witness6 (enc:=enc) (C:=Tryz.checked) false ⟨#[],#[.agg #[.slice none 0 0, .slice none 0 0, .slice none 0 0], .slice none 0 0, .int .u8 0, .slice none 0 0, .slice none 0 0, .slice none 0 0],[]⟩ 8 ag ag ag ag) ?_
 intro W base args ds gs before eK hW _ _
 refine zB (T:=[27,24,22,102,9,3,25,57,49,55,53,37,5,38,64,4]) (tb:=4) ag ag rfl (fun ds h=>by match ds,h with|[_,_,_,_,_,_],_=>rfl) ag (by intro t ht;rw[Tryz.params7]at ht;simp at ht;rcases ht with rfl|rfl|rfl|rfl<;>simp) ag (by intro t ht;rw[Tryz.params7]at ht;simp at ht;rcases ht with rfl|rfl|rfl|rfl<;>exact⟨ag,of_decide_eq_true ag⟩)
  (fun xs hx=> ?_) base args ds gs before eK hW
 rw[Tryz.params7]at hx
 obtain⟨x0,xs,rfl,th,hx⟩:=aX hx
 obtain⟨x1,xs,rfl,hx1,hx⟩:=aX hx
 obtain⟨x2,xs,rfl,OW,hx⟩:=aX hx
 obtain⟨x3,xs,rfl,hx3,hx⟩:=aX hx
 obtain⟨x4,xs,rfl,hx4,hx⟩:=aX hx
 obtain⟨x5,xs,rfl,hx5,hx⟩:=aX hx
 have:=jj hx;subst this
 obtain⟨p0,rfl,Vm⟩:=ads th
 obtain⟨i1,rfl,Ix⟩:=U5 hx1
 obtain⟨b2,rfl,hb2⟩:=adz OW
 obtain⟨a3,rfl,ha3⟩:=DS hx3
 obtain⟨a4,rfl,ha4⟩:=DS hx4
 obtain⟨a5,rfl,ha5⟩:=DS hx5
 exact Cn N5 p0 i1 b2 a3 a4 a5 Vm Ix hb2 ha3 ha4 ha5
theorem endsTurns_holds:Rows.EndsTurnsSaid:=
 OpenClaim.holds_of_wide 7 Tryz.f7 rfl rfl rfl rfl rfl rfl rfl ⟨rfl,rfl,rfl,rfl,rfl⟩ rfl rfl rfl rfl rfl ag Tryz.func7 ag
  (of_decide_eq_true ag) (by unfold Func.isWrapper;first|(rw[if_pos (by decide+kernel)];kernel_rfl)|(rw[if_neg (by decide+kernel)];exact⟨rfl,rfl⟩))
  (fun os started H enc _=>rr os started H enc)
end Go.Proofs.YtnkamdiiakdkgaaGreat
end
