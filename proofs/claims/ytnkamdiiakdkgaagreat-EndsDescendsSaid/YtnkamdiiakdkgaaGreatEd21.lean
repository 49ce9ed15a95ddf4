/-
  EndsDescends: at every call the law answers true, and leaves all memory as it was. Conditions: none.
-/
import Derived.Test.YtnkamdiiakdkgaaGreatRows
import Derived.Test.YtnkamdiiakdkgaaGreatEd20
set_option linter.unusedSimpArgs false
set_option linter.unusedVariables false
namespace Go.Proofs.YtnkamdiiakdkgaaGreat
theorem zI(p:Pg){ps:List Int}(nD:ps.length<=100)(n:Int)(r:Rl)(t:Tm)(q:List Int)(b:Bool):(HH ps n r t q b).length<=t.sz*100:=by
 rw[qm, <- zH t q b]
 induction j5 t q b with
 |nil=>simp
 |cons x l ih=>
  rw[List.flatMap_cons,List.length_append,List.length_cons,Nat.add_mul]
  have:=zG ps n r x nD
  omega
theorem HY(ps:List Int)(n:Int)(r:Rl){l:List Tm}{k:Nat}{x:Tm}(hx:l[k]? =some x)(q:List Int)(b:Bool):mf ps n r (l.take (k+1)) 0 q b=mf ps n r (l.take k) 0 q b++HH ps n r x (q++[(k:Int)]) b:=by
 have hk:=(List.getElem?_eq_some_iff.1 hx).1
 rw[List.take_add_one,hx,Option.toList_some,sx,mf,mf,List.append_nil]
 congr 3
 rw[List.length_take]
 congr 1
 omega
theorem VP:∀t:Tm,∀x∈fu t,x.sz<=t.sz:=by
 refine Tm.dN fun t ih x hx=> ?_
 rw[iJ]at hx
 rcases List.mem_cons.1 hx with e|e
 ·rw[e];exact Nat.le_refl _
 ·obtain⟨k,hk,h⟩:=List.mem_flatMap.1 e
  have:=ih k hk x h
  have:=gD hk
  have:=Tm.iR t
  omega
theorem OB(t:Tm):t.kids.length<=t.sz:=by
 have h1:=Tm.iR t
 have key:∀l:List Tm,l.length<=gA l:=by
  intro l
  induction l with
  |nil=>simp
  |cons k l ih=>
   rw[gx,List.length_cons]
   have:=Tm.iR k
   omega
 have:=key t.kids
 omega
theorem OC(p:Pg){ps:List Int}(nD:ps.length<=100)(n:Int)(r:Rl)(t:Tm)(q:List Int)(b:Bool)(k:Nat):(mf ps n r (t.kids.take k) 0 q (gY t.op b)).length<=t.sz*100:=by
 have h1:=zI p nD n r t q b
 have h2:=sx ps n r (t.kids.take k) (t.kids.drop k) 0 q (gY t.op b)
 rw[List.take_append_drop]at h2
 rw[Lu,h2,List.length_append,List.length_append]at h1
 omega
def ofB:IC:=c44.snd.snd.snd.snd.snd.snd.fst.snd.fst.fst
def F8(p:Pg)(t:Tm)(l:List Cl):Nat->ab:=aA (aA (aA (fun _=> .no) 0 (.row p.row)) 1 (.row t.row)) 2 (.arr 0 40 6 (l.map Cl.d))
def R2(p:Pg)(t:Tm):Nat->ab:=aA (aA (fun _=> .no) 0 (.row p.row)) 1 (.row t.row)
theorem zV(p:Pg)(t:Tm):Good (R2 p t) 2:=(Good.nil.aA af rfl).aA af rfl
theorem ofH_0(p:Pg)(t:Tm)(l:List Cl):F8 p t l 0= .row p.row:=R9
theorem ofH_1(p:Pg)(t:Tm)(l:List Cl):F8 p t l 1= .row t.row:=R9
theorem ofH_2(p:Pg)(t:Tm)(l:List Cl):F8 p t l 2= .arr 0 40 6 (l.map Cl.d):=R9
theorem zJ{p:Pg}{n:Nat}{r:Rl}{t:Tm}(hf:t.fits)(hz:t.sz<=500){q:List Int}(b:Bool)(hq:q.length+t.l5<=100000)(nD:(c8 p).length<=100)
 (ih:∀x∈t.kids,∀ (q:List Int) (b:Bool),q.length+x.l5<=100000->aT Tryz.prog 44 [p.d, .i n,x.d, .sl (q.map .i), .bool b] (.ret [.sl ((HH (c8 p) n r x q b).map Cl.d)]))
 (pr:List Cl) (sI:pr.length<=1000) {e:Nat->V} {o:Nat->ab} {nx:Nat} {Q:fm->S->Prop}
 (hs:aZ 0 ⟨e,o,nx⟩ ⟨aS [.aa, .d (.i n), .aa, .d (.sl (q.map .i)), .d (.bool b), .ptr 0 0, .aa, .ptr 1 0, .aa, .aa, .aa, .osl 2 0, .aa, .aa, .aa, .aa, .d (.i 0)],F8 p t pr,3⟩)
 (hQ:∀e' n',e' 11= .osl 2 0->Q (.exit 2) ⟨e',F8 p t (pr++mf (c8 p) n r t.kids 0 q (gY t.op b)),n'⟩):
 uw 0 (fun Q s=>lQ Tryz.prog 97 0 false ofB Q s) Q ⟨e,o,nx⟩:=by
 have kC:=(Tm.bu _).1 hf
 have rR:=Tm.iR t
 refine aw (fun k:Nat=>⟨aS [.aa, .d (.i n), .aa, .d (.sl (q.map .i)), .d (.bool b), .ptr 0 0, .aa, .ptr 1 0, .aa, .aa, .aa, .osl 2 0, .aa, .aa, .aa, .aa, .d (.i k)],F8 p t (pr++mf (c8 p) n r (t.kids.take k) 0 q (gY t.op b)),3⟩)
  (fun k=>k<=t.kids.length) (fun k=>t.kids.length - k) 0 (Nat.zero_le _) ?_ fun k hk=> ?_
 ·simpa[mf]using hs
 replace hk:k<=t.kids.length:=hk
 have Gg:=kC.1
 simp only[ofB,c44,IC.snd,IC.fst]
 simp+contextual (disch:=first|omega|simp only[go_sem,false_implies]) only[go_sem,wrap64,if_pos,List.length_map,ofH_0,ofH_1,ofH_2]
 refine ai (fun h2=> ?_) (fun h2=> ?_)
 ·simp at h2
  obtain⟨x,hx⟩:=az h2
  have eU:=List.mem_of_getElem? hx
  have hh:=Tm.nA eU
  have hsn:=HY (c8 p) n r hx q (gY t.op b)
  have lA:(b=false/\(t.op !=3)=(t.op !=3)/\gY t.op b=false)\/(b=true/\(t.op !=3)=false/\gY t.op b=false)\/(b=true/\(t.op !=3)=true/\gY t.op b=(t.op !=5)):=by
   unfold gY
   cases b<;>cases h3:(t.op !=3)<;>simp
  have hle:=OC p nD n r t q b k
  have hlx:=zI p nD n r x (q++[(k:Int)]) (gY t.op b)
  have C0:=gD eU
  have S7:(pr++mf (c8 p) n r (t.kids.take k) 0 q (gY t.op b)).length<=60000:=by rw[List.length_append];omega
  have aeq:(HH (c8 p) n r x (q++[(k:Int)]) (gY t.op b)).length<=60000:=af
  have e:q.map D.i++[D.i k]=(q++[(k:Int)]).map D.i:=aL
  rcases lA with⟨Ie,h3,lA⟩|⟨Ie,h3,lA⟩|⟨Ie,h3,lA⟩
  all_goals subst Ie
  all_goals rw[lA]at hsn S7 aeq
  all_goals rw[lA]
  all_goals simp+contextual (disch:=first|omega|simp only[go_sem,false_implies]) only[go_sem,wrap64,if_pos,List.length_map,ofH_0,ofH_1,ofH_2,hx,h3]
  all_goals rw[e]
  all_goals refine dc (ih x eU (q++[(k:Int)]) _ oz) ?_
  all_goals simp+contextual (disch:=first|omega|simp only[go_sem,false_implies]) only[go_sem,wrap64,if_pos,List.length_map,ofH_0,ofH_1,ofH_2]
  all_goals refine aI bF ?_
  all_goals simp+contextual (disch:=first|omega|simp only[go_sem,false_implies]) only[go_sem,wrap64,if_pos,and_self]
  all_goals refine aj (k+1) h2 af (aZ.iK (fun j=>j=2) (.osl 2 1) 2 _ af (fun j hj=> ?_) (ofH_2 _ _ _) (.inr ⟨2,1,rfl,rfl,by(repeat(first|rfl|rw[ad]|rw[ag _ _ _ _ (by omega)]));rw[hsn];simp⟩) (fun j hj=>by unfold F8;(repeat(first|rfl|rw[ad]|rw[ag _ _ _ _ (by omega)]))) (fun j h h2=>af) ?_)
  all_goals first
   |exact cD (y:=R2 p t j) Xx Xx (br rfl (fun r hr=>(zV p t).refs j r hr))
   |(repeat(first|exact zU|refine wh ?_|refine xN rfl ?_|refine xN (Im (Io af)) ?_|refine Ip 0 rfl rfl rfl ?_|refine Iq rfl zy4 ?_|refine Ir rfl acE ?_))
 ·simp at h2
  have Gg:k=t.kids.length:=af
  exact SN
theorem ace(p:Pg)(hp:p.Fw)(hs:p.sig.bB.length<=100)(n:Nat)(r:Rl)(hr:p.rules[n]? =some r)(h4:r.ay.length<=4)(fp:∀t∈r.ay,t.fits):∀t:Tm,t.fits->t.sz<=500->(∀x∈fu t,x.kids.length<=1000)->∀ (q:List Int) (b:Bool),q.length+t.l5<=100000->
 aT Tryz.prog 44 [p.d, .i n,t.d, .sl (q.map .i), .bool b] (.ret [.sl ((HH (c8 p) n r t q b).map Cl.d)]):=by
 have nD:(c8 p).length<=100:=by
  unfold c8
  have h1:=List.length_filter_le (fun n=>(p.rules.flatMap fun r=>je r.rhs).contains n) ((List.range p.sig.bB.length).map fun n:Nat=>(n:Int))
  rw[List.length_map,List.length_range]at h1
  omega
 have vE:=hp.len
 have vH:=(List.getElem?_eq_some_iff.1 hr).1
 refine Tm.dN fun t ih hf hz GA q b hq=> ?_
 have kC:=(Tm.bu _).1 hf
 have hk0:t.kids.length<=1000:=GA t (by rw[iJ];simp)
 refine aT.aF mix adL aL ?_
 rw[c44,Lu]
 by_cases h4:t.op=4
 ·have GF:(t.op==4)=true:=by simpa using h4
  have LX:(t.op==6)=false:=by rw[h4];rfl
  refine CJ hr GF LX ?_
  refine a8 (OA r t.kids af hk0 fp kC.2) ?_
  refine CJ hr GF LX ?_
  have vF:tw (c8 p) n r ⟨t,q,b⟩=[⟨n,r.fn,t.n,q,b,sw r.ay t.kids⟩]:=by unfold tw;rw[if_pos h4]
  rw[vF]
  refine zJ hf hz b hq nD (fun x hx q b hq=>ih x hx (kC.2 x hx) IE (fun y hy=>GA y Sd) q b hq) [⟨n,r.fn,t.n,q,b,sw r.ay t.kids⟩] aL ?_ fun e' n' he=> ?_
  ·refine aZ.iK (fun j=>2<=j) _ 2 _ af (fun j hj=> ?_) (ofH_2 _ _ _) (.inr ⟨_,_, ?_,rfl,by(repeat(first|rfl|rw[ad]|rw[ag _ _ _ _ (by omega)]))⟩) (fun j hj=>by unfold F8;(repeat(first|rfl|rw[ad]|rw[ag _ _ _ _ (by omega)]))) (fun j h h2=>af) ?_
   ·exact R1
   ·decide
   ·exact qz
  ·exact RZ he
 ·have GF:(t.op==4)=false:=by simpa using h4
  by_cases h6:t.op=6
  ·have LX:(t.op==6)=true:=by simpa using h6
   have vF:tw (c8 p) n r ⟨t,q,b⟩=(c8 p).map fun to=>⟨n,r.fn,to,q,b,[]⟩:=by unfold tw;rw[if_neg h4,if_pos h6]
   rw[vF]
   refine CJ hr GF LX ?_
   refine a8 (Ea p hp af) ?_
   refine CJ hr GF LX ?_
   have acf:∀to:Int,Good (aA (aA (aA (aA (fun _=>ab.no) 0 (.row p.row)) 1 (.row t.row)) 9 (.row r.row)) 17 (.row [.d (.i n), .d (.i r.fn), .d (.i to), .d (.sl (q.map .i)), .d (.bool b), .bd])) 18:=fun to=>eH
   refine aw (fun i:Nat×Int=>⟨aS [.aa, .d (.i n), .aa, .d (.sl (q.map .i)), .d (.bool b), .ptr 0 0, .aa, .ptr 1 0, .aa, .aa, .aa, .osl 18 0, .ptr 9 0, .ptr 17 0, .d (.sl ((c8 p).map .i)), .d (.i i.1)],
    aA (aA (aA (aA (aA (fun _=> .no) 0 (.row p.row)) 1 (.row t.row)) 9 (.row r.row)) 17 (.row [.d (.i n), .d (.i r.fn), .d (.i i.2), .d (.sl (q.map .i)), .d (.bool b), .bd])) 18 (.arr 0 40 6 ((((c8 p).take i.1).map fun to=>Cl.mk n r.fn to q b []).map Cl.d)),19⟩)
    (fun i=>i.1<=(c8 p).length) (fun i=>(c8 p).length - i.1) (0,0) (Nat.zero_le _) (aZ.iK (fun _=>False) .bd 18 _ af (fun j hj=> ?_) (ad _ _ _) (.inl ⟨rfl,rfl,bF⟩) (fun j hj=>by(repeat(first|rfl|rw[ad]|rw[ag _ _ _ _ (by omega)]))) (fun _ h=>h.elim) ?_) ?_
   ·refine cD (y:=aA (aA (aA (aA (fun _=>ab.no) 0 (.row p.row)) 1 (.row t.row)) 9 (.row r.row)) 17 (.row [.d (.i n), .d (.i r.fn), .d (.i 0), .d (.sl (q.map .i)), .d (.bool b), .bd]) j) (by rw[dm,dm]) (ag _ _ _ _ af) (br rfl (fun r hr=>(acf 0).refs j r hr))
   ·exact qz
   rintro⟨m,to0⟩ hm
   replace hm:m<=(c8 p).length:=hm
   have EI:(((c8 p).take m).map fun to=>Cl.mk n r.fn to q b []).length<=100:=by rw[List.length_map,List.length_take];omega
   refine mi ?_
   refine ai (fun h7=> ?_) (fun h7=> ?_)
   ·simp at h7
    obtain⟨to,Te⟩:=az h7
    have CG:(c8 p).take (m+1)=(c8 p).take m++[to]:=by rw[List.take_add_one,Te];rfl
    have e3:((c8 p).take m).length<=140737488355327:=by rw[List.length_take];omega
    have e4:(((c8 p).take m).length+1)*80<=140737488355328:=by rw[List.length_take];omega
    refine CJ Te e3 e4 ?_
    refine aj (m+1,to) h7 af (aZ.iK (fun j=>j=18) (.osl 18 1) 18 _ af (fun j hj=> ?_) (ad _ _ _) (.inr ⟨18,1,rfl,rfl,by(repeat(first|rfl|rw[ad]|rw[ag _ _ _ _ (by omega)]));rw[CG];simp⟩) (fun j hj=>by(repeat(first|rfl|rw[ad]|rw[ag _ _ _ _ (by omega)]))) (fun j h h2=>af) ?_)
    ·refine cD (y:=aA (aA (aA (aA (fun _=>ab.no) 0 (.row p.row)) 1 (.row t.row)) 9 (.row r.row)) 17 (.row [.d (.i n), .d (.i r.fn), .d (.i to), .d (.sl (q.map .i)), .d (.bool b), .bd]) j) ?_ (ag _ _ _ _ af) (br rfl (fun r hr=>(acf to).refs j r hr))
     by_cases e17:j=17
     ·subst e17;(repeat(first|rfl|rw[ad]|rw[ag _ _ _ _ (by omega)]))
     ·(repeat(first|rfl|rw[ad]|rw[ag _ _ _ _ (by omega)]))
      rw[ag _ 17 _ _ e17]
    ·exact qz
   ·simp at h7
    have hme:m=(c8 p).length:=af
    subst hme
    rw[List.take_length]
    refine aU ?_
    refine zJ hf hz b hq nD (fun x hx q b hq=>ih x hx (kC.2 x hx) IE (fun y hy=>GA y Sd) q b hq) ((c8 p).map fun to=>Cl.mk n r.fn to q b []) (by rw[List.length_map];omega) ?_ fun e' n' he=> ?_
    ·refine aZ.iK (fun j=>2<=j) (.osl 18 0) 2 _ af (fun j hj=> ?_) (ofH_2 _ _ _) (.inr ⟨18,0,bF,rfl,by(repeat(first|rfl|rw[ad]|rw[ag _ _ _ _ (by omega)]))⟩) (fun j hj=>by unfold F8;(repeat(first|rfl|rw[ad]|rw[ag _ _ _ _ (by omega)]))) (fun j h h2=>af) ?_
     ·exact R1
     ·exact qz
    ·exact RZ he
  ·have LX:(t.op==6)=false:=by simpa using h6
   have vF:tw (c8 p) n r ⟨t,q,b⟩=[]:=by unfold tw;rw[if_neg h4,if_neg h6]
   rw[vF]
   refine CJ hr GF LX ?_
   refine zJ hf hz b hq nD (fun x hx q b hq=>ih x hx (kC.2 x hx) IE (fun y hy=>GA y Sd) q b hq) [] aL ?_ fun e' n' he=> ?_
   ·refine aZ.iK (fun j=>2<=j) .bd 2 _ af (fun j hj=> ?_) (ofH_2 _ _ _) (.inl ⟨rfl,rfl,bF⟩) (fun j hj=>by unfold F8;(repeat(first|rfl|rw[ad]|rw[ag _ _ _ _ (by omega)]))) (fun j h h2=>af) ?_
    ·exact R1
    ·exact qz
   ·exact RZ he
theorem L1(p:Pg)(hp:p.Fw)(h:dZ p=true):aT Tryz.prog 13 [p.d] (.ret [.sl ((kL p).map Cl.d)]):=by
 have vE:=hp.len
 have QE:=Cv (vh h)
 refine aT.aF mix adv aL ?_
 rw[c13]
 refine aU ?_
 refine aw (fun k:Nat=>⟨aS [.aa, .ptr 0 0, .aa, .osl 1 0, .d (.i k)],aA (aA (fun _=> .no) 0 (.row p.row)) 1 (.arr 0 40 6 ((jX p (c8 p) k).map Cl.d)),2⟩)
  (fun k=>k<=p.rules.length) (fun k=>p.rules.length - k) 0 (Nat.zero_le _) (aZ.iK (fun _=>False) .bd 1 _ af (H6 (cD (y:= .row p.row) fi fi (br rfl mm))) (ad _ _ _) (.inl ⟨rfl,rfl,bF⟩) (fun j hj=>by(repeat(first|rfl|rw[ad]|rw[ag _ _ _ _ (by omega)]))) (fun _ h=>h.elim) ?_) (fun k hk=> ?_)
 ·exact qz
 replace hk:k<=p.rules.length:=hk
 have Gg:=nn hp (qw h) k hk
 refine mi ?_
 refine ai (fun h1=> ?_) (fun h1=> ?_)
 ·simp at h1
  obtain⟨r,hr⟩:=az h1
  have RM:=List.mem_of_getElem? hr
  obtain⟨f1,f2,f3⟩:=hp.all r RM
  have Ex:=qo h RM
  have Xl:=rF p (c8 p) hr
  have hru:HH (c8 p) k r r.rhs [] true=Xj (c8 p) k r:=VE (c8 p) k r
  have hll:=zI p (qw h) k r r.rhs [] true
  rw[hru]at hll
  have GA:∀x∈fu r.rhs,x.kids.length<=1000:=fun x hx=>by
   have h1:=VP r.rhs x hx
   have h2:=OB x
   omega
  refine mj hr ?_
  have:=ace p hp af k r hr Ex.len (fun t ht=>(f1.all t ht).1) r.rhs f2 f3 GA [] true (by have:=vj r.rhs;simp;omega)
  rw[hru]at this
  refine dc this ?_
  refine mi ?_
  refine aI bF ?_
  refine aU ?_
  refine aj (k+1) h1 af (aZ.iK (fun j=>j=1) (.osl 1 1) 1 _ af (H6 (cD (y:= .row p.row) fi fi (br rfl mm))) (ad _ _ _) (.inr ⟨1,1,rfl,rfl,by(repeat(first|rfl|rw[ad]|rw[ag _ _ _ _ (by omega)]));rw[Xl];simp⟩) (fun j hj=>by(repeat(first|rfl|rw[ad]|rw[ag _ _ _ _ (by omega)]))) (fun j h h2=>af) ?_)
  exact qz
 ·simp at h1
  have Jx:k=p.rules.length:=af
  subst Jx
  refine aU ?_
  rfl
theorem VQ(p:Pg)(hp:p.Fw):aT Tryz.prog 12 [p.d] (.ret [.bool (dZ p)]):=by
 refine aT.aF mix adu aL ?_
 rw[c12]
 refine aU ?_
 refine aC (Ov p hp) rfl ?_
 exact vJ
theorem VR(p:Pg)(hp:p.Fits):aT Tryz.prog 9 [p.d] (.ret [.bool (iF p)]):=by
 refine aT.aF mix fn9 aL ?_
 rw[c9]
 refine aU ?_
 refine aC (HT p hp) rfl ?_
 exact vJ
theorem acg{σ:Type}(l:List Int)(hl:l.length<=9223372036854775807)(g:Nat)(aQ:List V)(base:Nat)(H:σ->Nat->ab)(step:σ->Int->σ×Bool)(hc:∀r∈V.aG aQ,r<base)(ok:σ->Prop)(aW:∀x∈l,∀s,ok s->(step s x).2=true->ok (step s x).1)
 (h:∀x∈l,∀s,ok s->iO Tryz.prog g (.d (.i x)::aQ) base (H s) (H (step s x).1) (.d (.bool (!(step s x).2)))) (s:σ) (iu:ok s):
 iO Tryz.prog 118 [.d (.sl (l.map D.i)), .func (.func g) [] aQ] base (H s) (H (aq step s l).1) (.d (.i (oV step s l 0))):=by
 intro o nx hI K X hK
 have iq:∀r∈V.aG aQ,r<nx:=fun r hr=>Nat.lt_of_lt_of_le (hc r hr) hI.le
 refine cX.aF mix QT aL ?_
 rw[Uv]
 refine cq ?_
 refine aw (fun i:Nat×σ×(Nat->ab)×Nat=>⟨aS [.d (.sl (l.map D.i)), .func (.func g) [] aQ, .aa, .aa, .aa, .aa, .aa, .d (.i l.length), .d (.i i.1)],i.2.2.1,i.2.2.2⟩)
  (fun i=>i.1<=l.length/\cH base (H i.2.1) i.2.2.1 i.2.2.2/\nx<=i.2.2.2/\(∀id,base<=id->id<nx->i.2.2.1 id=o id)/\aq step s l=aq step i.2.1 (l.drop i.1)/\ok i.2.1/\oV step s l 0=oV step i.2.1 (l.drop i.1) i.1) (fun i=>l.length - i.1) (0,s,o,nx)
  ⟨Nat.zero_le _,hI,Nat.le_refl _,fun _ _ _=>rfl,rfl,iu,rfl⟩ ?_ ?_
 ·exact I4
 rintro⟨k,s',o',nx'⟩ ⟨hk,sY,hn,cN,hf,hZ,tD⟩
 simp only at hk sY hn cN hf hZ tD
 refine cq ?_
 refine ai (fun h1=> ?_) (fun h1=> ?_)
 ·simp at h1
  obtain⟨x,hx⟩:=az h1
  have eU:=List.mem_of_getElem? hx
  have hd:l.drop k=x::l.drop (k+1):=by
   exact V8
  rw[hd]at hf tD
  simp only[aq,oV]at hf tD
  refine Ik hx ?_
  refine dF (h x eU s' hZ _ _ (sY.mono af) _ _ fun o2 n2 m1 m2 m3=> ?_)
  cases hb:(step s' x).2 with
  |true=>
   rw[hb]at hf tD
   simp only[if_true]at hf tD
   refine aU ?_
   have FB:∀r∈V.aG aQ,r<n2+1+1:=fun r hr=>by have:=iq r hr;omega
   exact zw0
  |false=>
   exact SA
 ·exact SC
theorem Eb{σ:Type}(l:List Int)(hl:l.length<=9223372036854775807)(g:Nat)(aQ:List V)(base:Nat)(H:σ->Nat->ab)(step:σ->Int->σ×Bool)(hc:∀r∈V.aG aQ,r<base)(ok:σ->Prop)(aW:∀x∈l,∀s,ok s->(step s x).2=true->ok (step s x).1)
 (h:∀x∈l,∀s,ok s->iO Tryz.prog g (.d (.i x)::aQ) base (H s) (H (step s x).1) (.d (.bool (!(step s x).2)))) (s:σ) (iu:ok s):
 iO Tryz.prog 81 [.d (.sl (l.map D.i)), .func (.func g) [] aQ] base (H s) (H (aq step s l).1) (.d (.bool (!(aq step s l).2))):=by
 intro o nx hI K X hK
 have iq:∀r∈V.aG aQ,r<nx:=fun r hr=>Nat.lt_of_lt_of_le (hc r hr) hI.le
 refine cX.aF mix aap aL ?_
 rw[c81]
 refine ow ?_
 refine bg (acg l hl g aQ base H step hc ok aW h s iu _ _ ?_ _ _ fun o2 n2 m1 m2 m3=> ?_)
 ·exact Es
 refine ow ?_
 have e:decide (0<=oV step s l 0)= !(aq step s l).2:=by
  have:=zk step l s 0 af
  exact SQ
 rw[e]
 exact Mz
theorem ach{x:Int}{g:Nat}{aQ:List V}{base c bx:Nat}{h h2 O:Nat->ab}{r:Bool}(hS:iO Tryz.prog g (.d (.i x)::aQ) base h h2 (.d (.bool r)))(hb:base<=bx)(Mc:bx<c)(hO:O bx= .row [.func (.func g) [] aQ])(hc:∀r∈V.aG aQ,r<base):
 iO Tryz.prog 82 [.d (.i x), .ptr bx 0] c (ext base h O) (ext base h2 O) (.d (.bool (!r))):=by
 intro o nx hI K X hK
 have hle:=hI.le
 have iq:∀r∈V.aG aQ,r<nx:=fun r hr=>by have:=hc r hr;omega
 have ho:o bx= .row [.func (.func g) [] aQ]:=by
  exact Sq
 have y1:∀k,bx≠nx+k:=fun k=>af
 have y2:bx≠nx:=af
 refine cX.aF mix aaq aL ?_
 rw[c82]
 refine Mr ho y1 y2 ?_
 refine dF ((hS.ext (by omega:base<=c) O) _ _ ?_ _ _ fun o2 n2 m1 m2 m3=> ?_)
 ·exact Es
 refine ow ?_
 exact Mz
theorem L2{σ:Type}(l:List Int)(hl:l.length<=9223372036854775807)(g:Nat)(aQ:List V)(base:Nat)(H:σ->Nat->ab)(step:σ->Int->σ×Bool)(hc:∀r∈V.aG aQ,r<base)(ok:σ->Prop)(aW:∀x∈l,∀s,ok s->(step s x).2=true->ok (step s x).1)
 (h:∀x∈l,∀s,ok s->iO Tryz.prog g (.d (.i x)::aQ) base (H s) (H (step s x).1) (.d (.bool (step s x).2))) (s:σ) (iu:ok s):
 iO Tryz.prog 46 [.d (.sl (l.map D.i)), .func (.func g) [] aQ] base (H s) (H (aq step s l).1) (.d (.bool (aq step s l).2)):=by
 intro o nx hI K X hK
 have hle:=hI.le
 have iq:∀r∈V.aG aQ,r<nx:=fun r hr=>Nat.lt_of_lt_of_le (hc r hr) hI.le
 refine cX.aF mix aag aL ?_
 rw[c46]
 refine ow ?_
 refine bg (Eb l hl 82 [.ptr nx 0] (nx+1) (fun s=>ext base (H s) (aA o nx (.row [.func (.func g) [] aQ]))) step nO ok aW (fun x hx s hs=>ach (h x hx s hs) hle af (ad _ _ _) hc) s iu _ _ ?_ _ _ fun o2 n2 m1 m2 m3=> ?_)
 ·have hr:(ab.row [V.func (.func g) [] aQ]).refs.all (fun r=>decide (r<nx+4))=true:=by
   rw[List.all_eq_true]
   intro r hr
   have h1:r∈V.aG aQ:=by simpa[ab.refs,V.aG,V.refs]using hr
   have:=iq r h1
   simp;omega
  exact Sc
 refine ow ?_
 refine hK _ _ af ⟨(m2.mono af).bA,by have:=m2.le;omega,fun id au=> ?_⟩ fun id i1 i2=> ?_
 ·exact Gb
 ·exact R6
def R4(l:List cp):Nat->ab:=aA (fun _=> .no) 1 (.arr 0 64 3 (l.map cp.d))
theorem vw(l:List cp):Good (R4 l) 2:=Good.nil.aA af rfl
theorem rcH_1(l:List cp):R4 l 1= .arr 0 64 3 (l.map cp.d):=by unfold R4;rw[ad]
theorem OD(a b:List cp)(q:Nat):(rp a b q).length<=q:=by
 unfold rp
 have:=List.length_filterMap_le (fun p=>if(nT a b (p/4:Nat) (p%4:Nat)).1=true then some (⟨(p/4:Nat),(p%4:Nat),(nT a b (p/4:Nat) (p%4:Nat)).2⟩:cp)else none) (List.range q)
 simpa using this
theorem vx(a b:List cp)(ha:a.length<=1000000)(hb:b.length<=1000000):aT Tryz.prog 54 [.sl (a.map cp.d), .sl (b.map cp.d)] (.ret [.sl ((rp a b 16).map cp.d)]):=by
 refine aT.aF mix adQ aL ?_
 rw[c54]
 refine aU ?_
 refine aw (fun i:Nat=>⟨aS [.d (.sl (a.map cp.d)), .d (.sl (b.map cp.d)), .aa, .aa, .aa, .osl 1 0, .d (.i i)],R4 (rp a b (i*4)),2⟩)
  (fun i=>i<=4) (fun i=>4 - i) 0 (Nat.zero_le _) (aZ.iK (ty:=64) (sz:=3) (es:=[]) (fun _=>False) .bd 1 _ af (fun j hj=> ?_) (by unfold R4;rw[ad];rfl) (.inl ⟨rfl,rfl,bF⟩) (fun j hj=> ?_) (fun _ h=>h.elim) ?_) (fun i hi=> ?_)
 ·exact qa (y:= .no) rfl Iu (br rfl (by simp[ab.refs]))
 ·exact Iu
 ·exact qz
 replace hi:i<=4:=hi
 refine aU ?_
 refine ai (fun h1=> ?_) (fun h1=> ?_)
 ·replace h1:i<4:=by simp at h1;omega
  refine aU ?_
  refine aw (fun j:Nat=>⟨aS [.d (.sl (a.map cp.d)), .d (.sl (b.map cp.d)), .aa, .aa, .aa, .osl 1 0, .d (.i i), .d (.i j)],R4 (rp a b (i*4+j)),2⟩)
   (fun j=>j<=4) (fun j=>4 - j) 0 (Nat.zero_le _) (aZ.aR _ (show 0<=2 from af) af (vw _) (fun j hj=>rfl) ?_) (fun j hj=> ?_)
  ·exact bO
  replace hj:j<=4:=hj
  refine aU ?_
  refine ai (fun h2=> ?_) (fun h2=> ?_)
  ·replace h2:j<4:=by simp at h2;omega
   have KW:=J7 a b (i*4+j)
   have e1:(i*4+j)/4=i:=af
   have e2:(i*4+j)%4=j:=af
   rw[e1,e2]at KW
   have hlen:=OD a b (i*4+j)
   refine aU ?_
   refine aC (HK a b ha hb i j) rfl ?_
   cases ht:(nT a b i j).1 with
   |true=>
    rw[if_pos ht]at KW
    simp+contextual (disch:=first|omega|simp only[go_sem,false_implies]) only[go_sem,wrap64,if_pos,rcH_1,List.length_map]
    refine aj (j+1) h2 af (aZ.iK (fun j=>j=1) (.osl 1 1) 1 _ af (fun q hq=> ?_) (rcH_1 _) (.inr ⟨1,1,rfl,rfl, ?_⟩) (fun q hq=> ?_) (fun q h h2=>af) ?_)
    ·exact qa (y:= .no) Iu Iu (br rfl (by simp[ab.refs]))
    ·(repeat(first|rfl|rw[ad]|rw[ag _ _ _ _ (by omega)]))
     rw[<- Nat.add_assoc,KW,List.map_append];rfl
    ·exact Iu
    ·exact qz
   |false=>
    rw[if_neg (by rw[ht];simp),List.append_nil]at KW
    refine aU ?_
    refine aj (j+1) h2 af (aZ.aR _ (show 0<=2 from af) af (vw _) (fun q hq=> ?_) ?_)
    ·rw[<- Nat.add_assoc,KW]
    ·exact bO
  ·have pA:j=4:=by simp at h2;omega
   subst pA
   refine aU ?_
   refine aj (i+1) h1 af (aZ.aR _ (show 0<=2 from af) af (vw _) (fun q hq=> ?_) ?_)
   ·rw[show(i+1)*4=i*4+4 by omega]
   ·exact bO
 ·have mG:i=4:=by simp at h1;omega
  subst mG
  simp+contextual (disch:=first|omega|simp only[go_sem,false_implies]) only[go_sem,wrap64,if_pos,rcH_1]
end Go.Proofs.YtnkamdiiakdkgaaGreat
set_option pp.deepTerms true
set_option pp.maxSteps 1000000
namespace Go.Proofs.YtnkamdiiakdkgaaGreat
def cM(c:Cl):List Int:=(sR c.On).1
structure HZ (c:Cl):Prop where
 mat:kM (cM c)
 eq:c.On=cL (cM c) 16
theorem OE:kM xd:=⟨rfl,bF⟩
theorem L3{m:List Int}(hm:kM m):sR (cL m 16)=(m,true):=by unfold sR;rw[yO hm]
theorem Cz{m:List Int}(hm:kM m){c:Cl}(h:c.On=cL m 16):HZ c:=by
 have e:cM c=m:=by unfold cM;rw[h,L3 hm]
 exact⟨e ▸ hm,e.symm ▸ h⟩
theorem CA{p:Pg}(h:dZ p=true):∀c∈kL p,HZ c:=by
 intro c hc
 unfold kL jX at hc
 obtain⟨n,hn,hc⟩:=List.mem_flatMap.1 hc
 cases hr:p.rules[n]? with
 |none=>rw[hr]at hc;cases hc
 |some r=>
  rw[hr]at hc
  have hk:=qo h (List.mem_of_getElem? hr)
  obtain⟨x,hx,hc⟩:=List.mem_flatMap.1 hc
  unfold tw at hc
  split at hc
  ·rename_i h4
   simp only[List.mem_singleton]at hc
   subst hc
   exact Cz (B9 r.ay x.t.kids) (Cb _ _ hk.len (hk.kids (vh h) hx h4)).symm
  ·split at hc
   ·obtain⟨to,_,rfl⟩:=List.mem_map.1 hc
    exact Cz OE (by rfl)
   ·cases hc
def Ih(l:List Cl)(n:Int):List Int:=match l[n.toNat]? with
 |some c=>cM c
 |none=>se
theorem zK{l:List Cl}(hl:∀c∈l,HZ c)(n:Int):kM (Ih l n):=by
 unfold Ih
 split
 ·rename_i c hc;exact(hl c (List.mem_of_getElem? hc)).mat
 ·exact pW
def zL(l:List Cl)(cy:List Int):List Int:=(cy.map (Ih l)).foldl fT se
theorem L4(l:List Cl)(cy:List Int)(n:Int):zL l (cy++[n])=fT (zL l cy) (Ih l n):=by unfold zL;rw[List.map_append,List.foldl_append];rfl
theorem vy(l:List Cl){cy:List Int}{k:Nat}{n:Int}(h:cy[k]? =some n):zL l (cy.take (k+1))=fT (zL l (cy.take k)) (Ih l n):=by
 rw[List.take_add_one,h,Option.toList_some,L4]
theorem CB:∀ (ms:List (List Int)) (m:List Int),kM m->(∀x∈ms,kM x)->kM (ms.foldl fT m)
 |[],m,h,_=>h
 |x::ms,m,h,h2=>CB ms _ (kp h (h2 x aL)) fun y hy=>h2 y rL
theorem tv{l:List Cl}(hl:∀c∈l,HZ c)(cy:List Int):kM (zL l cy):=by
 unfold zL
 refine CB _ _ pW fun x hx=> ?_
 obtain⟨n,_,rfl⟩:=List.mem_map.1 hx
 exact zK hl n
def Ii(l:List Cl)(cy:List Int):Bool:=cy.all fun n=>decide (0<=n)&&decide (n<(l.length:Int))
theorem nM{l:List Cl}{cy:List Int}(h:Ii l cy=true){k:Nat}{n:Int}(hk:cy[k]? =some n):0<=n/\∃c,l[n.toNat]? =some c:=by
 have:=List.all_eq_true.1 h n (List.mem_of_getElem? hk)
 simp at this
 exact⟨this.1,az af⟩
def RN(l:List Cl)(cy:List Int)(k:Nat):Bool:=match cy[k]?,cy[(k+1)%cy.length]? with
 |some a,some b=>(match l[a.toNat]?,l[b.toNat]? with
  |some x,some y=>x.to==y.fr
  |_,_=>false)
 |_,_=>false
def L5(l:List Cl)(cy:List Int):Bool:=(List.range cy.length).all (RN l cy)
def qy(l:List Cl)(cy:List Int):Bool:=dG cy.length 1 40&&(Ii l cy&&L5 l cy)
def Ec(p:Pg)(cy:List Int):Bool×Int:=if(dZ p&&qy (kL p) cy)=true then(if(kL p).length<=60 then(l6 (zL (kL p) cy),0)else(false,3))else(false,2)
theorem F4{l:List Cl}{cy:List Int}{k:Nat}(hk:k<cy.length)(h:RN l cy k=false):L5 l cy=false:=by
 rw[Bool.eq_false_iff]
 intro h2
 have:=List.all_eq_true.1 h2 k (List.mem_range.2 hk)
 rw[h]at this;cases this
def VS(p:Pg)(l:List Cl):Nat->ab:=aA (aA (fun _=> .no) 0 (.row p.row)) 19 (.row [.d (.sl (l.map Cl.d))])
theorem aci(l:List Cl)(hl:l.length<=100000000)(n:Int)(base tb:Nat)(h:Nat->ab)(ht:h tb= .row [.d (.sl (l.map Cl.d))])(hb:tb<base):iO Tryz.prog 47 [.d (.i n), .ptr tb 0] base h h (.d (.bool (decide (0<=n)&&decide (n<(l.length:Int))))):=by
 intro o nx hI K X hK
 have hle:=hI.le
 have ot:o tb= .row [.d (.sl (l.map Cl.d))]:=by rw[hI.eq tb hb,ht]
 refine cX.aF mix aah aL ?_
 rw[c47]
 cases h0:decide ((0:Int)<=n)with
 |false=>
  rw[h0,Bool.false_and]at hK
  refine qF ot h0 ?_
  exact hK _ _ af (hI.mono af) (fun id i1 i2=>rfl)
 |true=>
  rw[h0,Bool.true_and]at hK
  refine H4 ot h0 ?_
  exact hK _ _ af (hI.mono af) (fun id i1 i2=>rfl)
def Mq(k:Nat):List Int:=(List.range 16).map fun p=>if p/4=p%4/\p/4<k then 1 else 0
theorem F5(k:Nat):(Mq k).length=16:=by simp[Mq]
theorem idP_4:Mq 4=se:=bF
theorem L6{k:Nat}(h:k<4):Mq (k+1)=(Mq k).set (k*4+k) 1:=by
 have:∀k,k<4->Mq (k+1)=(Mq k).set (k*4+k) 1:=bF
 exact this k h
theorem Ed(p:Pg)(hf:p.Fin)(hp:p.Fw)(hq:u5 p=dZ p)(cy:List Int)(kV:cy.length<=9223372036854775807):aT Tryz.prog 16 [p.d, .sl (cy.map .i)] (.ret [.bool (Ec p cy).1, .i (Ec p cy).2]):=by
 refine aT.aF mix aac aL ?_
 rw[c16,Ec]
 refine aU ?_
 refine aC (Lm p hf) rfl ?_
 cases h1:dZ p with
 |false=>
  rw[hq,h1]
  simp+contextual (disch:=first|omega|simp only[go_sem,false_implies]) only[go_sem,wrap64,if_pos,kN]
 |true=>
 rw[hq,h1]
 by_cases h2:cy.length=0
 ·have hc:qy (kL p) cy=false:=by unfold qy dG;simp[h2]
  have pA:((cy.length:Int)==0)=true:=by simp[h2]
  rw[hc]
  simp+contextual (disch:=first|omega|simp only[go_sem,false_implies]) only[go_sem,wrap64,if_pos,kN,List.length_map,pA]
 by_cases h3:40<cy.length
 ·have hd:decide ((cy.length:Int)<=40)=false:=by simp;omega
  have hc:qy (kL p) cy=false:=by unfold qy dG;rw[hd];simp
  have pA:((cy.length:Int)==0)=false:=by rw[beq_eq_false_iff_ne];omega
  have mL:decide ((cy.length:Int)>40)=true:=by simp;omega
  rw[hc]
  simp+contextual (disch:=first|omega|simp only[go_sem,false_implies]) only[go_sem,wrap64,if_pos,kN,List.length_map,pA,mL]
 have VT:dG cy.length 1 40=true:=by unfold dG;rw[Bool.and_eq_true];exact⟨decide_eq_true af,decide_eq_true af⟩
 have pA:((cy.length:Int)==0)=false:=by rw[beq_eq_false_iff_ne];omega
 have mL:decide ((cy.length:Int)>40)=false:=by simp;omega
 have JM:(kL p).length<=50500000:=by
  have:=nn hp (qw h1) p.rules.length (Nat.le_refl _)
  have:=hp.len
  unfold kL;omega
 have aer:qy (kL p) cy=(Ii (kL p) cy&&L5 (kL p) cy):=by unfold qy;rw[VT,Bool.true_and]
 simp+contextual (disch:=first|omega|simp only[go_sem,false_implies]) only[go_sem,wrap64,if_pos,kN,List.length_map,pA,mL]
 refine a8 (HW p hp h1) ?_
 refine aU ?_
 refine a8 (VO p hp h1) ?_
 have nY:=CA h1
 rw[aer]
 generalize kL p=l at JM nY|-
 refine aU ?_
 have hB:Good (VS p l) 21:=by unfold VS;exact eH
 have kB:VS p l 19= .row [.d (.sl (l.map Cl.d))]:=by unfold VS;(repeat(first|rfl|rw[ad]|rw[ag _ _ _ _ (by omega)]))
 refine bg (L2 cy kV 47 [.ptr 19 0] 21 (fun _:Unit=>VS p l) (fun _ n=>((),decide (0<=n)&&decide (n<(l.length:Int)))) nO (fun _=>True) (fun _ _ _ _ _=>trivial) (fun x hx _ _=>aci l af x 21 19 _ kB af) () trivial _ _ ⟨?_, ?_,fun id au=> ?_⟩ _ _ fun o2 n2 m1 m2 m3=> ?_)
 ·exact eH
 ·omega
 ·unfold VS;rw[dm]
 rw[nr]
 have AA:(cy.all fun n=>decide (0<=n)&&decide (n<(l.length:Int)))=Ii l cy:=rfl
 rw[AA]
 cases h4:Ii l cy with
 |false=>exact zM h4
 |true=>
 have q0:o2 0= .row p.row:=by rw[m2.eq 0 (by omega)];unfold VS;(repeat(first|rfl|rw[ad]|rw[ag _ _ _ _ (by omega)]))
 have q19:o2 19= .row [.d (.sl (l.map Cl.d))]:=by rw[m2.eq 19 (by omega)];exact kB
 have hg:=m2.bA
 refine aU ?_
 have iX:∀m:List Int,Good (aA o2 (n2+1) (mR m)) (n2+2):=fun m=>(hg.mono af).aA af (ou _ _)
 refine aw (fun k:Nat=>⟨aS [.aa, .d (.sl (cy.map D.i)), .ptr 0 0, .aa, .aa, .aa, .ptr 19 0, .ptr (n2+1) 0, .aa, .aa, .aa, .aa, .aa, .aa, .aa, .aa, .aa, .aa, .aa, .aa, .aa, .aa, .aa, .aa, .aa, .aa, .aa, .aa, .aa, .aa, .aa, .aa, .aa, .d (.i k)],aA o2 (n2+1) (mR (Mq k)),n2+2⟩)
  (fun k=>k<=4) (fun k=>4 - k) 0 (Nat.zero_le _) (aZ.aR _ (show 0<=n2+2 from af) af (iX _) (fun j hj=>rfl) ?_) (fun k hk=> ?_)
 ·exact bO
 replace hk:k<=4:=hk
 refine aU ?_
 refine ai (fun h5=> ?_) (fun h5=> ?_)
 ·replace h5:k<4:=by simp at h5;omega
  have KU:=rq (Mq k) (k*4+k) 1 (by rw[F5];omega)
  rw[<- L6 h5]at KU
  have Ib:k*4+k+1<=(Mq k).length:=by rw[F5];omega
  simp+contextual (disch:=first|omega|simp only[go_sem,false_implies]) only[go_sem,wrap64,if_pos,Int.toNat_natCast,Nat.mul_one,KU,if_pos Ib]
  refine aj (k+1) h5 af (aZ.aR _ (show 0<=n2+2 from af) af (iX _) (fun j hj=>by rw[dm]) ?_)
  exact bO
 have vC:k=4:=by simp at h5;omega
 subst vC
 rw[idP_4]
 refine mi ?_
 refine aw (fun i:Nat=>⟨aS [.aa, .d (.sl (cy.map D.i)), .ptr 0 0, .aa, .aa, .aa, .ptr 19 0, .ptr (n2+1) 0, .aa, .aa, .aa, .aa, .aa, .aa, .aa, .aa, .aa, .aa, .aa, .aa, .aa, .aa, .aa, .aa, .aa, .aa, .aa, .aa, .aa, .aa, .aa, .aa, .aa, .aa, .aa, .aa, .aa, .aa, .aa, .aa, .aa, .d (.sl (cy.map D.i)), .d (.i cy.length), .d (.i i)],aA o2 (n2+1) (mR (zL l (cy.take i))),n2+2⟩)
  (fun i=>i<=cy.length/\∀k,k<i->RN l cy k=true) (fun i=>cy.length - i) 0 ⟨Nat.zero_le _,fun k h=>absurd h (Nat.not_lt_zero _)⟩ (aZ.aR _ (show 0<=n2+2 from af) af (iX _) (fun j hj=>rfl) ?_) (fun i hi=> ?_)
 ·exact bO
 obtain⟨hi,DW⟩:=hi
 refine aU ?_
 refine ai (fun h6=> ?_) (fun h6=> ?_)
 ·simp at h6
  obtain⟨n,hn⟩:=az h6
  have VU:(i+1)%cy.length<cy.length:=Nat.mod_lt _ af
  obtain⟨b,hb⟩:=az VU
  obtain⟨n0,c,hc⟩:=nM h4 hn
  obtain⟨b0,d,hd⟩:=nM h4 hb
  obtain⟨c1,c2,c3,c4,c5,c6⟩:=c
  obtain⟨d1,d2,d3,d4,d5,d6⟩:=d
  have hmc:=nY _ (List.mem_of_getElem? hc)
  have j9: ¬ ((cy.length:Int)=0):=af
  have htm:((i:Int)+1).tmod (cy.length:Int)=(((i+1)%cy.length:Nat):Int):=by
   show Int.tmod (Int.ofNat (i+1)) (Int.ofNat cy.length)=_
   rfl
  have hl:RN l cy i=(c3==d2):=by unfold RN;rw[hn,hb];simp only;rw[hc,hd]
  have hmo:Ih l n=(sR c6).1:=by unfold Ih;rw[hc];rfl
  have hwt:=vy l hn
  rw[hmo]at hwt
  have hm6:kM (sR c6).1:=hmc.mat
  have hw:=tv nY (cy.take i)
  simp+contextual (disch:=first|omega|simp only[go_sem,false_implies]) only[go_sem,wrap64,if_pos,hn,q19,hc,hd,Cl.Bp,List.length_map,Option.map_some,hb,if_neg j9,htm,Int.toNat_natCast]
  refine aI (aO rfl) ?_
  cases he:(c3==d2)with
  |false=>
   have Ee:(c3 !=d2)=true:=by rw[bne,he];rfl
   rw[he]at hl
   rw[F4 h6 hl]
   exact zM Ee
  |true=>
   have Ee:(c3 !=d2)=false:=by rw[bne,he];rfl
   rw[he]at hl
   have hl6:c6.length<=1000000:=by
    have h1:=hmc.eq
    have h2:=nB (cM ⟨c1,c2,c3,c4,c5,c6⟩) 16
    simp only at h1
    rw[<- h1]at h2;omega
   simp+contextual (disch:=first|omega|simp only[go_sem,false_implies]) only[go_sem,wrap64,if_pos,Ee,hn,q19,hc,Cl.Bp,List.length_map,Option.map_some]
   refine a8 (NT c6 hl6) ?_
   simp+contextual (disch:=first|omega|simp only[go_sem,false_implies]) only[go_sem,wrap64,if_pos,jJ _ hm6.1,jJ _ hw.1,eD,gW,dn _ hm6.1,dn _ hw.1]
   refine a8 (Ve _ _ hw.1 hm6.1) ?_
   have aeQ:(fT (zL l (cy.take i)) (sR c6).1).length=16:=(kp hw hm6).1
   simp+contextual (disch:=first|omega|simp only[go_sem,false_implies]) only[go_sem,wrap64,if_pos,gW,dn _ hw.1]
   refine aj (i+1) ⟨h6,fun k hk=> ?_⟩ af (aZ.aR _ (show 0<=n2+2 from af) af (iX _) (fun j hj=> ?_) ?_)
   ·by_cases e:k=i
    ·rw[e];exact hl
    ·exact DW k af
   ·rw[hwt]
    by_cases ej:j=n2+1
    ·subst ej;(repeat(first|rfl|rw[ad]|rw[ag _ _ _ _ (by omega)]))
     rw[List.drop_eq_nil_of_le (by rw[dn _ hw.1];exact Nat.le_refl _),List.append_nil]
    ·exact fi
   ·exact bO
 ·simp at h6
  have Js:i=cy.length:=af
  subst Js
  rw[List.take_length]
  have hlf:L5 l cy=true:=List.all_eq_true.2 fun k hk=>DW k (List.mem_range.1 hk)
  have hw:=tv nY cy
  rw[hlf]
  by_cases h60:l.length<=60
  ·have CC:decide (60<(l.length:Int))=false:=by simp;omega
   simp+contextual (disch:=first|omega|simp only[go_sem,false_implies]) only[go_sem,wrap64,if_pos,q19,List.length_map,CC,jJ _ hw.1,eD,gW,dn _ hw.1]
   refine aC (NW _ hw.1) rfl ?_
   simp+contextual (disch:=first|omega|simp only[go_sem,false_implies]) only[go_sem,wrap64,if_pos,if_pos h60]
  ·have CC:decide (60<(l.length:Int))=true:=by simp;omega
   simp+contextual (disch:=first|omega|simp only[go_sem,false_implies]) only[go_sem,wrap64,if_pos,q19,List.length_map,CC,if_neg h60]
theorem H3{l:List cp}{k:Nat}{a:cp}(h:l[k]? =some a):om (l.take (k+1))=(om (l.take k)||(a.f==a.t&&a.l)):=lr h _
theorem L7(l:List cp)(hl:l.length<=1000000):aT Tryz.prog 53 [.sl (l.map cp.d)] (.ret [.bool (om l)]):=by
 refine aT.aF mix adP aL ?_
 rw[c53]
 refine aU ?_
 refine aw (fun k:Nat=>⟨aS [.d (.sl (l.map cp.d)), .aa, .aa, .d (.i k)],fun _=> .no,0⟩)
  (fun k=>k<=l.length/\om (l.take k)=false) (fun k=>l.length - k) 0 ⟨Nat.zero_le _,rfl⟩ (aZ.d0 _ ?_) (fun k hk=> ?_)
 ·exact bO
 obtain⟨hk,iX⟩:=hk
 refine mi ?_
 refine ai (fun h2=> ?_) (fun h2=> ?_)
 ·simp at h2
  obtain⟨a,ha⟩:=az h2
  have iW:=H3 ha
  rw[iX,Bool.false_or]at iW
  have mH:(a.f==a.t&&a.l)=true->om l=true:=fun h=>List.any_eq_true.2 ⟨a,List.mem_of_getElem? ha,h⟩
  cases c1:(a.f==a.t)with
  |false=>
   rw[c1,Bool.false_and]at iW
   refine qF ha c1 ?_
   exact YD
  |true=>
   rw[c1,Bool.true_and]at iW mH
   cases c2:a.l with
   |false=>
    rw[c2]at iW
    refine sC ha c1 c2 ?_
    exact YD
   |true=>
    rw[mH c2]
    refine sC ha c1 c2 ?_
    refine aI (aO rfl) ?_
    exact vJ
 ·exact PJ
theorem acj(l:List Cl)(hl:l.length<=100000000)(cy:List Int)(kV:cy.length<=9223372036854775807):aT Tryz.prog 17 [.sl (l.map Cl.d), .sl (cy.map .i)] (.ret [.bool (qy l cy)]):=by
 refine aT.aF mix adx aL ?_
 rw[c17]
 refine mi ?_
 refine aC (LF _ _ _) rfl ?_
 unfold qy dG
 cases VT:(decide (1<=(cy.length:Int))&&decide ((cy.length:Int)<=40))with
 |false=>
  exact zM VT
 |true=>
 have aeR:1<=cy.length/\cy.length<=40:=by
  rw[Bool.and_eq_true]at VT
  have h1:=of_decide_eq_true VT.1
  have h2:=of_decide_eq_true VT.2
  omega
 rw[Bool.true_and]
 refine gB VT ?_
 refine aw (fun k:Nat=>⟨aS [.d (.sl (l.map Cl.d)), .d (.sl (cy.map .i)), .aa, .aa, .aa, .d (.i cy.length), .d (.i k)],fun _=> .no,0⟩)
  (fun k=>k<=cy.length/\Ii l (cy.take k)=true) (fun k=>cy.length - k) 0 ⟨Nat.zero_le _,rfl⟩ (aZ.d0 _ ?_) (fun k hk=> ?_)
 ·exact bO
 obtain⟨hk,iX⟩:=hk
 refine mi ?_
 refine ai (fun h2=> ?_) (fun h2=> ?_)
 ·simp at h2
  obtain⟨x,hx⟩:=az h2
  have iW:Ii l (cy.take (k+1))=(decide (0<=x)&&decide (x<(l.length:Int))):=by
   unfold Ii at iX|-
   rw[List.take_add_one,hx,Option.toList_some,List.all_append,iX,Bool.true_and]
   simp
  have hle:decide (x<=(l.length:Int) - 1)=decide (x<(l.length:Int)):=by
   rw[decide_eq_decide];omega
  refine mj hx ?_
  refine aC (LF _ _ _) rfl ?_
  rw[hle]
  cases hb:(decide (0<=x)&&decide (x<(l.length:Int)))with
  |false=>
   have AA:Ii l cy=false:=by
    rw[Bool.eq_false_iff];intro h
    have:=List.all_eq_true.1 h x (List.mem_of_getElem? hx)
    rw[hb]at this;cases this
   rw[AA]
   exact zM hb
  |true=>
   refine gB hb ?_
   refine aj (k+1) ⟨h2,iW.trans hb⟩ af (aZ.d0 _ ?_)
   exact bO
 ·simp at h2
  have Jx:k=cy.length:=af
  subst Jx
  rw[List.take_length]at iX
  rw[iX,Bool.true_and]
  have h4:=iX
  refine aU ?_
  refine aw (fun i:Nat=>⟨aS [.d (.sl (l.map Cl.d)), .d (.sl (cy.map .i)), .aa, .aa, .aa, .d (.i cy.length), .aa, .d (.i i)],fun _=> .no,0⟩)
   (fun i=>i<=cy.length/\∀k,k<i->RN l cy k=true) (fun i=>cy.length - i) 0 ⟨Nat.zero_le _,fun k h=>absurd h (Nat.not_lt_zero _)⟩ (aZ.d0 _ ?_) (fun i hi=> ?_)
  ·exact bO
  obtain⟨hi,DW⟩:=hi
  refine aU ?_
  refine ai (fun h6=> ?_) (fun h6=> ?_)
  ·simp at h6
   obtain⟨n,hn⟩:=az h6
   have VU:(i+1)%cy.length<cy.length:=Nat.mod_lt _ af
   obtain⟨b,hb⟩:=az VU
   obtain⟨n0,c,hc⟩:=nM h4 hn
   obtain⟨b0,d,hd⟩:=nM h4 hb
   obtain⟨c1,c2,c3,c4,c5,c6⟩:=c
   obtain⟨d1,d2,d3,d4,d5,d6⟩:=d
   have j9: ¬ ((cy.length:Int)=0):=af
   have htm:((i:Int)+1).tmod (cy.length:Int)=(((i+1)%cy.length:Nat):Int):=by
    show Int.tmod (Int.ofNat (i+1)) (Int.ofNat cy.length)=_
    rfl
   have hl:RN l cy i=(c3==d2):=by unfold RN;rw[hn,hb];simp only;rw[hc,hd]
   simp+contextual (disch:=first|omega|simp only[go_sem,false_implies]) only[go_sem,wrap64,if_pos,hn,hc,hd,Cl.Bp,List.length_map,Option.map_some,hb,if_neg j9,htm,Int.toNat_natCast]
   refine aI (aO rfl) ?_
   cases he:(c3==d2)with
   |false=>
    have Ee:(c3 !=d2)=true:=by rw[bne,he];rfl
    rw[he]at hl
    rw[F4 h6 hl]
    exact zM Ee
   |true=>
    have Ee:(c3 !=d2)=false:=by rw[bne,he];rfl
    rw[he]at hl
    refine gB Ee ?_
    refine aj (i+1) ⟨h6,fun k hk=> ?_⟩ af (aZ.d0 _ ?_)
    ·by_cases e:k=i
     ·rw[e];exact hl
     ·exact DW k af
    ·exact bO
  ·simp at h6
   have Js:i=cy.length:=af
   subst Js
   have hlf:L5 l cy=true:=List.all_eq_true.2 fun k hk=>DW k (List.mem_range.1 hk)
   rw[hlf]
   exact vJ
theorem Eg(l:List Cl)(hl:l.length<=100000000)(nY:∀c∈l,HZ c)(cy:List Int)(kV:cy.length<=1000)(h0:cy≠[])(AA:Ii l cy=true):aT Tryz.prog 52 [.sl (l.map Cl.d), .sl (cy.map .i)] (.ret [.sl ((cL (zL l cy) 16).map cp.d)]):=by
 refine aT.aF mix adO aL ?_
 rw[c52]
 have ck:0<cy.length:=List.length_pos_iff.2 h0
 obtain⟨n,hn⟩:=az ck
 obtain⟨n0,c,hc⟩:=nM AA hn
 have hmc:=nY _ (List.mem_of_getElem? hc)
 obtain⟨c1,c2,c3,c4,c5,c6⟩:=c
 have h1:c6=cL (zL l (cy.take 1)) 16:=by
  have:=vy l hn
  rw[List.take_zero]at this
  rw[this,show zL l []=se from rfl,Nw (zK nY n)]
  have e:Ih l n=cM ⟨c1,c2,c3,c4,c5,c6⟩:=by unfold Ih;rw[hc]
  rw[e];exact hmc.eq
 simp+contextual (disch:=first|omega|simp only[go_sem,false_implies]) only[go_sem,wrap64,if_pos,hn,hc,Cl.Bp,Option.map_some,Int.toNat_natCast]
 rw[h1]
 refine aw (fun k:Nat=>⟨aS [.d (.sl (l.map Cl.d)), .d (.sl (cy.map .i)), .aa, .aa, .aa, .d (.sl ((cL (zL l (cy.take k)) 16).map cp.d)), .d (.i k)],fun _=> .no,0⟩)
  (fun k=>1<=k/\k<=cy.length) (fun k=>cy.length - k) 1 ⟨Nat.le_refl _,ck⟩ (aZ.d0 _ ?_) (fun k hk=> ?_)
 ·exact bO
 obtain⟨Wi,hk⟩:=hk
 refine mi ?_
 refine ai (fun h2=> ?_) (fun h2=> ?_)
 ·simp at h2
  obtain⟨m,hm⟩:=az h2
  obtain⟨m0,d,hd⟩:=nM AA hm
  have hmd:=nY _ (List.mem_of_getElem? hd)
  obtain⟨d1,d2,d3,d4,d5,d6⟩:=d
  have hwt:=vy l hm
  have e:Ih l m=cM ⟨d1,d2,d3,d4,d5,d6⟩:=by unfold Ih;rw[hd]
  have hd6:d6=cL (Ih l m) 16:=by rw[e];exact hmd.eq
  have hrc:=tf (tv nY (cy.take k)) (zK nY m)
  rw[<- hwt, <- hd6]at hrc
  have l1:=nB (zL l (cy.take k)) 16
  have l2:d6.length<=16:=by rw[hd6];exact nB _ _
  simp+contextual (disch:=first|omega|simp only[go_sem,false_implies]) only[go_sem,wrap64,if_pos,hm,hd,Cl.Bp,Option.map_some]
  have hcc:=vx (cL (zL l (cy.take k)) 16) d6 af af
  rw[hrc]at hcc
  refine a8 hcc ?_
  refine aU ?_
  refine aj (k+1) ⟨af,h2⟩ af (aZ.d0 _ ?_)
  exact bO
 ·simp at h2
  rw[List.take_of_length_le h2]
  exact vJ
theorem CD(l:List Cl)(hl:l.length<=100000000)(nY:∀c∈l,HZ c)(cy:List Int)(kV:cy.length<=1000)(h0:cy≠[])(AA:Ii l cy=true):aT Tryz.prog 18 [.sl (l.map Cl.d), .sl (cy.map .i)] (.ret [.bool (l6 (zL l cy))]):=by
 have hm:=tv nY cy
 refine aT.aF mix ady aL ?_
 rw[c18, <- G6 hm]
 refine aU ?_
 refine a8 (Eg l hl nY cy kV h0 AA) ?_
 refine aU ?_
 generalize zL l cy=m at hm|-
 refine aw (fun k:Nat=>⟨aS [.aa, .aa, .aa, .aa, .aa, .d (.sl ((cL m 16).map cp.d)), .d (.sl ((cL (oZ m k) 16).map cp.d)), .d (.i k)],fun _=> .no,0⟩)
  (fun k=>k<=4/\pY (cL m 16) 4 (cL m 16)=pY (cL m 16) (4 - k) (cL (oZ m k) 16)) (fun k=>4 - k) 0 ⟨Nat.zero_le _,rfl⟩ (aZ.d0 _ ?_) (fun k hk=> ?_)
 ·exact bO
 obtain⟨hk,iX⟩:=hk
 refine aU ?_
 refine ai (fun h2=> ?_) (fun h2=> ?_)
 ·replace h2:k<4:=by simp at h2;omega
  have iW:pY (cL m 16) (4 - k) (cL (oZ m k) 16)=(om (cL (oZ m k) 16)||pY (cL m 16) (4 - (k+1)) (rp (cL (oZ m k) 16) (cL m 16) 16)):=by
   rw[show 4 - k=(4 - (k+1))+1 by omega];rfl
  rw[iW,tf (lS hm k) hm]at iX
  have l1:=nB (oZ m k) 16
  have l2:=nB m 16
  refine aU ?_
  refine aC (L7 _ af) rfl ?_
  cases hf:om (cL (oZ m k) 16)with
  |true=>
   rw[hf,Bool.true_or]at iX
   rw[iX]
   exact vJ
  |false=>
   rw[hf,Bool.false_or]at iX
   refine aU ?_
   have hcc:=vx (cL (oZ m k) 16) (cL m 16) af af
   rw[tf (lS hm k) hm]at hcc
   refine a8 hcc ?_
   refine aU ?_
   refine aj (k+1) ⟨h2,iX⟩ af (aZ.d0 _ ?_)
   exact bO
 ·have pA:k=4:=by simp at h2;omega
  subst pA
  rw[iX]
  refine aU ?_
  rfl
end Go.Proofs.YtnkamdiiakdkgaaGreat
namespace Go.Proofs.YtnkamdiiakdkgaaGreat
theorem OG{l:List Cl}{cy:List Int}(h:qy l cy=true):1<=cy.length/\cy.length<=40/\Ii l cy=true:=by
 unfold qy dG at h
 simp only[Bool.and_eq_true,decide_eq_true_eq]at h
 exact⟨af,af,h.2.1⟩
theorem vz(hkn:aT Tryz.prog 10 [] (.ret [.bool true]))(p:Pg)(cy:List Int)(hf:p.Fits)(kV:cy.length<=9223372036854775807):aT Tryz.prog 4 [p.d, .sl (cy.map .i)] (.ret [.bool true]):=by
 refine aT.aF mix fn4 aL ?_
 rw[c4]
 refine aU ?_
 refine aC (VR p hf) rfl ?_
 cases h0:iF p with
 |false=>
  refine gB h0 ?_
  exact CS
 |true=>
 by_cases h50:50<cy.length
 ·have VV:decide ((cy.length:Int)>50)=true:=by simp;omega
  refine H4 h0 VV ?_
  exact CS
 have VV:decide ((cy.length:Int)>50)=false:=by simp;omega
 obtain⟨jA,YM⟩:=HS hf h0
 have hfw:=HU hf h0
 have hq:=Oj p YM
 refine H4 h0 VV ?_
 refine a8 (Ed p jA hfw hq cy kV) ?_
 refine aU ?_
 refine aC (VQ p hfw) rfl ?_
 cases h1:dZ p with
 |false=>
  have hc:Ec p cy=(false,2):=by unfold Ec;rw[h1];rfl
  refine qF h1 hc ?_
  exact CS
 |true=>
 refine gB h1 ?_
 refine a8 (L1 p hfw h1) ?_
 have JM:(kL p).length<=50500000:=by
  have:=nn hfw (qw h1) p.rules.length (Nat.le_refl _)
  have:=hfw.len
  unfold kL;omega
 have nY:=CA h1
 have hde:Ec p cy=if qy (kL p) cy=true then(if(kL p).length<=60 then(l6 (zL (kL p) cy),0)else(false,3))else(false,2):=by unfold Ec;rw[h1,Bool.true_and]
 rw[hde]
 generalize kL p=l at JM nY|-
 by_cases h60:l.length<=60
 ·have CC:decide ((l.length:Int)>60)=false:=by simp;omega
  refine mj CC ?_
  refine aC (acj l af cy kV) rfl ?_
  cases h2:qy l cy with
  |false=>
   refine gB h2 ?_
   exact CS
  |true=>
  obtain⟨k1,k2,k3⟩:=OG h2
  simp+contextual (disch:=first|omega|simp only[go_sem,false_implies]) only[go_sem,wrap64,if_pos,h2,if_pos h60]
  refine aC (CD l af nY cy af (List.ne_nil_of_length_pos af) k3) rfl ?_
  simp+contextual (disch:=first|omega|simp only[go_sem,false_implies]) only[go_sem,wrap64,if_pos,beq_self_eq_true]
  exact CS
 ·have CC:decide ((l.length:Int)>60)=true:=by simp;omega
  rw[if_neg h60]
  cases h2:qy l cy with
  |false=>
   refine H4 CC h2 ?_
   exact CS
  |true=>
   refine H4 CC h2 ?_
   exact CS
end Go.Proofs.YtnkamdiiakdkgaaGreat
section
namespace Go.Proofs.YtnkamdiiakdkgaaGreat
open Go.ChangeShapes Go.WideShapes Go.RowKit
theorem VW{x:D}(h:D.jf Tryz.prog x 37):∃l:List Int,x= .sl (l.map D.i)/\l.length<=9223372036854775807:=by
 obtain⟨es,rfl,h1,h2⟩:=nK undT_37 h
 obtain⟨l,rfl,hl⟩:=lx (fun x h=>by obtain⟨n,h,_⟩:=vo undT_3 h;exact⟨n,h,trivial⟩) es h2
 have:maxLen<=9223372036854775807:=bF
 exact⟨l,rfl,by simp at h1;omega⟩
end Go.Proofs.YtnkamdiiakdkgaaGreat
end
section
namespace Go.Proofs.YtnkamdiiakdkgaaGreat
open Go
def VX:Nat->Bool:=fun g=> !([160,174,175,181,162,177,178,72,101,102,73,103,138,139,140,141,142,143,145,146,164,167,168,180,156,120,119,170,76]:List Nat).contains g
def yP:D:= .agg [.sl [.agg [.str [70,97,108,115,101], .i 0], .agg [.str [84,114,117,101], .i 0], .agg [.str [90], .i 0], .agg [.str [83], .i 1], .agg [.str [78,105,108], .i 0], .agg [.str [67,111,110,115], .i 2]], .sl [.agg [.str [97,100,100], .i 2], .agg [.str [111,114], .i 2], .agg [.str [99,111,105,110], .i 0], .agg [.str [108,101,110], .i 1]], .sl [.agg [.i 0, .sl [.agg [.i 3, .i 2, .sl []], .agg [.i 1, .i 0, .sl []]], .i 1, .i 0, .sl [], .i 1], .agg [.i 0, .sl [.agg [.i 3, .i 3, .sl [.agg [.i 1, .i 0, .sl []]]], .agg [.i 1, .i 1, .sl []]], .i 3, .i 3, .sl [.agg [.i 4, .i 0, .sl [.agg [.i 1, .i 0, .sl []], .agg [.i 1, .i 1, .sl []]]]], .i 2], .agg [.i 1, .sl [.agg [.i 3, .i 1, .sl []], .agg [.i 1, .i 0, .sl []]], .i 3, .i 1, .sl [], .i 1], .agg [.i 1, .sl [.agg [.i 1, .i 0, .sl []], .agg [.i 3, .i 1, .sl []]], .i 3, .i 1, .sl [], .i 1], .agg [.i 1, .sl [.agg [.i 3, .i 0, .sl []], .agg [.i 3, .i 0, .sl []]], .i 3, .i 0, .sl [], .i 0], .agg [.i 2, .sl [], .i 3, .i 2, .sl [], .i 0], .agg [.i 2, .sl [], .i 3, .i 3, .sl [.agg [.i 3, .i 2, .sl []]], .i 0], .agg [.i 3, .sl [.agg [.i 3, .i 5, .sl [.agg [.i 1, .i 0, .sl []], .agg [.i 1, .i 1, .sl []]]]], .i 3, .i 3, .sl [.agg [.i 4, .i 3, .sl [.agg [.i 1, .i 1, .sl []]]]], .i 2], .agg [.i 3, .sl [.agg [.i 1, .i 0, .sl []]], .i 4, .i 0, .sl [.agg [.i 1, .i 1, .sl []], .agg [.i 1, .i 1, .sl []]], .i 2]]]
def yR:D:= .agg [.sl [.agg [.str [70,97,108,115,101], .i 0], .agg [.str [84,114,117,101], .i 0], .agg [.str [90], .i 0], .agg [.str [83], .i 1], .agg [.str [78,105,108], .i 0], .agg [.str [67,111,110,115], .i 2]], .sl [.agg [.str [97,100,100], .i 2], .agg [.str [111,114], .i 2], .agg [.str [99,111,105,110], .i 0], .agg [.str [108,101,110], .i 1]], .sl [.agg [.i 0, .sl [.agg [.i 3, .i 2, .sl []], .agg [.i 1, .i 0, .sl []]], .i 1, .i 0, .sl [], .i 1], .agg [.i 0, .sl [.agg [.i 3, .i 3, .sl [.agg [.i 1, .i 0, .sl []]]], .agg [.i 1, .i 1, .sl []]], .i 3, .i 3, .sl [.agg [.i 4, .i 0, .sl [.agg [.i 1, .i 0, .sl []], .agg [.i 1, .i 1, .sl []]]]], .i 2], .agg [.i 1, .sl [.agg [.i 3, .i 1, .sl []], .agg [.i 1, .i 0, .sl []]], .i 3, .i 1, .sl [], .i 1], .agg [.i 1, .sl [.agg [.i 1, .i 0, .sl []], .agg [.i 3, .i 1, .sl []]], .i 3, .i 1, .sl [], .i 1], .agg [.i 1, .sl [.agg [.i 3, .i 0, .sl []], .agg [.i 3, .i 0, .sl []]], .i 3, .i 0, .sl [], .i 0], .agg [.i 2, .sl [], .i 3, .i 2, .sl [], .i 0], .agg [.i 2, .sl [], .i 3, .i 3, .sl [.agg [.i 3, .i 2, .sl []]], .i 0], .agg [.i 3, .sl [.agg [.i 3, .i 5, .sl [.agg [.i 1, .i 0, .sl []], .agg [.i 1, .i 1, .sl []]]]], .i 3, .i 3, .sl [.agg [.i 4, .i 3, .sl [.agg [.i 1, .i 1, .sl []]]]], .i 2]]]
def yS:D:= .agg [.sl [.agg [.str [70,97,108,115,101], .i 0], .agg [.str [84,114,117,101], .i 0], .agg [.str [90], .i 0], .agg [.str [83], .i 1], .agg [.str [78,105,108], .i 0], .agg [.str [67,111,110,115], .i 2]], .sl [.agg [.str [97,100,100], .i 2], .agg [.str [111,114], .i 2], .agg [.str [99,111,105,110], .i 0], .agg [.str [108,101,110], .i 1]], .sl [.agg [.i 0, .sl [.agg [.i 3, .i 2, .sl []], .agg [.i 1, .i 0, .sl []]], .i 1, .i 0, .sl [], .i 1], .agg [.i 0, .sl [.agg [.i 3, .i 3, .sl [.agg [.i 1, .i 0, .sl []]]], .agg [.i 1, .i 1, .sl []]], .i 3, .i 3, .sl [.agg [.i 4, .i 0, .sl [.agg [.i 1, .i 0, .sl []], .agg [.i 1, .i 1, .sl []]]]], .i 2], .agg [.i 1, .sl [.agg [.i 3, .i 1, .sl []], .agg [.i 1, .i 0, .sl []]], .i 3, .i 1, .sl [], .i 1], .agg [.i 1, .sl [.agg [.i 1, .i 0, .sl []], .agg [.i 3, .i 1, .sl []]], .i 3, .i 1, .sl [], .i 1], .agg [.i 1, .sl [.agg [.i 3, .i 0, .sl []], .agg [.i 3, .i 0, .sl []]], .i 3, .i 0, .sl [], .i 0], .agg [.i 2, .sl [], .i 3, .i 2, .sl [], .i 0], .agg [.i 2, .sl [], .i 3, .i 3, .sl [.agg [.i 3, .i 2, .sl []]], .i 0], .agg [.i 3, .sl [.agg [.i 1, .i 0, .sl []]], .i 4, .i 3, .sl [.agg [.i 1, .i 0, .sl []]], .i 1]]]
def yC:D:= .agg [.sl [.agg [.str [70,97,108,115,101], .i 0], .agg [.str [84,114,117,101], .i 0], .agg [.str [90], .i 0], .agg [.str [83], .i 1], .agg [.str [78,105,108], .i 0], .agg [.str [67,111,110,115], .i 2]], .sl [.agg [.str [97,100,100], .i 2], .agg [.str [111,114], .i 2], .agg [.str [99,111,105,110], .i 0], .agg [.str [108,101,110], .i 1]], .sl [.agg [.i 0, .sl [.agg [.i 3, .i 2, .sl []], .agg [.i 1, .i 0, .sl []]], .i 1, .i 0, .sl [], .i 1], .agg [.i 0, .sl [.agg [.i 3, .i 3, .sl [.agg [.i 1, .i 0, .sl []]]], .agg [.i 1, .i 1, .sl []]], .i 3, .i 3, .sl [.agg [.i 4, .i 0, .sl [.agg [.i 1, .i 0, .sl []], .agg [.i 1, .i 1, .sl []]]]], .i 2], .agg [.i 1, .sl [.agg [.i 3, .i 1, .sl []], .agg [.i 1, .i 0, .sl []]], .i 3, .i 1, .sl [], .i 1], .agg [.i 1, .sl [.agg [.i 1, .i 0, .sl []], .agg [.i 3, .i 1, .sl []]], .i 3, .i 1, .sl [], .i 1], .agg [.i 1, .sl [.agg [.i 3, .i 0, .sl []], .agg [.i 3, .i 0, .sl []]], .i 3, .i 0, .sl [], .i 0], .agg [.i 2, .sl [], .i 3, .i 2, .sl [], .i 0], .agg [.i 2, .sl [], .i 3, .i 3, .sl [.agg [.i 3, .i 2, .sl []]], .i 0], .agg [.i 3, .sl [.agg [.i 1, .i 0, .sl []]], .i 3, .i 5, .sl [.agg [.i 1, .i 0, .sl []], .agg [.i 4, .i 3, .sl [.agg [.i 1, .i 0, .sl []]]]], .i 1]]]
def yT:D:= .agg [.sl [.agg [.str [70,97,108,115,101], .i 0], .agg [.str [84,114,117,101], .i 0], .agg [.str [90], .i 0], .agg [.str [83], .i 1], .agg [.str [78,105,108], .i 0], .agg [.str [67,111,110,115], .i 2]], .sl [.agg [.str [97,100,100], .i 2], .agg [.str [111,114], .i 2], .agg [.str [99,111,105,110], .i 0], .agg [.str [108,101,110], .i 1]], .sl [.agg [.i 0, .sl [.agg [.i 3, .i 3, .sl [.agg [.i 1, .i 0, .sl []]]], .agg [.i 1, .i 1, .sl []]], .i 4, .i 0, .sl [.agg [.i 1, .i 1, .sl []], .agg [.i 1, .i 0, .sl []]], .i 2]]]
def L8:pZ Tryz.prog:=pZ.of VX [] (fun _ h=>by cases h)
end Go.Proofs.YtnkamdiiakdkgaaGreat
end
section
namespace Go.Proofs.YtnkamdiiakdkgaaGreat
open Go
theorem OH:nU Tryz.prog bJ L8 5000 40 [yP]=some (.ret [.i 0]):=ah
theorem RP:aT Tryz.prog 40 [yP] (.ret [.i 0]):=aT.gu mix gv OH
end Go.Proofs.YtnkamdiiakdkgaaGreat
end
section
namespace Go.Proofs.YtnkamdiiakdkgaaGreat
open Go
theorem OI:nU Tryz.prog bJ L8 5000 40 [yR]=some (.ret [.i 0]):=ah
theorem RQ:aT Tryz.prog 40 [yR] (.ret [.i 0]):=aT.gu mix gv OI
end Go.Proofs.YtnkamdiiakdkgaaGreat
end
section
namespace Go.Proofs.YtnkamdiiakdkgaaGreat
open Go
theorem OJ:nU Tryz.prog bJ L8 5000 40 [yS]=some (.ret [.i 0]):=ah
theorem RR:aT Tryz.prog 40 [yS] (.ret [.i 0]):=aT.gu mix gv OJ
end Go.Proofs.YtnkamdiiakdkgaaGreat
end
section
namespace Go.Proofs.YtnkamdiiakdkgaaGreat
open Go
theorem OK:nU Tryz.prog bJ L8 5000 40 [yC]=some (.ret [.i 0]):=ah
theorem RS:aT Tryz.prog 40 [yC] (.ret [.i 0]):=aT.gu mix gv OK
end Go.Proofs.YtnkamdiiakdkgaaGreat
end
section
namespace Go.Proofs.YtnkamdiiakdkgaaGreat
open Go
theorem OL:nU Tryz.prog bJ L8 5000 40 [yT]=some (.ret [.i 0]):=ah
theorem RT:aT Tryz.prog 40 [yT] (.ret [.i 0]):=aT.gu mix gv OL
end Go.Proofs.YtnkamdiiakdkgaaGreat
end
section
namespace Go.Proofs.YtnkamdiiakdkgaaGreat
open Go
def CE:pZ Tryz.prog:=pZ.of VX [(40,[yP], .ret [.i 0]),(40,[yR], .ret [.i 0]),(40,[yS], .ret [.i 0]),(40,[yC], .ret [.i 0]),(40,[yT], .ret [.i 0])] (fun x h=>by
 simp only[List.mem_cons,List.not_mem_nil,or_false]at h
 rcases h with rfl|rfl|rfl|rfl|rfl
 ·exact RP
 ·exact RQ
 ·exact RR
 ·exact RS
 ·exact RT
 )
end Go.Proofs.YtnkamdiiakdkgaaGreat
end
section
namespace Go.Proofs.YtnkamdiiakdkgaaGreat
open Go
theorem VY:nU Tryz.prog bJ CE 5000 11 [yR]=some (.ret [.sl [.agg [.i 1, .i 0, .i 0, .sl [.i 0], .bool false, .sl [.agg [.i 0, .i 0, .bool true], .agg [.i 1, .i 1, .bool false]]], .agg [.i 7, .i 3, .i 3, .sl [.i 0], .bool false, .sl [.agg [.i 0, .i 0, .bool true]]]], .i 0]):=ah
theorem aes:aT Tryz.prog 11 [yR] (.ret [.sl [.agg [.i 1, .i 0, .i 0, .sl [.i 0], .bool false, .sl [.agg [.i 0, .i 0, .bool true], .agg [.i 1, .i 1, .bool false]]], .agg [.i 7, .i 3, .i 3, .sl [.i 0], .bool false, .sl [.agg [.i 0, .i 0, .bool true]]]], .i 0]):=aT.gu mix gv VY
theorem VZ:nU Tryz.prog bJ CE 5000 16 [yR, .sl [.i 0]]=some (.ret [.bool true, .i 0]):=ah
theorem aet:aT Tryz.prog 16 [yR, .sl [.i 0]] (.ret [.bool true, .i 0]):=aT.gu mix gv VZ
end Go.Proofs.YtnkamdiiakdkgaaGreat
end
section
namespace Go.Proofs.YtnkamdiiakdkgaaGreat
open Go
theorem V0:nU Tryz.prog bJ CE 5000 19 [yR]=some (.ret [.bool true, .sl [], .i 0]):=ah
theorem aeu:aT Tryz.prog 19 [yR] (.ret [.bool true, .sl [], .i 0]):=aT.gu mix gv V0
end Go.Proofs.YtnkamdiiakdkgaaGreat
end
section
namespace Go.Proofs.YtnkamdiiakdkgaaGreat
open Go
theorem V1:nU Tryz.prog bJ CE 5000 19 [yS]=some (.ret [.bool false, .sl [.i 1], .i 0]):=ah
theorem aev:aT Tryz.prog 19 [yS] (.ret [.bool false, .sl [.i 1], .i 0]):=aT.gu mix gv V1
theorem V2:nU Tryz.prog bJ CE 5000 20 [yS]=some (.ret [.bool false, .sl [.i 1], .i 0]):=ah
theorem aew:aT Tryz.prog 20 [yS] (.ret [.bool false, .sl [.i 1], .i 0]):=aT.gu mix gv V2
end Go.Proofs.YtnkamdiiakdkgaaGreat
end
section
namespace Go.Proofs.YtnkamdiiakdkgaaGreat
open Go
theorem V3:nU Tryz.prog bJ CE 5000 19 [yC]=some (.ret [.bool false, .sl [.i 1], .i 0]):=ah
theorem aex:aT Tryz.prog 19 [yC] (.ret [.bool false, .sl [.i 1], .i 0]):=aT.gu mix gv V3
theorem V4:nU Tryz.prog bJ CE 5000 20 [yC]=some (.ret [.bool true, .sl [], .i 0]):=ah
theorem aey:aT Tryz.prog 20 [yC] (.ret [.bool true, .sl [], .i 0]):=aT.gu mix gv V4
end Go.Proofs.YtnkamdiiakdkgaaGreat
end
section
namespace Go.Proofs.YtnkamdiiakdkgaaGreat
open Go
theorem V5:nU Tryz.prog bJ CE 5000 19 [yT]=some (.ret [.bool true, .sl [], .i 0]):=ah
theorem aez:aT Tryz.prog 19 [yT] (.ret [.bool true, .sl [], .i 0]):=aT.gu mix gv V5
end Go.Proofs.YtnkamdiiakdkgaaGreat
end
section
namespace Go.Proofs.YtnkamdiiakdkgaaGreat
open Go
def aeA:pZ Tryz.prog:=pZ.of VX [(40,[yP], .ret [.i 0]),(40,[yR], .ret [.i 0]),(40,[yS], .ret [.i 0]),(40,[yC], .ret [.i 0]),(40,[yT], .ret [.i 0]),(11,[yR], .ret [.sl [.agg [.i 1, .i 0, .i 0, .sl [.i 0], .bool false, .sl [.agg [.i 0, .i 0, .bool true], .agg [.i 1, .i 1, .bool false]]], .agg [.i 7, .i 3, .i 3, .sl [.i 0], .bool false, .sl [.agg [.i 0, .i 0, .bool true]]]], .i 0]),(16,[yR, .sl [.i 0]], .ret [.bool true, .i 0]),(19,[yR], .ret [.bool true, .sl [], .i 0]),(19,[yS], .ret [.bool false, .sl [.i 1], .i 0]),(20,[yS], .ret [.bool false, .sl [.i 1], .i 0]),(19,[yC], .ret [.bool false, .sl [.i 1], .i 0]),(20,[yC], .ret [.bool true, .sl [], .i 0]),(19,[yT], .ret [.bool true, .sl [], .i 0])] (fun x h=>by
 simp only[List.mem_cons,List.not_mem_nil,or_false]at h
 rcases h with rfl|rfl|rfl|rfl|rfl|rfl|rfl|rfl|rfl|rfl|rfl|rfl|rfl
 ·exact RP
 ·exact RQ
 ·exact RR
 ·exact RS
 ·exact RT
 ·exact aes
 ·exact aet
 ·exact aeu
 ·exact aev
 ·exact aew
 ·exact aex
 ·exact aey
 ·exact aez
 )
theorem CF:nU Tryz.prog bJ aeA 5000 10 []=some (.ret [.bool true]):=ah
theorem OM:aT Tryz.prog 10 [] (.ret [.bool true]):=aT.gu mix gv CF
end Go.Proofs.YtnkamdiiakdkgaaGreat
end
section
namespace Go.Proofs.YtnkamdiiakdkgaaGreat
open Go.ChangeShapes Go.WideShapes Go.RowKit
set_option maxRecDepth 100000 in
theorem nZ(os:Os)(started:os.Started)(H:Type)(enc:TypeId×Value->H):
 ReturnsInHanded {} Tryz.checked os 4 .any (Rows.endsDescendsSpec.pre6 enc Tryz.prog Tryz.f4 Rows.endsDescendsRow.domain false) (Rows.endsDescendsSpec.post enc Tryz.prog Tryz.f4 Rows.endsDescendsRow.apart Rows.endsDescendsRow.fresh Rows.endsDescendsRow.handsOn Rows.endsDescendsRow.again):=by
 refine returnsInHanded_of_change (C:=Tryz.checked) ah started ah Tryz.func4
  (ChangeSpec.witness6 (enc:=enc) (C:=Tryz.checked) false ⟨#[],#[.agg #[.slice none 0 0, .slice none 0 0, .slice none 0 0], .slice none 0 0],[]⟩ 8 ah ah ah ah) ?_
 intro W base args ds gs before eJ hW _ _
 refine zD (T:=[27,24,22,102,9,3,25,57,49,55,53,37]) (tb:=4) ah ah rfl (fun ds h=>by match ds,h with|[_,_],_=>rfl) ah (by intro t ht;rw[Tryz.params4]at ht;simp at ht;rcases ht with rfl|rfl<;>simp) ah (by intro t ht;rw[Tryz.params4]at ht;simp at ht;rcases ht with rfl|rfl<;>exact⟨ah,of_decide_eq_true ah⟩)
  (fun xs hx=> ?_) base args ds gs before eJ hW
 rw[Tryz.params4]at hx
 obtain⟨x0,xs,rfl,tE,hx⟩:=bL hx
 obtain⟨x1,xs,rfl,hx1,hx⟩:=bL hx
 have:=lu hx;subst this
 obtain⟨p0,rfl,Wb⟩:=aep tE
 obtain⟨i1,rfl,Je⟩:=VW hx1
 exact vz OM p0 i1 Wb Je
theorem endsDescends_holds:Rows.EndsDescendsSaid:=
 OpenClaim.holds_of_wide 4 Tryz.f4 rfl rfl rfl rfl rfl rfl rfl ⟨rfl,rfl,rfl,rfl,rfl⟩ rfl rfl rfl rfl rfl ah Tryz.func4 ah
  (of_decide_eq_true ah) (by unfold Func.isWrapper;first|(rw[if_pos (by decide+kernel)];kernel_rfl)|(rw[if_neg (by decide+kernel)];exact⟨rfl,rfl⟩))
  (fun os started H enc _=>nZ os started H enc)
end Go.Proofs.YtnkamdiiakdkgaaGreat
end
