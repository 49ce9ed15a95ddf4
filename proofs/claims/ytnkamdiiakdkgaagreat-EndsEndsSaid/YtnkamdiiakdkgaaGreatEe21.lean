/-
  A PART. Conditions: none.
-/
import Derived.Test.YtnkamdiiakdkgaaGreatEe20
set_option linter.unusedSimpArgs false
set_option linter.unusedVariables false
set_option maxHeartbeats 8000000
namespace Go.Proofs.YtnkamdiiakdkgaaGreat
theorem FU{o:List bI}{g x:bI}:x∈lu o g↔x∈o\/x=g:=by
 unfold lu
 split
 ·rename_i h
  exact⟨.inl,fun h'=>h'.elim id fun e=>e ▸ h⟩
 ·rw[List.mem_append,List.mem_singleton]
theorem HX{o:List bI}(h:o.Nodup)(g:bI):(lu o g).Nodup:=by
 unfold lu
 split
 ·exact h
 ·rename_i hg
  rw[List.nodup_append]
  refine⟨h,aJ,fun a ha b hb e=> ?_⟩
  rw[List.mem_singleton]at hb
  exact hg (hb ▸ e ▸ ha)
theorem QB(o:List bI)(g:bI):∃t,lu o g=o++t:=by
 unfold lu
 split
 ·exact⟨[],aJ⟩
 ·exact⟨[g],rfl⟩
theorem TJ(g:bI)(o:List bI)(x:bI):∃t,nZ g o x=o++t:=by
 unfold nZ
 split
 ·split
  ·exact QB _ _
  ·exact⟨[],aJ⟩
 ·exact⟨[],aJ⟩
theorem yw(g:bI):∀ (fs o:List bI),∃t,fs.foldl (nZ g) o=o++t
 |[],o=>⟨[],aJ⟩
 |x::fs,o=>by
  obtain⟨t,ht⟩:=TJ g o x
  obtain⟨u,hu⟩:=yw g fs (nZ g o x)
  exact⟨t++u,by rw[List.foldl_cons,hu,ht,List.append_assoc]⟩
theorem TK(fs o:List bI)(i:Nat):∃t,Ke fs o i=o++t:=by
 unfold Ke
 split
 ·split
  ·exact yw _ _ _
  ·exact⟨[],aJ⟩
 ·exact⟨[],aJ⟩
theorem TL{P:bI->Prop}{g x:bI}(h:g.t=x.f->P (jH g x)){o:List bI}(ho:∀y∈o,P y):∀y∈nZ g o x,P y:=by
 unfold nZ
 split
 ·split
  ·rename_i e
   intro y hy
   rcases FU.1 hy with h'|h'
   ·exact ho y h'
   ·exact h' ▸ h e
  ·exact ho
 ·exact ho
theorem yx{P:bI->Prop}{g:bI}:∀ (fs:List bI) {o:List bI},(∀x∈fs,g.t=x.f->P (jH g x))->(∀y∈o,P y)->∀y∈fs.foldl (nZ g) o,P y
 |[],_,_,ho=>ho
 |x::fs,_,h,ho=>yx fs (fun y hy=>h y mj) (TL (h x aJ) ho)
theorem yy{P:bI->Prop}{fs:List bI}(h0:∀x∈fs,P x)(h1:∀g x,P g->x∈fs->g.t=x.f->P (jH g x)):∀n,∀y∈ly fs n,P y
 |0=>h0
 |n+1=>by
  rw[uk]
  have ih:=yy h0 h1 n
  unfold Ke
  split
  ·split
   ·rename_i g hg
    exact yx fs (fun x hx e=>h1 g x (ih g (List.mem_of_getElem? hg)) hx e) ih
   ·exact ih
  ·exact ih
theorem yz(l:List Cl):(lx l).Nodup:=by
 have:∀ (l:List Cl) (o:List bI),o.Nodup->(l.foldl (fun o c=>lu o (C6 c)) o).Nodup:=by
  intro l
  induction l with
  |nil=>intro o h;exact h
  |cons c l ih=>intro o h;exact ih _ (HX h _)
 exact this l [] List.nodup_nil
def gG(l:List Cl)(w:Cl->Bool)(k:Nat):List Int:=(List.range k).filterMap fun n:Nat=>match l[n]? with
 |some c=>if w c=true then some (n:Int)else none
 |none=>none
theorem A5(l:List Cl)(w:Cl->Bool){k:Nat}{c:Cl}(h:l[k]? =some c):gG l w (k+1)=if w c=true then gG l w k++[(k:Int)]else gG l w k:=by
 unfold gG
 rw[List.range_succ,List.filterMap_append]
 simp only[List.filterMap_cons,List.filterMap_nil,h]
 split
 ·rename_i h;split at h<;>simp_all
 ·rename_i b h;split at h<;>simp_all
theorem sV{l:List Cl}{w:Cl->Bool}{k:Nat}{n:Int}(h:n∈gG l w k):0<=n/\∃c,l[n.toNat]? =some c/\w c=true:=by
 unfold gG at h
 obtain⟨i,hi,e⟩:=List.mem_filterMap.1 h
 split at e
 ·rename_i c hc
  split at e
  ·rename_i hw
   cases e
   exact⟨ae,c,by rw[Int.toNat_natCast];exact hc,hw⟩
  ·cases e
 ·cases e
theorem yA(l:List Cl)(w:Cl->Bool)(k:Nat):(gG l w k).length<=k:=by
 unfold gG
 refine Nat.le_trans (List.length_filterMap_le _ _) ?_
 rw[List.length_range];exact Nat.le_refl _
theorem Kh(l:List Cl)(w:Cl->Bool):∀k,k<=l.length->pkF l (gG l w k)=(l.take k).filter w
 |0,_=>by simp[gG,pkF]
 |k+1,hk=>by
  have ih:=Kh l w k ae
  obtain⟨c,hc⟩:=az (l:=l) (k:=k) ae
  rw[A5 l w hc,List.take_add_one,hc,Option.toList_some,List.filter_append]
  unfold pkF at ih|-
  split
  ·rename_i hw
   rw[List.filterMap_append,ih]
   simp[List.filterMap_cons,hc,hw]
  ·rename_i hw
   rw[ih];simp[hw]
theorem aa8(l:List Cl)(w:Cl->Bool):gs (fT l (gG l w l.length))=lx (l.filter w):=by
 unfold fT
 rw[CQ,Kh l w _ (Nat.le_refl _),List.take_length];rfl
inductive Wk (l:List Cl) (w:Cl->Bool):List Int->Int->Int->List Int->Prop
 |one {n:Int} {c:Cl}:0<=n->l[n.toNat]? =some c->w c=true->Wk l w [n] c.fr c.to (cM c)
 |snoc {q:List Int} {a b:Int} {m:List Int} {n:Int} {c:Cl}:Wk l w q a b m->0<=n->l[n.toNat]? =some c->w c=true->b=c.fr->Wk l w (q++[n]) a c.to (dn m (cM c))
theorem TM{P:bI×List Int->Prop}{s s':GS}{g:bI}{c:List Int}(h:q9 s g c=some s')(hs:∀y∈s,P y)(hg:P (g,c)):∀y∈s',P y:=by
 unfold q9 at h
 split at h
 ·cases h;exact hs
 ·split at h
  ·cases h
  ·cases h
   intro y hy
   rcases List.mem_append.1 hy with h'|h'
   ·exact hs y h'
   ·rw[List.mem_singleton.1 h'];exact hg
theorem Ki{P:bI×List Int->Prop}{g:bI}{cg:List Int}:∀ (fs:GS) {s s':GS},(∀x∈fs,g.t=x.1.f->P (jH g x.1,cg++x.2))->Kd fs g cg s=some s'->(∀y∈s,P y)->∀y∈s',P y
 |[],s,s',_,h,hs=>by unfold Kd at h;cases h;exact hs
 |x::fs,s,s',hx,h,hs=>by
  unfold Kd at h
  rw[List.foldl_cons]at h
  cases h1:zw g cg (some s) x with
  |none=>rw[h1,yu]at h;cases h
  |some s1=>
   rw[h1]at h
   refine Ki fs (fun y hy=>hx y mj) h ?_
   unfold zw at h1
   rw[Option.bind_some]at h1
   split at h1
   ·rename_i e;exact TM h1 hs (hx x aJ e)
   ·cases h1;exact hs
theorem Kj{P:bI×List Int->Prop}{fs:GS}(h0:∀x∈fs,P x)(h1:∀y x,P y->x∈fs->y.1.t=x.1.f->P (jH y.1 x.1,y.2++x.2)):∀n s,yr fs n=some s->∀y∈s,P y
 |0,s,h=>by cases h;exact h0
 |n+1,s,h=>by
  rw[uj]at h
  cases e:yr fs n with
  |none=>rw[e]at h;cases h
  |some s0=>
   have ih:=Kj h0 h1 n s0 e
   rw[e]at h
   unfold Ro at h
   rw[Option.bind_some]at h
   split at h
   ·rename_i x hx
    exact Ki fs (fun z hz e=>h1 x z (ih x (List.mem_of_getElem? hx)) hz e) h ih
   ·cases h;exact ih
theorem rh(l:List Cl)(ns:List Int):∀x∈fT l ns,∃n∈ns,∃c,l[n.toNat]? =some c/\x=(C6 c,[n]):=by
 have:∀ (ns:List Int) (s:GS),∀x∈ns.foldl (zx l) s,x∈s\/∃n∈ns,∃c,l[n.toNat]? =some c/\x=(C6 c,[n]):=by
  intro ns
  induction ns with
  |nil=>intro s x hx;exact .inl hx
  |cons n ns ih=>
   intro s x hx
   rcases ih _ x hx with h|⟨k,hk,h⟩
   ·unfold zx at h
    split at h
    ·rename_i c hc
     split at h
     ·exact .inl h
     ·rcases List.mem_append.1 h with h|h
      ·exact .inl h
      ·exact .inr ⟨n,aJ,c,hc,List.mem_singleton.1 h⟩
    ·exact .inl h
   ·exact .inr ⟨k,by simp[hk],h⟩
 intro x hx
 rcases this ns [] x hx with h|h
 ·cases h
 ·exact h
theorem QC{l:List Cl}{w:Cl->Bool}{n:Nat}{s:GS}(h:yr (fT l (gG l w l.length)) n=some s):∀y∈s,Wk l w y.2 y.1.f y.1.t y.1.m:=by
 refine Kj (P:=fun y=>Wk l w y.2 y.1.f y.1.t y.1.m) (fun x hx=> ?_) (fun y x hy hx e=> ?_) n s h
 ·obtain⟨k,hk,c,hc,rfl⟩:=rh l _ x hx
  obtain⟨h0,c',uw,hw⟩:=sV hk
  rw[hc]at uw;cases uw
  exact .one h0 hc hw
 ·obtain⟨k,hk,c,hc,rfl⟩:=rh l _ x hx
  obtain⟨h0,c',uw,hw⟩:=sV hk
  rw[hc]at uw;cases uw
  exact .snoc hy h0 hc hw e
theorem Wk.Q2 {l:List Cl}{w:Cl->Bool}(hl:∀c∈l,nF c){q:List Int}{a b:Int}{m:List Int}(h:Wk l w q a b m):il m:=by
 induction h with
 |one _ hc _=>exact(hl _ (List.mem_of_getElem? hc)).Q2
 |snoc _ _ hc _ _ ih=>exact fQ ih (hl _ (List.mem_of_getElem? hc)).Q2
theorem Wk.data {l:List Cl}{w:Cl->Bool}(hl:∀c∈l,nF c){q:List Int}{a b:Int}{m:List Int}(h:Wk l w q a b m):
 0<q.length/\(∀n∈q,0<=n/\∃c,l[n.toNat]? =some c/\w c=true)/\FK l q=m/\
 (∃n c,q[0]? =some n/\l[n.toNat]? =some c/\c.fr=a)/\(∃n c,q[q.length - 1]? =some n/\l[n.toNat]? =some c/\c.to=b)/\
 (∀k,k+1<q.length->∃x y c d,q[k]? =some x/\q[k+1]? =some y/\l[x.toNat]? =some c/\l[y.toNat]? =some d/\c.to=d.fr):=by
 induction h with
 | @one n c h0 hc hw=>
   refine⟨aJ,fun k hk=> ?_, ?_,⟨n,c,rfl,hc,rfl⟩,⟨n,c,rfl,hc,rfl⟩,fun k hk=> ?_⟩
   ·rw[List.mem_singleton.1 hk];exact⟨h0,c,hc,hw⟩
   ·show dn uS (Mr l n)=_
    unfold Mr;rw[hc]
    exact Jn (hl _ (List.mem_of_getElem? hc)).Q2
   ·simp only[List.length_singleton]at hk;omega
 | @snoc q a b m n c hq h0 hc hw hb ih=>
   obtain⟨i1,i2,i3,⟨n0,c0,i4,i5,i6⟩,⟨n1,c1,j1,j2,j3⟩,i7⟩:=ih
   have hlen:(q++[n]).length=q.length+1:=aJ
   have Js:(q++[n])[q.length]? =some n:=by rw[List.getElem?_append_right (Nat.le_refl _)];simp
   refine⟨ae,fun k hk=> ?_, ?_,⟨n0,c0,by rw[List.getElem?_append_left i1];exact i4,i5,i6⟩,⟨n,c,by rw[hlen];exact Js,hc,rfl⟩,fun k hk=> ?_⟩
   ·rcases List.mem_append.1 hk with h|h
    ·exact i2 k h
    ·rw[List.mem_singleton.1 h];exact⟨h0,c,hc,hw⟩
   ·rw[FL,i3];unfold Mr;rw[hc]
   ·rw[hlen]at hk
    rcases Nat.lt_or_ge (k+1) q.length with h|h
    ·obtain⟨x,y,e,d,h1,h2,h3,h4,h5⟩:=i7 k h
     exact⟨x,y,e,d,by rw[List.getElem?_append_left (by omega)];exact h1,by rw[List.getElem?_append_left h];exact h2,h3,h4,h5⟩
    ·have:k=q.length - 1:=ae
     subst this
     exact⟨n1,n,c1,c,by rw[List.getElem?_append_left (by omega)];exact j1,by rw[show q.length - 1+1=q.length by omega];exact Js,j2,hc,by rw[j3,hb]⟩
theorem Wk.cyc {l:List Cl}{w:Cl->Bool}(hl:∀c∈l,nF c){q:List Int}{a:Int}{m:List Int}(h:Wk l w q a a m)(h40:q.length<=40):HV l q=true:=by
 obtain⟨i1,i2,i3,⟨n0,c0,i4,i5,i6⟩,⟨n1,c1,j1,j2,j3⟩,i7⟩:=h.data hl
 unfold HV ft
 simp only[Bool.and_eq_true,decide_eq_true_eq]
 refine⟨⟨ae,ae⟩,List.all_eq_true.2 fun n hn=> ?_,List.all_eq_true.2 fun k hk=> ?_⟩
 ·obtain⟨h0,c,hc,_⟩:=i2 n hn
  have:=(List.getElem?_eq_some_iff.1 hc).1
  simp only[Bool.and_eq_true,decide_eq_true_eq];omega
 ·have hk:=List.mem_range.1 hk
  unfold lnk
  rcases Nat.lt_or_ge (k+1) q.length with h'|h'
  ·obtain⟨x,y,e,d,h1,h2,h3,h4,h5⟩:=i7 k h'
   rw[Nat.mod_eq_of_lt h',h1,h2]
   simp only[h3,h4,h5,beq_self_eq_true]
  ·have e:k=q.length - 1:=ae
   rw[show k+1=q.length by omega,Nat.mod_self,e,j1,i4]
   simp only[j2,i5,j3,i6,beq_self_eq_true]
def gH(g:bI):Bool:=g.f==g.t&&(decide (dn g.m g.m=g.m)&&(List.range 4).all fun i=>mg g.m i i !=2)
theorem yB{g:bI}:gH g=true↔g.f=g.t/\dn g.m g.m=g.m/\∀i,i<4->mg g.m i i≠2:=by
 unfold gH
 simp only[Bool.and_eq_true,beq_iff_eq,decide_eq_true_eq,List.all_eq_true,List.mem_range,bne_iff_ne]
def jn:GS->Bool×List Int
 |[]=>(true,[])
 |x::s=>if gH x.1=true then(false,if x.2.length<=40 then x.2 else(jn s).2)else jn s
theorem Kk:∀s:GS,(jn s).1= !(gs s).any gH
 |[]=>rfl
 |x::s=>by
  unfold jn
  show _= !(gH x.1||(gs s).any gH)
  by_cases h:gH x.1=true
  ·rw[if_pos h,h];rfl
  ·rw[if_neg h,Kk s];simp[h]
theorem yD:∀s:GS,(jn s).2=[]\/∃x∈s,gH x.1=true/\x.2.length<=40/\(jn s).2=x.2
 |[]=> .inl rfl
 |x::s=>by
  have ih:=yD s
  unfold jn
  by_cases h:gH x.1=true
  ·rw[if_pos h]
   by_cases h4:x.2.length<=40
   ·exact .inr ⟨x,aJ,h,h4,by rw[if_pos h4]⟩
   ·dsimp only
    rw[if_neg h4]
    rcases ih with e|⟨y,hy,h'⟩
    ·exact .inl e
    ·exact .inr ⟨y,by simp[hy],h'⟩
  ·rw[if_neg h]
   rcases ih with e|⟨y,hy,h'⟩
   ·exact .inl e
   ·exact .inr ⟨y,by simp[hy],h'⟩
theorem Kl:∀s:GS,(jn s).1=true->(jn s).2=[]
 |[],_=>rfl
 |x::s,h=>by
  unfold jn at h|-
  by_cases hb:gH x.1=true
  ·rw[if_pos hb]at h;cases h
  ·rw[if_neg hb]at h|-;exact Kl s h
def TN:Option GS->Bool×List Int×Int
 |some s=>((jn s).1,(jn s).2,0)
 |none=>(false,[],3)
def pt(l:List Cl)(w:Cl->Bool):Bool×List Int×Int:=TN (yr (fT l (gG l w l.length)) 501)
theorem Km(l:List Cl)(w:Cl->Bool):pt l w=TN (yr (fT l (gG l w l.length)) 501):=rfl
def sW(l:List Cl):Bool:= !(ly (lx l) 501).any gH
theorem QD{l:List Cl}(hl:∀c∈l,nF c)(FV:l.length<=60)(w:Cl->Bool):
 (500<(ly (lx (l.filter w)) 501).length/\pt l w=(false,[],3))\/
 ((ly (lx (l.filter w)) 501).length<=500/\∃q,pt l w=(sW (l.filter w),q,0)/\(sW (l.filter w)=true->q=[])/\q.length<=40/\
   (q≠[]->HV l q=true/\qq (FK l q)=false/\∀n∈q,0<=n/\∃c,l[n.toNat]? =some c/\w c=true)):=by
 have nX:(fT l (gG l w l.length)).length<=500:=by
  have h1:=wg l (gG l w l.length) []
  have h2:=yA l w l.length
  have h3:(fT l (gG l w l.length)).length<=([]:GS).length+(gG l w l.length).length:=h1
  simp only[List.length_nil]at h3
  omega
 have zd:∀n,vF (yr (fT l (gG l w l.length)) n) (ly (lx (l.filter w)) n):=fun n=>by rw[<- aa8];exact Mt nX n
 rw[Km]
 unfold sW
 generalize 501=n
 have hr:=zd n
 revert hr
 generalize hs:yr (fT l (gG l w l.length)) n=o
 intro hr
 cases o with
 |none=>exact .inl ⟨hr,rfl⟩
 |some s=>
  obtain⟨h1,h2⟩:=hr
  have e:(jn s).1= !(ly (lx (l.filter w)) n).any gH:=by rw[Kk,h1]
  refine .inr ⟨h2,(jn s).2,by show((jn s).1,_,_)=_;rw[e],fun h=>Kl s (e.trans h), ?_,fun iz=> ?_⟩
  ·rcases yD s with h|⟨x,_,_,h,h'⟩
   ·rw[h];decide
   ·rw[h'];exact h
  ·rcases yD s with h|⟨x,hx,hb,h40,h'⟩
   ·exact absurd h iz
   ·have hw:=QC hs x hx
    obtain⟨b1,b2,b3⟩:=yB.1 hb
    rw[<- b1]at hw
    rw[h']
    refine⟨hw.cyc hl h40, ?_,(hw.data hl).2.1⟩
    rw[(hw.data hl).2.2.1]
    cases hf:qq x.1.m with
    |false=>rfl
    |true=>
     obtain⟨i,hi,h2⟩:=(Hi b2).1 ((Eu (hw.Q2 hl)).1 hf)
     exact absurd h2 (b3 i hi)
theorem FW(l:List Cl):l.filter (fun _=>true)=l:=aJ
end Go.Proofs.YtnkamdiiakdkgaaGreat
section
open Go
namespace Go.Proofs.YtnkamdiiakdkgaaGreat
def Mw(x y:cu):Bool:=x.f==y.f&&(x.t==y.t&&x.l==y.l)
theorem QE{x y:cu}:Mw x y=true↔x=y:=by
 obtain⟨a,b,c⟩:=x
 obtain⟨a',b',c'⟩:=y
 simp[Mw]
theorem FX(o:Nat->aa)(oo:Bool)(x y:cu):ux Tryz.prog o 64 oo (.d (.agg [.i x.f, .i x.t, .bool x.l])) (.d (.agg [.i y.f, .i y.t, .bool y.l]))=some (.d (.bool (Mw x y))):=by
 obtain⟨fs,h⟩:∃fs,Tryz.prog.underlying 64=some (.struct fs):=structOf aK
 have h2:Tryz.prog.eqGuardType Tryz.prog.depth 64=false:=aK
 unfold ux
 rw[h]
 dsimp only
 rw[if_pos h2,Tn]
 rfl
def sX:List cu->List cu->Bool
 |[],[]=>true
 |x::a,y::b=>Mw x y&&sX a b
 |_,_=>false
theorem yE:∀ {a b:List cu},sX a b=true↔a=b
 |[],[]=>by simp[sX]
 |[],_::_=>by simp[sX]
 |_::_,[]=>by simp[sX]
 |x::a,y::b=>by rw[sX,Bool.and_eq_true,QE,yE,List.cons.injEq]
theorem QF{a b:List cu}(h:a.length≠b.length):sX a b=false:=by
 cases e:sX a b with
 |false=>rfl
 |true=>exact absurd (congrArg List.length (yE.1 e)) h
theorem Mx{a b:List cu}{k:Nat}{x y:cu}(hx:a[k]? =some x)(hy:b[k]? =some y):sX (a.drop k) (b.drop k)=(Mw x y&&sX (a.drop (k+1)) (b.drop (k+1))):=by
 obtain⟨g1,g2⟩:=List.getElem?_eq_some_iff.1 hx
 obtain⟨g3,g4⟩:=List.getElem?_eq_some_iff.1 hy
 rw[List.drop_eq_getElem_cons g1,List.drop_eq_getElem_cons g3,g2,g4]
 rfl
theorem Kn{m n:List Int}(hm:il m)(hn:il n):sX (cn m 16) (cn n 16)=decide (m=n):=by
 rw[Bool.eq_iff_iff,yE,decide_eq_true_eq]
 exact⟨Sx hm hn,fun h=>by rw[h]⟩
theorem yF(a b:List cu)(ha:a.length<=1000000)(hb:b.length<=1000000):aW Tryz.prog 33 [.sl (a.map cu.d), .sl (b.map cu.d)] (.ret [.bool (sX a b)]):=by
 refine aW.aI mix aeR aJ ?_
 rw[c33]
 by_cases hl:a.length=b.length
 ·have hnn:((a.length:Int)!=(b.length:Int))=false:=by rw[hl];simp
  refine dY hnn ?_
  refine aw (fun k:Nat=>⟨aT [.d (.sl (a.map cu.d)), .d (.sl (b.map cu.d)), .ag, .ag, .ag, .d (.i k)],fun _=> .no,1⟩)
   (fun k=>k<=a.length/\sX a b=sX (a.drop k) (b.drop k)) (fun k=>a.length - k) 0 ⟨Nat.zero_le _,rfl⟩ (aZ.aV _ (show 0<=1 from ae) ae eW (fun _ _=>rfl) ?_) (fun k hk=> ?_)
  ·exact bZ
  obtain⟨hk,hs⟩:=hk
  refine mW ?_
  refine aj (fun h2=> ?_) (fun h2=> ?_)
  ·simp at h2
   obtain⟨x,hx⟩:=EO h2
   obtain⟨y,hy⟩:=EO (l:=b) (k:=k) ae
   rw[Mx hx hy]at hs
   cases he:Mw x y with
   |true=>
    rw[he,Bool.true_and]at hs
    refine acn (ak hx (ak hy (ak he @FX))) ?_
    refine aB (aD rfl) ?_
    refine ba ?_
    refine ai (k+1) ⟨h2,hs⟩ ae (aZ.aV _ (show 0<=1 from ae) ae eW (fun _ _=>rfl) ?_)
    exact bZ
   |false=>
    rw[he,Bool.false_and]at hs
    rw[hs]
    refine acn (ak hx (ak hy (ak he @FX))) ?_
    exact ada
  ·simp at h2
   rw[hs,List.drop_eq_nil_of_le h2,List.drop_eq_nil_of_le (by omega)]
   refine ba ?_
   rfl
 ·have hnn:((a.length:Int)!=(b.length:Int))=true:=by rw[bne_iff_ne];omega
  rw[QF hl]
  simp+contextual (disch:=first|omega|simp only[go_sem,false_implies]) only[go_sem,wrap64,if_pos,hnn,List.length_map]
@[reducible] def bI.d (g:bI):D:= .agg [.i g.f, .i g.t, .sl ((cn g.m 16).map cu.d)]
@[reducible] def bI.row (g:bI):List V:=[.d (.i g.f), .d (.i g.t), .d (.sl ((cn g.m 16).map cu.d))]
end Go.Proofs.YtnkamdiiakdkgaaGreat
end
namespace Go.Proofs.YtnkamdiiakdkgaaGreat
theorem QG{P:Program}{o:Nat->aa}{fr:Nat}{t e:TypeId}{K:V->List (Nat×aa)->Prop}{id n c sz:Nat}{y:V}{cs:List V}{d:D}(ho:o id= .row cs)(hy:dA o y=some [d])(ht:bR P t=some e)(dU:P.cellsOf e=sz)(et:0<sz)
 (hz:(ct P e).isSome=true) (hd:d.cells.length=sz) (hcs:cs.length=c*sz) (hnc:n<=c) (me:y.ids.all (· !=id)=true) (hb:n<2^40) (hb2:(n+1)*P.bytesOf e<=2^40)
 (h1:n<c->K (.jo id 0 (n+1) c) (bY o y.ids++[(id, .row (cs.take (n*sz)++d.cells.map .d++cs.drop ((n+1)*sz)))]))
 (h2:n=c->∀G,n+1<=G->G<=9223372036854775807->K (.jo fr 0 (n+1) G) (bY o y.ids++[(fr, .row (cs++d.cells.map .d++List.replicate ((G - (n+1))*sz) .ag))])):
 Yj P o fr #[t,t] K [.jo id 0 n c,y]:=by
 subst dU
 simp only[Yj,wF,ho,hy,ht]
 exact⟨trivial,trivial,et,hz,hd,hcs,hnc,me,hb,hb2,h1,h2⟩
theorem aa9{P:Program}{o:Nat->aa}{fr:Nat}{t e:TypeId}{K:V->List (Nat×aa)->Prop}{sz:Nat}{y:V}{d:D}(hy:dA o y=some [d])(ht:bR P t=some e)(dU:P.cellsOf e=sz)(et:0<sz)
 (hz:(ct P e).isSome=true) (hd:d.cells.length=sz) (hb2:P.bytesOf e<=2^40)
 (h2:∀G,1<=G->G<=9223372036854775807->K (.jo fr 0 1 G) (bY o y.ids++[(fr, .row (d.cells.map .d++List.replicate ((G - 1)*sz) .ag))])):
 Yj P o fr #[t,t] K [.aU,y]:=by
 subst dU
 simp only[Yj,wF,hy,ht]
 exact⟨trivial,et,hz,hd,hb2,h2⟩
def gR(L:List bI)(c:Nat):List V:=L.flatMap bI.row++List.replicate ((c - L.length)*3) .ag
theorem yG:∀L:List bI,(L.flatMap bI.row).length=L.length*3
 |[]=>rfl
 |x::L=>by rw[List.flatMap_cons,List.length_append,yG L,List.length_cons];simp[bI.row];omega
theorem QH:∀ {L:List bI} {k:Nat} {x:bI},L[k]? =some x->∀j,j<3->(L.flatMap bI.row)[k*3+j]? =x.row[j]?
 |y::L,0,x,h,j,hj=>by
  simp at h;subst h
  rw[List.flatMap_cons,Nat.zero_mul,Nat.zero_add,List.getElem?_append_left (by simp[bI.row];exact hj)]
 |y::L,k+1,x,h,j,hj=>by
  have hl:y.row.length=3:=rfl
  rw[List.flatMap_cons,List.getElem?_append_right (by rw[hl];omega),hl,show(k+1)*3+j - 3=k*3+j by omega]
  exact QH (by simpa using h) j hj
theorem aba{L:List bI}{c:Nat}(h:L.length<=c):(gR L c).length=c*3:=by
 unfold gR
 rw[List.length_append,yG,List.length_replicate, <- Nat.add_mul]
 congr 1
 omega
theorem CS{L:List bI}{c k:Nat}{x:bI}(h:L[k]? =some x):(gR L c)[k*3]? =some (.d (.i x.f))/\(gR L c)[k*3+1]? =some (.d (.i x.t))/\(gR L c)[k*3+2]? =some (.d (.sl ((cn x.m 16).map cu.d))):=by
 have hk:k<L.length:=(List.getElem?_eq_some_iff.1 h).1
 have key:∀j,j<3->(gR L c)[k*3+j]? =x.row[j]? :=fun j hj=>by
  unfold gR
  rw[List.getElem?_append_left (by rw[yG];omega)]
  exact QH h j hj
 exact⟨key 0 ae,key 1 ae,key 2 ae⟩
theorem A6(g:bI):g.d.cells.map V.d=g.row:=rfl
theorem abb{L:List bI}{c:Nat}(h:L.length<c)(g:bI):(gR L c).take (L.length*3)++g.d.cells.map .d++(gR L c).drop ((L.length+1)*3)=gR (L++[g]) c:=by
 unfold gR
 rw[<- yG L,List.take_left,A6,List.flatMap_append,List.length_append,List.length_singleton]
 have e1:(L.length+1)*3=(L.flatMap bI.row).length+3:=by rw[yG];omega
 rw[e1,List.drop_length_add_append,List.drop_replicate]
 simp only[List.flatMap_cons,List.flatMap_nil,List.append_nil]
 congr 2
 omega
theorem abc{L:List bI}{G:Nat}(g:bI):gR L L.length++g.d.cells.map .d++List.replicate ((G - (L.length+1))*3) .ag=gR (L++[g]) G:=by
 unfold gR
 rw[A6,List.flatMap_append,List.length_append,List.length_singleton,Nat.sub_self,Nat.zero_mul]
 simp only[List.flatMap_cons,List.flatMap_nil,List.append_nil,List.replicate_zero]
theorem A7:∀ {l:List V},(∀v∈l,v.refs=[])->V.aM l=[]
 |[],_=>rfl
 |v::l,h=>by rw[V.aM,h v (by simp),A7 fun x hx=>h x (by simp[hx])];rfl
theorem Iw(L:List bI)(c:Nat):(aa.row (gR L c)).refs=[]:=by
 show V.aM (gR L c)=[]
 refine A7 fun v hv=> ?_
 unfold gR at hv
 rcases List.mem_append.1 hv with hv|hv
 ·obtain⟨x,_,hx⟩:=List.mem_flatMap.1 hv
  simp[bI.row]at hx
  rcases hx with rfl|rfl|rfl<;>rfl
 ·rw[(List.mem_replicate.1 hv).2];rfl
theorem A8{o:Nat->aa}{id k:Nat}{e:TypeId}{sz:Nat}{l:List D}(h:o id= .arr k e sz l):dA o (.osl id k)=some l:=by
 unfold dA dS
 simp[h]
theorem yH(O:Nat->aa)(a b k:Nat)(e:TypeId)(sz:Nat)(es:List D)(z:aa):put (au O a (.arr k e sz es)) (bY (au O a (.arr k e sz es)) (V.osl a 0).ids++[(b,z)])=au (au O a (.qg k es)) b z:=by
 have h:bY (au O a (.arr k e sz es)) (V.osl a 0).ids=[(a, .qg k es)]:=by
  simp[bY,V.ids,af]
 rw[h]
 show au (au (au O a _) a _) b z=_
 congr 1
 funext j
 unfold au
 split<;>rfl
theorem QI{L:List bI}(hL:∀x∈L,il x.m){g:bI}(hg:il g.m){c:Nat}(hc:L.length<=c)(ajA:L.length<=1000){o:Nat->aa}{nx id:Nat}(pH:Good o nx)(ho:o id= .row (gR L c)){K X:V->(Nat->aa)->Nat->Prop}
 (h1:g∈L->∀ (o':Nat->aa) (nx':Nat),nx<=nx'->Good o' nx'->(∀j,j<nx->o' j=o j)->K (.jo id 0 L.length c) o' nx')
 (h2:g∉L->L.length<c->∀ (o':Nat->aa) (nx':Nat),nx<=nx'->Good o' nx'->(∀j,j<nx->j≠id->o' j=o j)->o' id= .row (gR (L++[g]) c)->K (.jo id 0 (L.length+1) c) o' nx')
 (h3:g∉L->∀G,L.length+1<=G->G<=9223372036854775807->∀ (o':Nat->aa) (nx' fr:Nat),nx<=fr->fr<nx'->Good o' nx'->(∀j,j<nx->o' j=o j)->o' fr= .row (gR (L++[g]) G)->K (.jo fr 0 (L.length+1) G) o' nx'):
 cX Tryz.prog 121 [.jo id 0 L.length c, .d g.d] o nx K X:=by
 have nY:id<nx:=pH.lt (by rw[ho];exact aa.noConfusion)
 have w1:∀k,id≠nx+k:=fun k=>ae
 have w2:id≠nx:=ae
 refine cX.aI mix Wr aJ ?_
 rw[ZS]
 refine gu (ak ho (ak w1 w2)) ?_
 have MT:Good (au o nx (.row g.row)) (nx+1):=(pH.mono ae).au ae rfl
 have f0:au o nx (.row g.row) id= .row (gR L c):=by rw[ab _ _ _ _ w2];exact ho
 have f1:au o nx (.row g.row) nx= .row g.row:=af _ _ _
 have f2:∀j,j<nx->au o nx (.row g.row) j=o j:=fun j hj=>ab _ _ _ _ ae
 refine aw (fun k:Nat=>⟨aT [.jo id 0 L.length c, .ag, .ag, .ptr nx 0, .ag, .d (.i k)],au o nx (.row g.row),nx+1⟩)
  (fun k=>k<=L.length/\g∉L.take k) (fun k=>L.length - k) 0 ⟨Nat.zero_le _,aJ⟩ ?_ ?_
 ·refine aZ.aV _ ae ae MT (fun _ _=>rfl) ?_
  exact bZ
 generalize au o nx (.row g.row)=O at MT f0 f1 f2
 rintro k ⟨hk,hgk⟩
 have i1:(O id).bF=true:=by rw[f0];rfl
 have i2:(O nx).bF=true:=by rw[f1];rfl
 refine gu (ak f0 (ak f1 (ak w1 (ak w2 (ak i1 i2))))) ?_
 refine aj (fun h5=> ?_) (fun h5=> ?_)
 ·replace h5:k<L.length:=by simp at h5;omega
  obtain⟨x,hx⟩:=az h5
  have dR:=hL x (List.mem_of_getElem? hx)
  obtain⟨c0,c1,c2⟩:=CS (c:=c) hx
  have vX:x≠g->k+1<=L.length/\g∉L.take (k+1):=fun hxg=>⟨h5,by
   rw[List.take_add_one,hx,List.mem_append]
   rintro(h|h)
   ·exact hgk h
   ·simp at h;exact hxg h.symm⟩
  cases hf:x.f==g.f with
  |false=>
   refine gu (ak f0 (ak f1 (ak w1 (ak w2 (ak i1 (ak i2 (ak c0 (ak c1 (ak c2 (ak h5 hf)))))))))) ?_
   refine aB (aD rfl) ?_
   refine ba ?_
   refine ai (k+1) (vX (fun h=>by rw[h,beq_self_eq_true]at hf;cases hf)) ae (aZ.aV _ (show nx<=nx+1 from ae) ae MT (fun _ _=>rfl) ?_)
   exact bZ
  |true=>
   cases ht:x.t==g.t with
   |false=>
    refine gu (ak f0 (ak f1 (ak w1 (ak w2 (ak i1 (ak i2 (ak c0 (ak c1 (ak c2 (ak h5 (ak hf ht))))))))))) ?_
    refine aB (aD rfl) ?_
    refine ba ?_
    refine ai (k+1) (vX (fun h=>by rw[h,beq_self_eq_true]at ht;cases ht)) ae (aZ.aV _ (show nx<=nx+1 from ae) ae MT (fun _ _=>rfl) ?_)
    exact bZ
   |true=>
    refine gu (ak f0 (ak f1 (ak w1 (ak w2 (ak i1 (ak i2 (ak c0 (ak c1 (ak c2 (ak h5 (ak hf ht))))))))))) ?_
    refine cf (yF _ _ (Nat.le_trans (eK _ _) ae) (Nat.le_trans (eK _ _) ae)) ?_
    rw[Kn dR hg]
    refine ba ?_
    refine aB (aD rfl) ?_
    by_cases hm:x.m=g.m
    ·refine cz (ak hm decide_true) ?_
     have hxg:x=g:=by
      obtain⟨x1,x2,x3⟩:=x
      obtain⟨g1,g2,g3⟩:=g
      simp only[beq_iff_eq]at hf ht hm
      subst hf;subst ht;subst hm;rfl
     exact h1 (hxg ▸ List.mem_of_getElem? hx) _ _ ae (MT.mono ae) f2
    ·refine cz (ak hm decide_false) ?_
     refine ai (k+1) (vX (fun h=>hm (by rw[h]))) ae (aZ.aV _ (show nx<=nx+1 from ae) ae MT (fun _ _=>rfl) ?_)
     exact bZ
 ·replace h5:k=L.length:=by simp at h5;omega
  subst h5
  rw[List.take_length]at hgk
  refine gu (ak f0 (ak f1 (ak w1 (ak w2 (ak i1 i2))))) ?_
  have lO:au O (nx+7) (.arr 0 129 3 [.agg [.i g.f, .i g.t, .sl ((cn g.m 16).map cu.d)]]) id= .row (gR L c):=by rw[ab _ _ _ _ (w1 7)];exact f0
  have lY:dA (au O (nx+7) (.arr 0 129 3 [.agg [.i g.f, .i g.t, .sl ((cn g.m 16).map cu.d)]])) (.osl (nx+7) 0)=some [g.d]:=A8 (af _ _ _)
  have Rf:g∉L:=hgk
  refine QG (sz:=3) (d:=g.d) lO lY sliceT_125 cellsOf_129 bG (by rw[zeroT_129];rfl) rfl (aba hc) hc (by simp[V.ids];omega) ae (by rw[bytesOf_129];omega) (fun h6=> ?_) (fun h6 G hG1 hG2=> ?_)
  ·rw[yH,abb h6]
   refine h2 Rf h6 _ _ ae (((MT.mono ae).au ae rfl).au ae Dh) (fun j hj hji=> ?_) (af _ _ _)
   rw[ab _ _ _ _ hji,ab _ _ _ _ (by omega)]
   exact f2 j hj
  ·subst h6
   rw[yH,abc]
   refine h3 Rf G hG1 hG2 _ _ (nx+8) ae ae (((MT.mono ae).au ae rfl).au ae Dh) (fun j hj=> ?_) (af _ _ _)
   exact Vi
theorem QJ(g:bI){o:Nat->aa}{nx:Nat}(pH:Good o nx){K X:V->(Nat->aa)->Nat->Prop}
 (h3:∀G,1<=G->G<=9223372036854775807->∀ (o':Nat->aa) (nx' fr:Nat),nx<=fr->fr<nx'->Good o' nx'->(∀j,j<nx->o' j=o j)->o' fr= .row (gR [g] G)->K (.jo fr 0 1 G) o' nx'):
 cX Tryz.prog 121 [.aU, .d g.d] o nx K X:=by
 refine cX.aI mix Wr aJ ?_
 rw[ZS]
 refine ir ?_
 have MT:Good (au o nx (.row g.row)) (nx+1):=(pH.mono ae).au ae rfl
 have f1:au o nx (.row g.row) nx= .row g.row:=af _ _ _
 have f2:∀j,j<nx->au o nx (.row g.row) j=o j:=fun j hj=>ab _ _ _ _ ae
 refine aw (fun _:Nat=>⟨aT [.aU, .ag, .ag, .ptr nx 0, .ag, .d (.i 0)],au o nx (.row g.row),nx+1⟩)
  (fun _=>True) (fun _=>0) 0 trivial ?_ ?_
 ·refine aZ.aV _ ae ae MT (fun _ _=>rfl) ?_
  exact bZ
 generalize au o nx (.row g.row)=O at MT f1 f2
 rintro k -
 have i2:(O nx).bF=true:=by rw[f1];rfl
 refine gu (ak f1 i2) ?_
 have lY:dA (au O (nx+7) (.arr 0 129 3 [.agg [.i g.f, .i g.t, .sl ((cn g.m 16).map cu.d)]])) (.osl (nx+7) 0)=some [g.d]:=A8 (af _ _ _)
 refine aa9 (sz:=3) (d:=g.d) lY sliceT_125 cellsOf_129 bG (by rw[zeroT_129];rfl) rfl (by rw[bytesOf_129];omega) (fun G hG1 hG2=> ?_)
 rw[yH]
 refine h3 G hG1 hG2 _ _ (nx+8) ae ae (((MT.mono ae).au ae rfl).au ae ?_) (fun j hj=> ?_) ((af _ _ _).trans ?_)
 ·exact(congrArg (fun l:List Nat=>l.all (fun r=>decide (r<nx+10))) (Iw [g] G)).trans rfl
 ·exact Vi
 ·rfl
end Go.Proofs.YtnkamdiiakdkgaaGreat
namespace Go.Proofs.YtnkamdiiakdkgaaGreat
theorem Xk(ρ:Nat->Option Nat)(o' o:Nat->aa)(nx:Nat)(x:D):p6 ρ o' o nx (.d x) (.d x):=by
 unfold p6 OC
 simp[V.ids,dS]
theorem sY(ρ:Nat->Option Nat)(o' o:Nat->aa)(nx:Nat):∀ (l:List V),(∀v∈l,v= .ag\/∃x,v= .d x)->p7 ρ o' o nx l l
 |[],_=>by unfold p7;rfl
 |v::l,h=>by
  unfold p7
  refine⟨?_,sY ρ o' o nx l fun x hx=>h x oh⟩
  rcases h v aJ with rfl|⟨x,rfl⟩
  ·unfold p6;trivial
  ·exact Xk _ _ _ _ _
theorem HY(L:List bI)(c:Nat):∀v∈gR L c,v= .ag\/∃x,v= .d x:=fun v hv=>by
 unfold gR at hv
 rcases List.mem_append.1 hv with hv|hv
 ·obtain⟨x,_,hx⟩:=List.mem_flatMap.1 hv
  simp[bI.row]at hx
  rcases hx with rfl|rfl|rfl<;>exact .inr ⟨_,rfl⟩
 ·exact .inl (List.mem_replicate.1 hv).2
def FY(nx:Nat)(L:List bI)(c:Nat):Nat->aa:=au (fun _=> .no) nx (.row (gR L c))
def HZ(nx:Nat)(L0:List bI)(c0:Nat)(L:List bI)(c:Nat):Nat->aa:=au (au (fun _=> .no) nx (.row (gR L0 c0))) (nx+1) (.row (gR L c))
theorem gH1_0(nx:Nat)(L:List bI)(c:Nat):FY nx L c nx= .row (gR L c):=af _ _ _
theorem gH2_0(nx:Nat)(L0:List bI)(c0:Nat)(L:List bI)(c:Nat):HZ nx L0 c0 L c nx= .row (gR L0 c0):=by unfold HZ;rw[ab _ _ _ _ (by omega),af]
theorem gH2_1(nx:Nat)(L0:List bI)(c0:Nat)(L:List bI)(c:Nat):HZ nx L0 c0 L c (nx+1)= .row (gR L c):=af _ _ _
theorem sZ(nx:Nat)(L:List bI)(c:Nat):Good (FY nx L c) (nx+1):=by
 unfold FY
 exact(Good.nil (nx:=nx+1)).au ae Dh
theorem QK(nx:Nat)(L0:List bI)(c0:Nat)(L:List bI)(c:Nat):Good (HZ nx L0 c0 L c) (nx+2):=by
 unfold HZ
 exact((Good.nil (nx:=nx+2)).au ae Dh).au ae Dh
def s5(ρ:Nat->Option Nat)(o' o:Nat->aa)(nx:Nat)(e:Nat->V):List V->Nat->Prop
 |[],_=>True
 |v::l,i=>p6 ρ o' o nx v (e i)/\s5 ρ o' o nx e l (i+1)
theorem yI{ρ:Nat->Option Nat}{o' o:Nat->aa}{nx:Nat}{e:Nat->V}:∀ (l:List V) (k:Nat),s5 ρ o' o nx e l k->∀i,p6 ρ o' o nx (aT l i) (e (k+i))
 |[],k,_,i=>by rw[oT];unfold p6;trivial
 |v::l,k,h,0=>by rw[mF];exact h.1
 |v::l,k,h,i+1=>by
  rw[mG]
  have:=yI l (k+1) h.2 i
  rwa [show k+1+i=k+(i+1) by omega]at this
theorem C8{ρ:Nat->Option Nat}{o' o:Nat->aa}{nx:Nat}{e:Nat->V}{i:Nat}:s5 ρ o' o nx e [] i:=trivial
theorem pA{ρ:Nat->Option Nat}{o' o:Nat->aa}{nx:Nat}{e:Nat->V}{l:List V}{i:Nat}(h:s5 ρ o' o nx e l (i+1)):s5 ρ o' o nx e (.ag::l) i:=⟨by unfold p6;trivial,h⟩
theorem wm{ρ:Nat->Option Nat}{o' o:Nat->aa}{nx:Nat}{e:Nat->V}{l:List V}{i:Nat}{x:D}(he:e i= .d x)(h:s5 ρ o' o nx e l (i+1)):s5 ρ o' o nx e (.d x::l) i:=⟨by rw[he];exact Xk _ _ _ _ _,h⟩
theorem Xu{ρ:Nat->Option Nat}{o' o:Nat->aa}{nx:Nat}{e:Nat->V}{l:List V}{i:Nat}(he:e i= .aU)(h:s5 ρ o' o nx e l (i+1)):s5 ρ o' o nx e (.aU::l) i:=⟨by unfold p6;exact he,h⟩
theorem MV{ρ:Nat->Option Nat}{o' o:Nat->aa}{nx:Nat}{e:Nat->V}{l:List V}{i j p n c:Nat}(he:e i= .jo p 0 n c)(hp:ρ j=some p)(hj:j<nx)(h:s5 ρ o' o nx e l (i+1)):s5 ρ o' o nx e (.jo j 0 n c::l) i:=⟨by unfold p6;rw[he];exact⟨hp,rfl,rfl,rfl,hj⟩,h⟩
theorem pT{b nx:Nat}(hb:b<=nx){e:Nat->V}{so:Nat->aa}{m p:Nat}{L:List bI}{c:Nat}(hp:so p= .row (gR L c))(env:List V)
 (he:s5 (fun j=>if j=nx then some p else some j) (FY nx L c) so (nx+1) e env 0):aZ b ⟨e,so,m⟩ ⟨aT env,FY nx L c,nx+1⟩:=by
 have eM:∀j,j≠nx->FY nx L c j= .no:=fun j hj=>by unfold FY;rw[ab _ _ _ _ hj]
 refine aZ.of_map (fun j=>if j=nx then some p else some j) (by show b<=nx+1;omega) (fun j=> ?_) (fun j hj=>eM j (by have:nx+1<=j:=hj;omega)) (fun i j k h1 h2 h3 h4=> ?_) (fun j hj=>⟨by rw[if_neg (by omega)],fun e' mc=> ?_⟩) fun i=> ?_
 ·show mC _ (FY nx L c) so (nx+1) j
  unfold mC
  by_cases hj:j=nx
  ·subst hj
   rw[gH1_0]
   simp only[if_true,hp]
   exact sY _ _ _ _ _ (HY L c)
  ·rw[eM j hj];trivial
 ·have h1:(FY nx L c i).live=true:=h1
  have h2:(FY nx L c j).live=true:=h2
  by_cases hi:i=nx
  ·by_cases hj:j=nx
   ·omega
   ·rw[eM j hj]at h2;cases h2
  ·rw[eM i hi]at h1;cases h1
 ·have mc:(FY nx L c j).bV=some e':=mc
  rw[eM j (by omega)]at mc;cases mc
 ·have:=yI env 0 he i
  rwa [Nat.zero_add]at this
theorem TO{b nx:Nat}(hb:b<=nx){e:Nat->V}{so:Nat->aa}{m p q:Nat}{L0 L:List bI}{c0 c:Nat}(hp:so p= .row (gR L0 c0))(hq:so q= .row (gR L c))(hpq:p≠q)(env:List V)
 (he:s5 (fun j=>if j=nx then some p else if j=nx+1 then some q else some j) (HZ nx L0 c0 L c) so (nx+2) e env 0):aZ b ⟨e,so,m⟩ ⟨aT env,HZ nx L0 c0 L c,nx+2⟩:=by
 have eM:∀j,j≠nx->j≠nx+1->HZ nx L0 c0 L c j= .no:=fun j h1 h2=>by unfold HZ;rw[ab _ _ _ _ h2,ab _ _ _ _ h1]
 refine aZ.of_map (fun j=>if j=nx then some p else if j=nx+1 then some q else some j) (by show b<=nx+2;omega) (fun j=> ?_) (fun j hj=>eM j (by have:nx+2<=j:=hj;omega) (by have:nx+2<=j:=hj;omega)) (fun i j k h1 h2 h3 h4=> ?_)
  (fun j hj=>⟨by rw[if_neg (by omega),if_neg (by omega)],fun e' mc=> ?_⟩) fun i=> ?_
 ·show mC _ (HZ nx L0 c0 L c) so (nx+2) j
  unfold mC
  by_cases hj:j=nx
  ·subst hj
   rw[gH2_0]
   simp only[if_true,hp]
   exact sY _ _ _ _ _ (HY L0 c0)
  ·by_cases Q6:j=nx+1
   ·subst Q6
    rw[gH2_1]
    simp only[if_neg hj,if_true,hq]
    exact sY _ _ _ _ _ (HY L c)
   ·rw[eM j hj Q6];trivial
 ·have h1:(HZ nx L0 c0 L c i).live=true:=h1
  have h2:(HZ nx L0 c0 L c j).live=true:=h2
  have key:∀i,(HZ nx L0 c0 L c i).live=true->i=nx\/i=nx+1:=fun i h=>by
   by_cases g1:i=nx
   ·exact .inl g1
   ·by_cases g2:i=nx+1
    ·exact .inr g2
    ·rw[eM i g1 g2]at h;cases h
  have hn:nx+1≠nx:=ae
  rcases key i h1 with rfl|rfl<;>rcases key j h2 with rfl|rfl
  ·rfl
  ·simp at h3 h4;omega
  ·simp at h3 h4;omega
  ·rfl
 ·have mc:(HZ nx L0 c0 L c j).bV=some e':=mc
  rw[eM j (by omega) (by omega)]at mc;cases mc
 ·have:=yI env 0 he i
  rwa [Nat.zero_add]at this
def gQ(b:Nat)(sh:Bool):Nat:=bif sh then b else b+1
def gN(b:Nat)(sh:Bool):Nat:=bif sh then b+1 else b+2
def gO(b:Nat)(sh:Bool)(L0:List bI)(c0:Nat)(L:List bI)(c:Nat):Nat->aa:=bif sh then FY b L c else HZ b L0 c0 L c
theorem agK(b:Nat)(sh:Bool)(L0:List bI)(c0:Nat)(L:List bI)(c:Nat):gO b sh L0 c0 L c (gQ b sh)= .row (gR L c):=by
 cases sh
 ·exact gH2_1 b L0 c0 L c
 ·exact gH1_0 b L c
theorem agL{b:Nat}{sh:Bool}{L0:List bI}{c0:Nat}{L:List bI}{c:Nat}(h:sh=true->L0=L/\c0=c):gO b sh L0 c0 L c b= .row (gR L0 c0):=by
 cases sh
 ·exact gH2_0 b L0 c0 L c
 ·rw[(h rfl).1,(h rfl).2];exact gH1_0 b L c
theorem Ko(b:Nat)(sh:Bool)(L0:List bI)(c0:Nat)(L:List bI)(c:Nat):Good (gO b sh L0 c0 L c) (gN b sh):=by
 cases sh
 ·exact QK b L0 c0 L c
 ·exact sZ b L c
theorem FZ(b:Nat)(sh:Bool):b<gN b sh/\gQ b sh<gN b sh/\b<=gQ b sh/\gN b sh<=b+2:=by
 cases sh<;>unfold gN gQ<;>simp
theorem CT{b:Nat}{e:Nat->V}{so:Nat->aa}{m p q:Nat}{sh:Bool}{L0 L:List bI}{c0 c:Nat}(hs:sh=true->p=q)(La:sh=false->p≠q/\so p= .row (gR L0 c0))(hq:so q= .row (gR L c))(env:List V)
 (he:∀ρ:Nat->Option Nat,ρ b=some p->ρ (gQ b sh)=some q->s5 ρ (gO b sh L0 c0 L c) so (gN b sh) e env 0):aZ b ⟨e,so,m⟩ ⟨aT env,gO b sh L0 c0 L c,gN b sh⟩:=by
 cases sh
 ·exact TO (Nat.le_refl _) (La rfl).2 hq (La rfl).1 env (he _ (if_pos rfl) (by show(if b+1=b then some p else if b+1=b+1 then some q else some (b+1))=some q;rw[if_neg (by omega),if_pos rfl]))
 ·have hpq:=hs rfl
  subst hpq
  exact pT (Nat.le_refl _) hq env (he _ (if_pos rfl) (if_pos rfl))
def fV(b:Nat)(F:List bI)(c:Nat):V:=match F with
 |[]=> .aU
 |g::F=> .jo b 0 (g::F).length c
def fH(b:Nat)(F:List bI)(c:Nat):Nat->aa:=match F with
 |[]=>fun _=> .no
 |g::F=>FY b (g::F) c
theorem H3(b c:Nat):fV b [] c= .aU:=rfl
theorem H4(b c:Nat):fH b [] c=fun _=> .no:=rfl
theorem Kp:lx []=[]:=rfl
theorem Kq{o:List bI}{g:bI}(h:g∈o):lu o g=o:=if_pos h
theorem pv{o:List bI}{g:bI}(h:g∉o):lu o g=o++[g]:=if_neg h
theorem A9{b:Nat}{F:List bI}{c:Nat}(h:F≠[]):fV b F c= .jo b 0 F.length c:=by
 cases F with
 |nil=>exact absurd rfl h
 |cons g F=>rfl
theorem Ba{b:Nat}{F:List bI}{c:Nat}(h:F≠[]):fH b F c=FY b F c:=by
 cases F with
 |nil=>exact absurd rfl h
 |cons g F=>rfl
theorem QL{l:List Cl}{k:Nat}{x:Cl}(h:l[k]? =some x):lx (l.take (k+1))=lu (lx (l.take k)) (C6 x):=by
 unfold lx;rw[List.take_add_one,h,List.foldl_append];rfl
theorem CU{l:List Cl}(hl:∀x∈l,nF x):∀g∈lx l,il g.m:=by
 have key:∀ (l:List Cl) (o:List bI),(∀x∈l,nF x)->(∀g∈o,il g.m)->∀g∈l.foldl (fun o c=>lu o (C6 c)) o,il g.m:=by
  intro l
  induction l with
  |nil=>intro o _ h;exact h
  |cons x l ih=>
   intro o hl ho
   rw[List.foldl_cons]
   refine ih _ (fun y hy=>hl y mj) fun g hg=> ?_
   rcases FU.1 hg with h|h
   ·exact ho g h
   ·rw[h];exact(hl x aJ).Q2
 exact key l [] hl (fun _ h=>by cases h)
theorem QM(o:List bI)(g:bI):(lu o g).length<=o.length+1:=by
 unfold lu;split<;>simp
theorem F0(l:List Cl):(lx l).length<=l.length:=by
 have key:∀ (l:List Cl) (o:List bI),(l.foldl (fun o c=>lu o (C6 c)) o).length<=o.length+l.length:=by
  intro l
  induction l with
  |nil=>intro o;exact Nat.le_refl _
  |cons x l ih=>
   intro o
   rw[List.foldl_cons,List.length_cons]
   have h1:=ih (lu o (C6 x))
   have h2:=QM o (C6 x)
   omega
 exact Nat.le_trans (key l []) aJ
theorem agM{x:Cl}(h:nF x):(C6 x).d= .agg [.i x.fr, .i x.to, .sl (x.P1.map cu.d)]:=by
 show D.agg [.i x.fr, .i x.to, .sl ((cn (cM x) 16).map cu.d)]=_
 rw[<- h.eq]
theorem F1(g:bI):∀ (fs:List bI) {o:List bI},500<o.length->fs.foldl (nZ g) o=o
 |[],_,_=>rfl
 |x::fs,o,h=>by
  rw[List.foldl_cons,show nZ g o x=o from if_neg (by omega)]
  exact F1 g fs h
theorem F2(fs:List bI):∀n,∃t,ly fs n=fs++t
 |0=>⟨[],by rw[List.append_nil];rfl⟩
 |n+1=>by
  obtain⟨t,ht⟩:=F2 fs n
  obtain⟨u,hu⟩:=TK fs (ly fs n) n
  exact⟨t++u,by rw[uk,hu,ht,List.append_assoc]⟩
theorem QN{F:List bI}{g x:bI}{L:List bI}{k:Nat}(h:F[k]? =some x):(F.take (k+1)).foldl (nZ g) L=nZ g ((F.take k).foldl (nZ g) L) x:=by
 rw[List.take_add_one,h,List.foldl_append];rfl
theorem abd{F L:List bI}{i:Nat}{g:bI}(h5:L.length<=500)(h:L[i]? =some g):Ke F L i=F.foldl (nZ g) L:=by
 unfold Ke;rw[if_pos h5,h]
theorem My{l:List Cl}(hl:∀x∈l,nF x)(hn:l.length<=400){nx:Nat}{K X:V->(Nat->aa)->Nat->Prop}
 (h0:l=[]->∀nx',nx<=nx'->K (.cc [.aU, .d (.bool true)]) (fun _=> .no) nx')
 (h1:∀ (n:Nat) (L:List bI) (c:Nat),n<=501->ly (lx l) n=L->(L.length<=n\/500<L.length)->L.length<=c->∀ (o':Nat->aa) (nx' id:Nat),nx<=nx'->o' id= .row (gR L c)->K (.cc [.jo id 0 L.length c, .d (.bool (decide (L.length<=500)))]) o' nx'):
 cX Tryz.prog 85 [.d (.sl (l.map Cl.d))] (fun _=> .no) nx K X:=by
 refine cX.aI mix aiI aJ ?_
 rw[c85]
 refine ir ?_
 refine aw (fun z:Nat×Nat=>⟨aT [.d (.sl (l.map Cl.d)), .ag, .aU, .d (.bool false),fV nx (lx (l.take z.1)) z.2, .aU, .d (.i z.1)],fH nx (lx (l.take z.1)) z.2,nx+1⟩)
  (fun z=>z.1<=l.length/\(lx (l.take z.1)).length<=z.2/\(l.take z.1≠[]->lx (l.take z.1)≠[])) (fun z=>l.length - z.1) (0,0) ⟨Nat.zero_le _,Nat.zero_le _,fun h=>absurd rfl h⟩ ?_ ?_
 ·rw[List.take_zero,Kp,H3,H4]
  exact Yf
 rintro⟨k,c⟩ ⟨hk,hc,iz⟩
 dsimp only at hk hc iz|-
 refine ir ?_
 refine aj (fun h5=> ?_) (fun h5=> ?_)
 ·replace h5:k<l.length:=by simp at h5;omega
  obtain⟨x,hx⟩:=az h5
  have dR:=hl x (List.mem_of_getElem? hx)
  have yQ:=QL hx
  have jZ:il (C6 x).m:=dR.Q2
  have hgd:=agM dR
  generalize hF:lx (l.take k)=F at hc iz yQ
  have Rp:∀y∈F,il y.m:=by rw[<- hF];exact CU fun y hy=>hl y (List.mem_of_mem_take hy)
  have hFl:F.length<=l.length:=by
   have:=F0 (l.take k)
   rw[hF,List.length_take]at this
   omega
  have ta:l.take (k+1)≠[]:=by
   rw[List.take_add_one,hx];simp
  by_cases hFe:F=[]
  ·subst hFe
   simp only[hF,H3,H4]
   refine gu hx ?_
   refine nq (m:=17) bG aK ?_
   refine gu hx ?_
   refine ik (aD rfl) ?_
   dsimp only[List.drop]
   refine gu hx ?_
   refine eU ?_
   rw[<- hgd]
   refine QJ (C6 x) Good.nil fun G hG1 hG2 o' nx' fr p1 p2 p3 p4 p5=> ?_
   refine ir ?_
   rw[pv (by simp)]at yQ
   refine ai (k+1,G) ⟨h5,by rw[yQ];exact hG1,fun _=>by rw[yQ];simp⟩ jr ?_
   dsimp only
   rw[yQ,A9 (by simp),Ba (by simp)]
   refine pT ae p5 _ ?_
   exact Rt
  ·simp only[hF,A9 hFe,Ba hFe]
   have i1:=gH1_0 nx F c
   have i2:(FY nx F c nx).bF=true:=by rw[i1];rfl
   refine gu (ak hx (ak i1 i2)) ?_
   refine nq (m:=17) bG aK ?_
   refine gu (ak hx (ak i1 i2)) ?_
   refine ik (aD rfl) ?_
   dsimp only[List.drop]
   refine gu (ak hx (ak i1 i2)) ?_
   refine bg ?_
   rw[<- hgd]
   refine QI Rp jZ hc ae ((sZ nx F c).mono ae) i1 (fun q1 o' nx' p1 p2 p3=> ?_) (fun q1 q2 o' nx' p1 p2 p3 p4=> ?_) (fun q1 G hG1 hG2 o' nx' fr p1 p2 p3 p4 p5=> ?_)
   ·refine ir ?_
    rw[Kq q1]at yQ
    refine ai (k+1,c) ⟨h5,by rw[yQ];exact hc,fun _=>by rw[yQ];exact hFe⟩ jr ?_
    dsimp only
    rw[yQ,A9 hFe,Ba hFe]
    refine pT ae ((p3 nx ae).trans i1) _ ?_
    exact Rt
   ·refine ir ?_
    rw[pv q1]at yQ
    refine ai (k+1,c) ⟨h5,by rw[yQ];simp;omega,fun _=>by rw[yQ];simp⟩ jr ?_
    dsimp only
    rw[yQ,A9 (by simp),Ba (by simp)]
    refine pT ae p4 _ ?_
    exact RG
   ·refine ir ?_
    rw[pv q1]at yQ
    refine ai (k+1,G) ⟨h5,by rw[yQ];simp;omega,fun _=>by rw[yQ];simp⟩ jr ?_
    dsimp only
    rw[yQ,A9 (by simp),Ba (by simp)]
    refine pT ae p5 _ ?_
    exact RG
 ·replace h5:k=l.length:=by simp at h5;omega
  subst h5
  rw[List.take_length]at hc iz
  simp only[List.take_length]
  by_cases hle:l=[]
  ·subst hle
   simp only[Kp,H3,H4]
   refine ir ?_
   refine aw (fun _:Nat=>⟨aT [.d (.sl []), .ag, .aU, .d (.bool false), .aU, .aU, .ag, .d (.i 0)],fun _=> .no,nx⟩) (fun _=>True) (fun _=>0) 0 trivial ?_ ?_
   ·exact Yf
   rintro z -
   refine ir ?_
   exact h0 rfl _ ae
  ·replace iz:=iz hle
   have Rp:=CU hl
   have hFl:=F0 l
   generalize hF:lx l=F at hc iz h1 Rp hFl
   simp only[hF,A9 iz,Ba iz]
   refine ir ?_
   refine aw (fun z:Nat×Bool×List bI×Nat×Nat=>⟨aT [.d (.sl (l.map Cl.d)), .ag, .aU, .d (.bool false), .jo nx 0 F.length z.2.2.2.1, .jo (gQ nx z.2.1) 0 (ly F z.1).length z.2.2.2.2, .ag, .d (.i z.1)],gO nx z.2.1 z.2.2.1 z.2.2.2.1 (ly F z.1) z.2.2.2.2,gN nx z.2.1⟩)
    (fun z=>z.1<=501/\(ly F z.1).length<=z.2.2.2.2/\(z.2.1=true->z.2.2.1=ly F z.1/\z.2.2.2.1=z.2.2.2.2)/\z.2.2.1.length<=z.2.2.2.1/\∃t,z.2.2.1=F++t) (fun z=>600 - z.1) (0,true,F,c,c) ⟨Nat.zero_le _,hc,fun _=>⟨rfl,rfl⟩,hc,[],aJ⟩ ?_ ?_
   ·refine aZ.aV _ (show nx<=nx+1 from ae) (by show nx+1<=_;omega) (sZ nx F c) (fun _ _=>rfl) ?_
    have hb:gQ nx true<gN nx true:=(FZ nx true).2.1
    have hb2:nx<gN nx true:=(FZ nx true).1
    exact bZ
   rintro⟨i,sh,L0,c0,c1⟩ ⟨hi,C1,Iy,Dl,T,hT⟩
   dsimp only at hi C1 Iy Dl hT|-
   obtain⟨T',hT'⟩:=F2 F i
   have TP:=uk F i
   generalize hL:ly F i=L at C1 Iy hT' TP
   have o1:=agL (b:=nx) (L0:=L0) (c0:=c0) (L:=L) (c:=c1) Iy
   have o2:=agK nx sh L0 c0 L c1
   have og:=Ko nx sh L0 c0 L c1
   obtain⟨n1,n2,n3,n4⟩:=FZ nx sh
   have i1:(gO nx sh L0 c0 L c1 nx).bF=true:=by rw[o1];rfl
   have i2:(gO nx sh L0 c0 L c1 (gQ nx sh)).bF=true:=by rw[o2];rfl
   by_cases hI:i<L.length
   ·have EU:decide ((i:Int)<(L.length:Int))=true:=by simp;omega
    by_cases hJ:L.length<=500
    ·have TQ:decide ((L.length:Int)<=500)=true:=by simp;omega
     refine gu (ak EU (ak TQ (ak i1 (ak i2 (ak o1 o2))))) ?_
     obtain⟨g,hg⟩:=az hI
     have hLm:∀y∈L,il y.m:=by rw[<- hL];exact yy (P:=fun y=>il y.m) Rp (fun a y ha hy _=>fQ ha (Rp y hy)) i
     have jZ:il g.m:=hLm g (List.mem_of_getElem? hg)
     have ai5:=TP.trans (abd hJ hg)
     refine aw (fun z:Nat×Bool×List bI×Nat×Nat=>⟨aT [.d (.sl (l.map Cl.d)), .ag, .aU, .d (.bool false), .jo nx 0 F.length z.2.2.2.1, .jo (gQ nx z.2.1) 0 ((F.take z.1).foldl (nZ g) L).length z.2.2.2.2, .ag, .d (.i i), .d (.i z.1)],gO nx z.2.1 z.2.2.1 z.2.2.2.1 ((F.take z.1).foldl (nZ g) L) z.2.2.2.2,gN nx z.2.1⟩)
      (fun z=>z.1<=F.length/\((F.take z.1).foldl (nZ g) L).length<=z.2.2.2.2/\(z.2.1=true->z.2.2.1=(F.take z.1).foldl (nZ g) L/\z.2.2.2.1=z.2.2.2.2)/\z.2.2.1.length<=z.2.2.2.1/\∃t,z.2.2.1=F++t) (fun z=>F.length - z.1) (0,sh,L0,c0,c1) ⟨Nat.zero_le _,C1,Iy,Dl,T,hT⟩ ?_ ?_
     ·refine aZ.aV _ (show nx<=gN nx sh from ae) (show gN nx sh<=gN nx sh+10 from ae) og (fun _ _=>rfl) ?_
      exact bZ
     clear C1 Iy Dl hT o1 o2 og n1 n2 n3 n4 i1 i2 EU TQ
     rintro⟨k,sh,L0,c0,c1⟩ ⟨hk,C1,Iy,Dl,T,hT⟩
     dsimp only at hk C1 Iy Dl hT|-
     obtain⟨T2,hT2⟩:=yw g (F.take k) L
     have hMm:∀y∈(F.take k).foldl (nZ g) L,il y.m:=yx (P:=fun y=>il y.m) _ (fun y hy _=>fQ jZ (Rp y (List.mem_of_mem_take hy))) hLm
     have iw:(F.length<=k\/500<((F.take k).foldl (nZ g) L).length)->(F.take k).foldl (nZ g) L=ly F (i+1):=by
      rw[ai5]
      rintro(h|h)
      ·rw[List.take_of_length_le h]
      ·have h2:F.foldl (nZ g) L=(F.drop k).foldl (nZ g) ((F.take k).foldl (nZ g) L):=by rw[<- List.foldl_append,List.take_append_drop]
       rw[h2,F1 g _ h]
     have ta:∀x,F[k]? =some x->(F.take (k+1)).foldl (nZ g) L=nZ g ((F.take k).foldl (nZ g) L) x:=fun x hx=>QN hx
     generalize hM:(F.take k).foldl (nZ g) L=M at C1 Iy hT2 hMm iw ta
     have hgM:M[i]? =some g:=by rw[hT2,List.getElem?_append_left hI];exact hg
     have o1:=agL (b:=nx) (L0:=L0) (c0:=c0) (L:=M) (c:=c1) Iy
     have o2:=agK nx sh L0 c0 M c1
     have og:=Ko nx sh L0 c0 M c1
     obtain⟨n1,n2,n3,n4⟩:=FZ nx sh
     have i1:(gO nx sh L0 c0 M c1 nx).bF=true:=by rw[o1];rfl
     have i2:(gO nx sh L0 c0 M c1 (gQ nx sh)).bF=true:=by rw[o2];rfl
     have hMI:i<M.length:=by rw[hT2,List.length_append];omega
     by_cases I5:k<F.length
     ·have EU:decide ((k:Int)<(F.length:Int))=true:=by simp;omega
      by_cases hJ2:M.length<=500
      ·have TQ:decide ((M.length:Int)<=500)=true:=by simp;omega
       obtain⟨x,hx⟩:=az I5
       have dR:il x.m:=Rp x (List.mem_of_getElem? hx)
       have vg:L0[k]? =some x:=by rw[hT,List.getElem?_append_left I5];exact hx
       obtain⟨a0,a1,a2⟩:=CS (c:=c1) hgM
       obtain⟨b0,b1,b2⟩:=CS (c:=c0) vg
       cases ht:g.t==x.f with
       |false=>
        refine gu (ak EU (ak TQ (ak i1 (ak i2 (ak o1 (ak o2 (ak a0 (ak a1 (ak a2 (ak b0 (ak b1 (ak b2 (ak hMI (ak I5 ht)))))))))))))) ?_
        refine aB (aD rfl) ?_
        refine ba ?_
        have hM':(F.take (k+1)).foldl (nZ g) L=M:=by
         rw[ta x hx];unfold nZ;rw[if_pos hJ2,if_neg (by rintro h;rw[h,beq_self_eq_true]at ht;cases ht)]
        refine ai (k+1,sh,L0,c0,c1) ⟨I5,by rw[hM'];exact C1,fun h=>by rw[hM'];exact Iy h,Dl,T,hT⟩ jr ?_
        dsimp only
        rw[hM']
        refine aZ.aV _ (show nx<=gN nx sh from ae) (show gN nx sh<=gN nx sh+20+1+1+1 from ae) og (fun _ _=>rfl) ?_
        exact bZ
       |true=>
        refine gu (ak EU (ak TQ (ak i1 (ak i2 (ak o1 (ak o2 (ak a0 (ak a1 (ak a2 (ak b0 (ak b1 (ak b2 (ak hMI (ak I5 ht)))))))))))))) ?_
        refine aB (aD rfl) ?_
        refine gu (ak i1 (ak i2 (ak o1 (ak o2 (ak a0 (ak a1 (ak a2 (ak b0 (ak b1 (ak b2 (ak hMI I5))))))))))) ?_
        refine nq (m:=23) bG aK ?_
        refine gu (ak i1 (ak i2 (ak o1 (ak o2 (ak a0 (ak a1 (ak a2 (ak b0 (ak b1 (ak b2 (ak hMI I5))))))))))) ?_
        have Qz:=nE (cn g.m 16) (cn x.m 16) (Nat.le_trans (eK _ _) ae) (Nat.le_trans (eK _ _) ae)
        rw[pK jZ dR]at Qz
        refine cf Qz ?_
        refine gu (ak i1 (ak i2 (ak o1 (ak o2 (ak a0 (ak a1 (ak a2 (ak b0 (ak b1 (ak b2 (ak hMI I5))))))))))) ?_
        refine ik (aD rfl) ?_
        dsimp only[List.drop]
        refine gu (ak i1 (ak i2 (ak o1 (ak o2 (ak a0 (ak a1 (ak a2 (ak b0 (ak b1 (ak b2 (ak hMI I5))))))))))) ?_
        refine bg ?_
        have Sb:g.t=x.f:=by simpa using ht
        have fY:(F.take (k+1)).foldl (nZ g) L=lu M (jH g x):=by
         rw[ta x hx];unfold nZ;rw[if_pos hJ2,if_pos Sb]
        refine QI (g:=jH g x) hMm (fQ jZ dR) C1 ae (og.mono ae) o2 (fun q1 o' nx' p1 p2 p3=> ?_) (fun q1 q2 o' nx' p1 p2 p3 p4=> ?_) (fun q1 G hG1 hG2 o' nx' fr p1 p2 p3 p4 p5=> ?_)
        ·refine ir ?_
         rw[Kq q1]at fY
         refine ai (k+1,sh,L0,c0,c1) ⟨I5,by rw[fY];exact C1,fun h=>by rw[fY];exact Iy h,Dl,T,hT⟩ jr ?_
         dsimp only
         rw[fY]
         refine CT (p:=nx) (q:=gQ nx sh) (fun h=>by subst h;rfl) (fun h=>⟨by subst h;show nx≠nx+1;omega,(p3 nx ae).trans o1⟩) ((p3 _ ae).trans o2) _ fun ρ r1 r2=> ?_
         exact Rt
        ·refine ir ?_
         rw[pv q1]at fY
         refine ai (k+1,sh,(bif sh then M++[jH g x]else L0),c0,c1) ⟨I5,by rw[fY];simp;omega,fun h=>by rw[fY];subst h;exact⟨rfl,(Iy rfl).2⟩, ?_, ?_⟩ jr ?_
         ·dsimp only
          cases sh
          ·exact Dl
          ·have:=(Iy rfl).2
           simp;omega
         ·dsimp only
          cases sh
          ·exact⟨T,hT⟩
          ·exact⟨T'++(T2++[jH g x]),by show M++_=_;rw[hT2,hT'];simp⟩
         dsimp only
         rw[fY]
         refine CT (p:=nx) (q:=gQ nx sh) (fun h=>by subst h;rfl) (fun h=> ?_) p4 _ fun ρ r1 r2=> ?_
         ·subst h
          exact⟨by show nx≠nx+1;omega,(p3 nx ae (by show nx≠nx+1;omega)).trans o1⟩
         exact RG
        ·refine ir ?_
         rw[pv q1]at fY
         refine ai (k+1,false,L0,c0,G) ⟨I5,by rw[fY];simp;omega,fun h=>(by cases h),Dl,T,hT⟩ jr ?_
         dsimp only
         rw[fY]
         refine CT (p:=nx) (q:=fr) (fun h=>by cases h) (fun h=>⟨ae,(p4 nx ae).trans o1⟩) p5 _ fun ρ r1 r2=> ?_
         have n5:=FZ nx false
         exact RG
      ·have TQ:decide ((M.length:Int)<=500)=false:=by simp;omega
       refine gu (ak EU (ak TQ (ak i1 (ak i2 (ak o1 o2))))) ?_
       have hM2:=iw (.inr ae)
       exact ac4
     ·have EU:decide ((k:Int)<(F.length:Int))=false:=by simp;omega
      refine gu (ak EU (ak i1 (ak i2 (ak o1 o2)))) ?_
      have hM2:=iw (.inl ae)
      exact ac4
    ·have TQ:decide ((L.length:Int)<=500)=false:=by simp;omega
     refine gu (ak EU (ak TQ (ak i1 (ak i2 (ak o1 o2))))) ?_
     have h2:=h1 i L c1 hi hL (.inr ae) C1 (gO nx sh L0 c0 L c1) (gN nx sh+15) (gQ nx sh) ae o2
     rw[decide_eq_false (by omega)]at h2
     exact h2
   ·have EU:decide ((i:Int)<(L.length:Int))=false:=by simp;omega
    refine gu (ak EU (ak i1 (ak i2 (ak o1 o2)))) ?_
    have h2:=h1 i L c1 hi hL (.inl ae) C1 (gO nx sh L0 c0 L c1) (gN nx sh+15) (gQ nx sh) ae o2
    rw[show decide ((L.length:Int)<=500)=decide (L.length<=500) by rw[decide_eq_decide];omega]
    exact h2
end Go.Proofs.YtnkamdiiakdkgaaGreat
section
open Go
namespace Go.Proofs.YtnkamdiiakdkgaaGreat
def kC(g:bI):List D:= .i g.f:: .i g.t::g.m.map D.i
def kG(g:bI):D:= .agg (kC g)
theorem l4{m:List Int}(h:m.length=4):∃a b c d,m=[a,b,c,d]:=by
 match m,h with
 |[a,b,c,d],_=>exact⟨a,b,c,d,rfl⟩
theorem l16{m:List Int}(h:m.length=16):∃a b c d,a.length=4/\b.length=4/\c.length=4/\d.length=4/\m=a++b++c++d:=by
 refine⟨m.take 4,(m.drop 4).take 4,(m.drop 8).take 4,m.drop 12,by simp;omega,by simp;omega,by simp;omega,by simp;omega, ?_⟩
 rw[show m.drop 8=(m.drop 4).drop 4 by simp,show m.drop 12=((m.drop 4).drop 4).drop 4 by simp]
 simp only[List.append_assoc,List.take_append_drop]
theorem s6(x y:List Int)(hx:x.length=4)(hy:y.length=4):∀d,mX Tryz.prog (d+2) 88 (.agg (x.map D.i)) (.agg (y.map D.i))=some (decide (x=y)):=by
 intro d
 obtain⟨a,b,c,e,rfl⟩:=l4 hx
 obtain⟨a',b',c',e',rfl⟩:=l4 hy
 have h1:bz Tryz.prog 88=some (.arr 4 3):=aK
 have h3:bz Tryz.prog 3=some .int:=aK
 have h5:cL Tryz.prog 3=some false:=aK
 have h6:Tryz.prog.cellsOf 3=1:=aK
 simp[mX,h1,h3,h5,h6,zH,NO,cT,Bj]
 rw[Bool.eq_iff_iff]
 simp
theorem F3(x y:List Int)(hx:x.length=16)(hy:y.length=16)(d:Nat):mX Tryz.prog (d+3) 90 (mD x) (mD y)=some (decide (x=y)):=by
 obtain⟨a,b,c,e,la,lb,lc,le,rfl⟩:=l16 hx
 obtain⟨a',b',c',e',la',lb',lc',le',rfl⟩:=l16 hy
 have h1:bz Tryz.prog 90=some (.arr 4 88):=aK
 have h5:cL Tryz.prog 88=some true:=aK
 have h6:Tryz.prog.cellsOf 88=4:=aK
 have part:∀ (p q r s:List Int),p.length=4->q.length=4->r.length=4->s.length=4->
  cT Tryz.prog 88 ((p++q++r++s).map D.i) 0=some (.agg (p.map D.i))/\cT Tryz.prog 88 ((p++q++r++s).map D.i) 4=some (.agg (q.map D.i))/\
  cT Tryz.prog 88 ((p++q++r++s).map D.i) 8=some (.agg (r.map D.i))/\cT Tryz.prog 88 ((p++q++r++s).map D.i) 12=some (.agg (s.map D.i)):=by
  intro p q r s hp hq hr hs
  obtain⟨a,b,c,e,rfl⟩:=l4 hp
  obtain⟨a,b,c,e,rfl⟩:=l4 hq
  obtain⟨a,b,c,e,rfl⟩:=l4 hr
  obtain⟨a,b,c,e,rfl⟩:=l4 hs
  refine⟨?_, ?_, ?_, ?_⟩<;>simp[cT,h5,h6]
 obtain⟨p1,p2,p3,p4⟩:=part a b c e la lb lc le
 obtain⟨q1,q2,q3,q4⟩:=part a' b' c' e' la' lb' lc' le'
 show mX Tryz.prog ((d+2)+1) _ _ _=_
 unfold mX
 rw[h1]
 dsimp only[mD]
 simp only[zH,h6,Nat.zero_mul,Nat.zero_add,Nat.one_mul,Nat.reduceAdd,Nat.reduceMul,p1,p2,p3,p4,q1,q2,q3,q4,NO,s6 _ _ la la',s6 _ _ lb lb',s6 _ _ lc lc',s6 _ _ le le',Bj]
 refine congrArg some ?_
 rw[Bool.eq_iff_iff]
 simp only[Bool.and_eq_true,decide_eq_true_eq,Bool.and_true,List.append_assoc]
 constructor
 ·rintro⟨rfl,rfl,rfl,rfl⟩;rfl
 ·intro h
  obtain⟨h1,h⟩:=List.append_inj h ae
  obtain⟨h2,h⟩:=List.append_inj h ae
  obtain⟨h3,h⟩:=List.append_inj h ae
  exact⟨h1,h2,h3,h⟩
theorem um(g x:bI)(hg:g.m.length=16)(hx:x.m.length=16):mX Tryz.prog 100 162 (kG g) (kG x)=some (decide (g=x)):=by
 have h1:bz Tryz.prog 162=some (.struct [(3,0),(3,1),(90,2)]):=aK
 have h3:bz Tryz.prog 3=some .int:=aK
 have h5:cL Tryz.prog 3=some false:=aK
 have h6:cL Tryz.prog 90=some true:=aK
 have h7:Tryz.prog.cellsOf 90=16:=aK
 have part:∀g:bI,g.m.length=16->cT Tryz.prog 90 (kC g) 2=some (mD g.m):=by
  intro g hg
  have:List.take 16 (List.drop 2 (kC g))=g.m.map D.i:=by
   unfold kC
   rw[List.drop_succ_cons,List.drop_succ_cons,List.drop_zero,List.take_of_length_le (by simp[hg])]
  have hl:(kC g).length=18:=by simp[kC,hg]
  simp[cT,h6,h7,this,hl]
 have e0:∀g:bI,cT Tryz.prog 3 (kC g) 0=some (.i g.f):=fun g=>by simp[cT,h5,kC]
 have e1:∀g:bI,cT Tryz.prog 3 (kC g) 1=some (.i g.t):=fun g=>by simp[cT,h5,kC]
 have ei:∀ (a b:Int),mX Tryz.prog 99 3 (.i a) (.i b)=some (a==b):=fun a b=>by simp[mX,h3]
 show mX Tryz.prog (99+1) _ _ _=_
 unfold mX
 rw[h1]
 dsimp only[kG]
 simp only[wG,e0,e1,part g hg,part x hx,NO,ei,F3 _ _ hg hx 96,Bj]
 refine congrArg some ?_
 rw[Bool.eq_iff_iff]
 obtain⟨a,b,c⟩:=g
 obtain⟨a',b',c'⟩:=x
 simp
theorem yJ(o:Nat->aa)(oo:Bool)(x y:List Int)(hx:x.length=16)(hy:y.length=16):ux Tryz.prog o 90 oo (.d (.agg (x.map D.i))) (.d (.agg (y.map D.i)))=some (.d (.bool (decide (x=y)))):=by
 obtain⟨n,e,h⟩:∃n e,Tryz.prog.underlying 90=some (.array n e):=⟨4,88,aK⟩
 have h2:Tryz.prog.eqGuardType Tryz.prog.depth 90=false:=aK
 unfold ux
 rw[h]
 dsimp only
 rw[if_pos h2,show(100:Nat)=97+3 from rfl]
 rw[F3 x y hx hy 97]
 rfl
def pw(s:GS):List (D×D):=s.map fun p=>(kG p.1, .sl (p.2.map D.i))
theorem Mz(s:GS)(g:bI)(c:List Int):pw s++[(kG g, .sl (c.map D.i))]=pw (s++[(g,c)]):=by simp[pw]
theorem CV{g:bI}(hg:g.m.length=16):∀ (s:GS),(∀x∈s,x.1.m.length=16)->g∉gs s->∀i,findD Tryz.prog 162 (kG g) (pw s) i=some none
 |[],_,_,_=>rfl
 |x::s,hs,h,i=>by
  have iz:g≠x.1:=fun e=>h (by rw[e];simp[gs])
  have ih:=CV hg s (fun y hy=>hs y mj) (fun hm=>h (by simp[gs]at hm|-;exact .inr hm)) (i+1)
  show findD _ _ _ ((kG x.1,_)::pw s) i=_
  unfold findD
  rw[um g x.1 hg (hs x (by simp)),decide_eq_false iz]
  exact ih
theorem px{g:bI}(hg:g.m.length=16){c:List Int}:∀ (s:GS) (j:Nat),(∀x∈s,x.1.m.length=16)->(gs s).Nodup->s[j]? =some (g,c)->∀i,findD Tryz.prog 162 (kG g) (pw s) i=some (some (i+j,kG g, .sl (c.map D.i)))
 |[],j,_,_,h,_=>by cases h
 |x::s,0,hs,hn,h,i=>by
  simp only[List.getElem?_cons_zero,Option.some.injEq]at h
  subst h
  show findD _ _ _ ((kG g,_)::pw s) i=_
  unfold findD
  rw[um g g hg hg,decide_eq_true rfl]
  rfl
 |x::s,j+1,hs,hn,h,i=>by
  simp only[List.getElem?_cons_succ]at h
  have iz:g≠x.1:=fun e=>by
   unfold gs at hn
   rw[List.map_cons,List.nodup_cons]at hn
   exact hn.1 (List.mem_map.2 ⟨_,List.mem_of_getElem? h,e⟩)
  have KN:(gs s).Nodup:=by unfold gs at hn|-;rw[List.map_cons,List.nodup_cons]at hn;exact hn.2
  have ih:=px hg s j (fun y hy=>hs y mj) KN h (i+1)
  show findD _ _ _ ((kG x.1,_)::pw s) i=_
  unfold findD
  rw[um g x.1 hg (hs x (by simp)),decide_eq_false iz]
  show findD _ _ _ (pw s) (i+1)=_
  rw[ih,show i+1+j=i+(j+1) by omega]
theorem F4(g:bI):jN (kG g)=true:=by
 simp only[kG,jN,kC,List.all_cons,List.all_map]
 simp[nH]
end Go.Proofs.YtnkamdiiakdkgaaGreat
end
section
open Go
namespace Go.Proofs.YtnkamdiiakdkgaaGreat
structure MA (o:Nat->aa) (nx pc pa pm e:Nat) (s:GS):Prop where
 bE:Good o nx
 lc:pc<nx
 la:pa<nx
 lm:pm<nx
 ca:pc≠pa
 cm:pc≠pm
 am:pa≠pm
 oc:o pc= .row [.osl pa e, .mp pm]
 oa:o pa= .arr e 162 18 ((gs s).map kG)
 om:o pm= .map 162 37 (pw s)
 len:∀x∈s,x.1.m.length=16
 fin:s.length<=500
 nd:(gs s).Nodup
theorem qX(g:bI)(h:g.m.length=16):(kC g).length=18:=by simp[kC,h]
theorem mV(g:bI)(h:g.m.length=16):List.take 18 ((kC g).map V.d)=(kC g).map V.d:=List.take_of_length_le (by simp[qX g h])
theorem py(g:bI)(h:g.m.length=16):((kC g).map V.d).length=18:=by simp[qX g h]
theorem s7(x:List Int)(hx:x.length=4):∀d,jv Tryz.prog (d+2) 88 (.agg (x.map D.i))=true:=by
 intro d
 obtain⟨a,b,c,e,rfl⟩:=l4 hx
 have h1:bz Tryz.prog 88=some (.arr 4 3):=aK
 have h3:bz Tryz.prog 3=some .int:=aK
 have h5:cL Tryz.prog 3=some false:=aK
 have h6:Tryz.prog.cellsOf 3=1:=aK
 simp[jv,h1,h3,h5,h6,cT,show List.range 4=[0,1,2,3]from rfl]
theorem QO(x:List Int)(hx:x.length=16)(d:Nat):jv Tryz.prog (d+3) 90 (mD x)=true:=by
 obtain⟨a,b,c,e,la,lb,lc,le,rfl⟩:=l16 hx
 have ha:=s7 a la d;have hb:=s7 b lb d;have hc:=s7 c lc d;have he:=s7 e le d
 have h1:bz Tryz.prog 90=some (.arr 4 88):=aK
 have h5:cL Tryz.prog 88=some true:=aK
 have h6:Tryz.prog.cellsOf 88=4:=aK
 obtain⟨a1,a2,a3,a4,rfl⟩:=l4 la
 obtain⟨b1,b2,b3,b4,rfl⟩:=l4 lb
 obtain⟨c1,c2,c3,c4,rfl⟩:=l4 lc
 obtain⟨e1,e2,e3,e4,rfl⟩:=l4 le
 show jv Tryz.prog ((d+2)+1) _ _=_
 unfold jv
 rw[h1]
 dsimp only[mD]
 simp only[List.map_cons,List.map_nil]at ha hb hc he
 simp[h5,h6,cT,show List.range 4=[0,1,2,3]from rfl,ha,hb,hc,he]
theorem CW(g:bI)(h:g.m.length=16):jv Tryz.prog 100 162 (kG g)=true:=by
 have h1:bz Tryz.prog 162=some (.struct [(3,0),(3,1),(90,2)]):=aK
 have h3:bz Tryz.prog 3=some .int:=aK
 have h5:cL Tryz.prog 3=some false:=aK
 have h6:cL Tryz.prog 90=some true:=aK
 have h7:Tryz.prog.cellsOf 90=16:=aK
 have part:cT Tryz.prog 90 (kC g) 2=some (mD g.m):=by
  have:List.take 16 (List.drop 2 (kC g))=g.m.map D.i:=by
   unfold kC
   rw[List.drop_succ_cons,List.drop_succ_cons,List.drop_zero,List.take_of_length_le (by simp[h])]
  have hl:(kC g).length=18:=by simp[kC,h]
  simp[cT,h6,h7,this,hl]
 have e0:cT Tryz.prog 3 (kC g) 0=some (.i g.f):=by simp[cT,h5,kC]
 have e1:cT Tryz.prog 3 (kC g) 1=some (.i g.t):=by simp[cT,h5,kC]
 have ei:∀a:Int,jv Tryz.prog 99 3 (.i a)=true:=fun a=>by simp[jv,h3]
 show jv Tryz.prog (99+1) _ _=_
 unfold jv
 rw[h1]
 dsimp only[kG]
 simp only[List.all_cons,List.all_nil,e0,e1,part,ei,QO g.m h 96,Bool.and_self]
theorem Kr{o:Nat->aa}{nx pc pa pm e:Nat}{s:GS}(H:MA o nx pc pa pm e s)(g:bI)(hg:g.m.length=16)(c:List Int){K X:V->(Nat->aa)->Nat->Prop}
 (hK:∀s' e' o' nx',q9 s g c=some s'->e'=(if g∈gs s then e else e+1)->nx<=nx'->MA o' nx' pc pa pm e' s'->(∀id,id<nx->id≠pc->id≠pa->id≠pm->o' id=o id)->K (.cc []) o' nx')
 (hX:∀o' nx',q9 s g c=none->nx<=nx'->Good o' nx'->(∀id,id<nx->o' id=o id)->X (.d (.iface 154 (.agg []))) o' nx'):
 cX Tryz.prog 156 [.ptr pc 0, .d (kG g), .d (.sl (c.map D.i))] o nx K X:=by
 have oc:=H.oc;have oa:=H.oa;have om:=H.om
 have lc:=H.lc;have la:=H.la;have lm:=H.lm
 have ca:=H.ca;have cm:=H.cm;have am:=H.am
 have ck:=CW g hg
 have u1:∀ (f:Nat->aa) x,au f nx x pc=f pc:=fun f x=>ab _ _ _ _ ae
 have u2:∀ (f:Nat->aa) x,au f nx x pa=f pa:=fun f x=>ab _ _ _ _ ae
 have u3:∀ (f:Nat->aa) x,au f nx x pm=f pm:=fun f x=>ab _ _ _ _ ae
 have kc:(kG g).cells=kC g:=rfl
 have kt:=mV g hg
 have kl:=py g hg
 have oj:=qX g hg
 have ad:qy ((kC g).map V.d)=some (kC g):=cE _
 refine cX.aI mix WI aJ ?_
 rw[Z8]
 by_cases fY:g∈gs s
 ·obtain⟨⟨g',c'⟩,hp,C2⟩:=List.mem_map.1 fY
  dsimp only at C2
  subst C2
  obtain⟨j,hj⟩:=List.mem_iff_getElem?.1 hp
  have hf:=px hg s j H.len H.nd hj 0
  have eM:q9 s g' c=some s:=by unfold q9;rw[if_pos fY]
  rw[show kG g'= .agg (kC g')from rfl]at hf ck
  refine cz (ak oc (ak oa (ak om (ak u1 (ak u2 (ak u3 (ak kc (ak kt (ak kl (ak ad (ak hf ck))))))))))) ?_
  refine aB (aD rfl) ?_
  refine ir ?_
  refine hK s e _ _ eM (by rw[if_pos fY]) ae ⟨(H.bE.mono ae).au ae Gq,ae,ae,ae,ca,cm,am, ?_, ?_, ?_,H.len,H.fin,H.nd⟩ (fun id i1 i2 i3 i4=>ab _ _ _ _ ae)
  ·rw[u1,oc]
  ·rw[u2,oa]
  ·rw[u3,om]
 ·have hf:=CV hg s H.len fY 0
  rw[show kG g= .agg (kC g)from rfl]at hf ck
  refine cz (ak oc (ak oa (ak om (ak u1 (ak u2 (ak u3 (ak kc (ak kt (ak kl (ak ad (ak hf ck))))))))))) ?_
  refine aB (aD rfl) ?_
  by_cases h5:s.length=500
  ·have vK:(((gs s).length:Int)==500)=true:=by rw[iR,h5];rfl
   have eM:q9 s g c=none:=by unfold q9;rw[if_neg fY,if_pos h5]
   refine dY (ak oc (ak oa (ak om (ak u1 (ak u2 (ak u3 (ak kc (ak kt (ak kl (ak ad vK)))))))))) ?_
   exact hX _ _ eM ae ((H.bE.mono ae).au ae Gq) (fun id i1=>ab _ _ _ _ ae)
  ·have vK:(((gs s).length:Int)==500)=false:=by rw[iR,beq_eq_false_iff_ne];omega
   have eM:q9 s g c=some (s++[(g,c)]):=by unfold q9;rw[if_neg fY,if_neg h5]
   have iw:=H.fin
   have jb:(gs s).length<=140737488355327/\((gs s).length+1)*144<=140737488355328:=by rw[iR];omega
   have w1:∀ (f:Nat->aa) x,au f (nx+25) x pc=f pc:=fun f x=>ab _ _ _ _ ae
   have w2:∀ (f:Nat->aa) x,au f (nx+25) x pa=f pa:=fun f x=>ab _ _ _ _ ae
   have w3:∀ (f:Nat->aa) x,au f (nx+25) x pm=f pm:=fun f x=>ab _ _ _ _ ae
   have v1:∀ (f:Nat->aa) x,au f pa x pc=f pc:=fun f x=>ab _ _ _ _ ca
   have v3:∀ (f:Nat->aa) x,au f pa x pm=f pm:=fun f x=>ab _ _ _ _ (fun h=>am h.symm)
   have v4:∀ (f:Nat->aa) x,au f pc x pm=f pm:=fun f x=>ab _ _ _ _ (fun h=>cm h.symm)
   have v5:∀ (f:Nat->aa) x,au f pc x nx=f nx:=fun f x=>ab _ _ _ _ ae
   have v6:∀ (f:Nat->aa) x,au f pa x nx=f nx:=fun f x=>ab _ _ _ _ ae
   simp+contextual (disch:=first|omega|simp only[go_sem,false_implies]) only[go_sem,wrap64,if_pos,oc,oa,om,u1,u2,u3,kc,kt,kl,ad,List.length_map,vK,Nat.add_assoc,Nat.left_eq_add,Nat.add_eq_left,Nat.add_left_cancel_iff,oj,if_pos jb,w1,w2,w3,v1,v3,v4,v5,v6,hf,ck,F4]
   refine aB (cj (ids:=[pc,pa]) (nx:=nx) iA iA [([],[]),([],[]),([0],[]),([0],[]),([0],[]),([2],[]),([],[27]),([1,27],[1]),([0],[]),([0],[]),([0,1],[0])] bG) ?_
   have vL:(kC g).all nH=true:=F4 g
   refine zy (ak oc (ak oa (ak om (ak u1 (ak u2 (ak u3 (ak kc (ak kt (ak kl (ak ad (ak oj (ak w1 (ak w2 (ak w3 (ak v1 (ak v3 (ak v4 (ak v5 (ak v6 (ak hf (ak ck vL))))))))))))))))))))) ?_
   refine aB (cj (ids:=[pc,pm]) (nx:=nx) iA iA [([],[]),([0],[]),([0],[]),([0],[]),([2],[]),([],[]),([1],[1])] bG) ?_
   refine ir ?_
   refine hK _ (e+1) _ _ eM (by rw[if_neg fY]) ae ?_ (fun id i1 i2 i3 i4=>by rw[ab _ _ _ _ i4,ab _ _ _ _ i2,ab _ _ _ _ i3,ab _ _ _ _ (by omega),ab _ _ _ _ (by omega)])
   have TP:gs (s++[(g,c)])=gs s++[g]:=by simp[gs]
   refine⟨?_,ae,ae,ae,ca,cm,am, ?_, ?_, ?_, ?_, ?_, ?_⟩
   ·refine Good.au (Good.au (Good.au (Good.au (Good.au (H.bE.mono ae) ae ?_) ae ?_) ae ?_) ae ?_) ae ?_
    all_goals simp[aa.refs,j6,V.aM,V.refs]
    omega
   ·rw[ab _ _ _ _ cm,af]
   ·rw[ab _ _ _ _ am,ab _ _ _ _ ca.symm,af,TP,List.map_append];rfl
   ·rw[af, <- Mz];rfl
   ·intro x hx
    rcases List.mem_append.1 hx with h|h
    ·exact H.len x h
    ·rw[List.mem_singleton.1 h];exact hg
   ·exact M9
   ·rw[TP,List.nodup_append]
    refine⟨H.nd,aJ,fun a ha b hb e=> ?_⟩
    rw[List.mem_singleton]at hb
    exact fY (hb ▸ e ▸ ha)
theorem CX{o:Nat->aa}{nx pc pa pm e:Nat}{s:GS}(H:MA o nx pc pa pm e s):MA (zg [pc,pa,pm] o) nx pc pa pm e s:=by
 have fY:∀id,id∈[pc,pa,pm]->zg [pc,pa,pm] o id=o id:=fun id aq=>by
  unfold zg;rw[if_pos (by rw[List.contains_iff_mem];exact aq)]
 have EG:∀id,id∉[pc,pa,pm]->zg [pc,pa,pm] o id= .no:=fun id aq=>by
  unfold zg;rw[if_neg (by rw[List.contains_iff_mem];exact aq)]
 have lc:=H.lc;have la:=H.la;have lm:=H.lm
 refine⟨⟨fun id aq=>EG id (fun hm=> ?_),fun id r hr=> ?_⟩,H.lc,H.la,H.lm,H.ca,H.cm,H.am,by rw[fY pc (by simp),H.oc],by rw[fY pa (by simp),H.oa],by rw[fY pm (by simp),H.om],H.len,H.fin,H.nd⟩
 ·simp at hm;omega
 ·by_cases aq:id∈[pc,pa,pm]
  ·rw[fY id aq]at hr;exact H.bE.refs id r hr
  ·rw[EG id aq]at hr;cases hr
theorem H5{o:Nat->aa}{nx pc pa pm e:Nat}{s:GS}(H:MA o nx pc pa pm e s):∀id∈[pc,pa,pm],∀j∈(o id).refs,j∈[pc,pa,pm]:=by
 intro id aq j hj
 simp only[List.mem_cons,List.not_mem_nil,or_false]at aq
 rcases aq with rfl|rfl|rfl
 ·rw[H.oc]at hj;simp[aa.refs,V.aM,V.refs]at hj|-;omega
 ·rw[H.oa]at hj;simp[aa.refs]at hj
 ·rw[H.om]at hj;simp[aa.refs]at hj
theorem TR{o:Nat->aa}{nx pc pa pm e:Nat}{s:GS}(H:MA o nx pc pa pm e s)(g:bI)(hg:g.m.length=16)(c:List Int)(fY:g∈gs s):zh Tryz.prog 156 [.ptr pc 0, .d (kG g), .d (.sl (c.map D.i))] [pc,pa,pm] o (.ret []) []:=by
 have lc:=H.lc;have la:=H.la;have lm:=H.lm
 refine zh.jP (nx:=nx) (fun id aq=>by simp at aq;omega) (fun id aq=>by simp[V.aM,V.refs]at aq;simp[aq]) (H5 H) (fun x hx=>by cases hx) (fun x hx=>by cases hx) ?_
 refine Kr (CX H) g hg c (fun s' e' o' nx' h1 h2 h3 h4 h5=>⟨fun id aq=> ?_,[],[],rfl,rfl,rfl,fun id aq=>by simp[V.bC]at aq⟩) (fun o' nx' h1=> ?_)
 ·rw[if_pos fY]at h2
  subst h2
  have hs:s'=s:=by unfold q9 at h1;simp only[if_pos fY]at h1;exact(Option.some.inj h1).symm
  subst hs
  simp only[List.mem_cons,List.not_mem_nil,or_false]at aq
  rcases aq with rfl|rfl|rfl
  ·rw[h4.oc];exact H.oc.symm
  ·rw[h4.oa];exact H.oa.symm
  ·rw[h4.om];exact H.om.symm
 ·unfold q9 at h1;simp only[if_pos fY]at h1;cases h1
def F5(pc pa pm e:Nat)(s:GS):List (Nat×aa):=[(pc, .row [.osl pa e, .mp pm]),(pa, .arr e 162 18 ((gs s).map kG)),(pm, .map 162 37 (pw s))]
theorem TS{o:Nat->aa}{nx pc pa pm e:Nat}{s:GS}(H:MA o nx pc pa pm e s)(g:bI)(hg:g.m.length=16)(c:List Int)(fY:g∉gs s)(h5:s.length≠500):zh Tryz.prog 156 [.ptr pc 0, .d (kG g), .d (.sl (c.map D.i))] [pc,pa,pm] o (.ret []) (F5 pc pa pm (e+1) (s++[(g,c)])):=by
 have lc:=H.lc;have la:=H.la;have lm:=H.lm
 have ca:=H.ca;have cm:=H.cm;have am:=H.am
 refine zh.jP (nx:=nx) (fun id aq=>by simp at aq;omega) (fun id aq=>by simp[V.aM,V.refs]at aq;simp[aq]) (H5 H) (fun x hx=> ?_) (fun x hx j hj=> ?_) ?_
 ·simp only[F5,List.mem_cons,List.not_mem_nil,or_false]at hx
  rcases hx with rfl|rfl|rfl<;>simp
 ·simp only[F5,List.mem_cons,List.not_mem_nil,or_false]at hx
  rcases hx with rfl|rfl|rfl
  ·simp[aa.refs,V.aM,V.refs]at hj|-;omega
  ·simp[aa.refs]at hj
  ·simp[aa.refs]at hj
 refine Kr (CX H) g hg c (fun s' e' o' nx' h1 h2 h3 h4 h6=>⟨fun id aq=> ?_,[],[],rfl,rfl,rfl,fun id aq=>by simp[V.bC]at aq⟩) (fun o' nx' h1=> ?_)
 ·rw[if_neg fY]at h2
  subst h2
  have hs:s'=s++[(g,c)]:=by unfold q9 at h1;simp only[if_neg fY,if_neg h5]at h1;exact(Option.some.inj h1).symm
  subst hs
  simp only[List.mem_cons,List.not_mem_nil,or_false]at aq
  simp only[F5,put,List.foldl_cons,List.foldl_nil]
  rcases aq with rfl|rfl|rfl
  ·rw[h4.oc,ab _ _ _ _ cm,ab _ _ _ _ ca,af]
  ·rw[h4.oa,ab _ _ _ _ am,af]
  ·rw[h4.om,af]
 ·unfold q9 at h1;simp only[if_neg fY,if_neg h5]at h1;cases h1
theorem TT{o:Nat->aa}{nx pc pa pm e:Nat}{s:GS}(H:MA o nx pc pa pm e s)(g:bI)(hg:g.m.length=16)(c:List Int)(eM:q9 s g c=none):zh Tryz.prog 156 [.ptr pc 0, .d (kG g), .d (.sl (c.map D.i))] [pc,pa,pm] o (.bU (.iface 154 (.agg []))) []:=by
 have lc:=H.lc;have la:=H.la;have lm:=H.lm
 have hr:=CX H
 refine zh.jP (nx:=nx) (fun id aq=>by simp at aq;omega) (fun id aq=>by simp[V.aM,V.refs]at aq;simp[aq]) (H5 H) (fun x hx=>by cases hx) (fun x hx=>by cases hx) ?_
 refine Kr hr g hg c (fun s' e' o' nx' h1=>by rw[eM]at h1;cases h1) (fun o' nx' h1 h2 h3 h4=>⟨fun id aq=> ?_, .iface 154 (.agg []),rfl,rfl,fun id aq=>by simp[V.ids]at aq⟩)
 rw[h4 id (by simp at aq;omega)]
 unfold zg;rw[if_pos (by rw[List.contains_iff_mem];exact aq)];rfl
end Go.Proofs.YtnkamdiiakdkgaaGreat
end
namespace Go.Proofs.YtnkamdiiakdkgaaGreat
theorem nG{B:Nat->Prop}{φ:Place}{H:Hp}{w:World}:∀ (pre:List V) (x:V) (rest:List V) (vals:List Value),V.aG B φ H w (pre++x::rest) vals↔∃v1 val us,vals=v1++val::us/\V.aG B φ H w pre v1/\V.den B φ H w x val/\V.aG B φ H w rest us
 |[],x,rest,vals=>by
  constructor
  ·rintro⟨u,us,h1,h2,h3⟩;exact⟨[],u,us,h1,rfl,h2,h3⟩
  ·rintro⟨v1,u,us,h1,h0,h2,h3⟩
   have h0:v1=[]:=h0
   subst h0
   exact⟨u,us,h1,h2,h3⟩
 |a::pre,x,rest,vals=>by
  constructor
  ·rintro⟨u,us,h1,h2,h3⟩
   obtain⟨v1,val,us',g1,g2,g3,g4⟩:=(nG pre x rest us).1 h3
   exact⟨u::v1,val,us',by rw[h1,g1];rfl,⟨u,v1,rfl,h2,g2⟩,g3,g4⟩
  ·rintro⟨v1,val,us',g1,⟨u,v2,g5,g6,g7⟩,g3,g4⟩
   subst g5
   exact⟨u,v2++val::us',by rw[g1];rfl,g6,(nG pre x rest _).2 ⟨v2,val,us',rfl,g7,g3,g4⟩⟩
theorem cX.abe {P:Program}{g:FuncId}(pre:List V){x:V}{d:D}{rest:List V}{o:Nat->aa}{nx:Nat}{K X:V->(Nat->aa)->Nat->Prop}(hx:dS o x=some d)
 (h:cX P g (pre++ .d d::rest) (put o (bY o x.ids)) nx K X):cX P g (pre++x::rest) o nx K X:=by
 refine⟨h.1,fun M φ w vals hH hd=> ?_⟩
 have hd0:=hd
 obtain⟨v1,val,us,kD,qw,hv,dg⟩:=(nG pre x rest vals.toList).1 hd
 have hu:=fun id aq=>b9 x val hv id aq
 obtain⟨f1,f2,f3,f4,f5⟩:=cW (H:=hp o nx) hH x.ids hu
 have gS:(hp o nx).put (bY o x.ids)=hp (put o (bY o x.ids)) nx:=PL (fun y hy=>by
  simp only[bY,List.mem_map]at hy
  obtain⟨id,aq,rfl⟩:=hy
  exact hu id aq)
 have L2:=f1;have JS:=f2
 rw[show bY (hp o nx).o x.ids=bY o x.ids from rfl,gS]at L2 JS
 have W9:∀k,cw φ ((hp o nx).put (bY o x.ids)) k->cw φ (hp o nx) k:=by
  rintro k ⟨id,g1,g2⟩
  by_cases aq:id∈x.ids
  ·have:=f3 id aq
   rw[show((hp o nx).put (bY o x.ids)).o id=_ from this]at g1
   refine⟨id, ?_,g2⟩
   revert g1
   cases(hp o nx).o id<;>simp[aa.fz,aa.live]
  ·have:=f4 id aq
   exact U7
 have AV:∀j,nQ (((hp o nx).put (bY o x.ids)).o j) ((hp o nx).o j):=fun j=>by
  by_cases hm:j∈x.ids
  ·exact Uq
  ·exact Ug
 have h4:=V.mJ (H:=hp o nx) (H':=(hp o nx).put (bY o x.ids)) (B:=ao M φ (hp o nx)) (B':=ao M φ ((hp o nx).put (bY o x.ids))) (fun k h h'=>h (h'.imp id (W9 k))) x val (fun id aq=>⟨AV id,rfl,(f5 id).2 ((V.mK x val hv) id aq)⟩) hv
 have h5:=eG f1 (o:=o) x d val (fun id aq=>f3 id aq) hx h4
 have h6:=V.fS (H:=hp o nx) (H':=(hp o nx).put (bY o x.ids)) (B:=ao M φ (hp o nx)) (B':=ao M φ ((hp o nx).put (bY o x.ids))) (fun k h h'=>h (h'.imp id (W9 k))) rest us (fun id aq=>⟨AV id,rfl,(f5 id).2 ((V.fE rest us dg) id aq)⟩) dg
 have h7:=V.fS (H:=hp o nx) (H':=(hp o nx).put (bY o x.ids)) (B:=ao M φ (hp o nx)) (B':=ao M φ ((hp o nx).put (bY o x.ids))) (fun k h h'=>h (h'.imp id (W9 k))) pre v1 (fun id aq=>⟨AV id,rfl,(f5 id).2 ((V.fE pre v1 qw) id aq)⟩) qw
 rw[show(hp o nx).put (bY (hp o nx).o x.ids)=hp (put o (bY o x.ids)) nx from gS]at h5
 rw[gS]at h6 h7
 refine(h.2 M φ w vals L2 ((nG pre (.d d) rest vals.toList).2 ⟨v1,val,us,kD,h7,h5,h6⟩)).mono ?_
 rintro e w' ⟨aH,o',nx',v,k1,k2,k3⟩
 exact⟨aH,o',nx',v,k1,JS.trans k2,k3⟩
end Go.Proofs.YtnkamdiiakdkgaaGreat
section
open Go
namespace Go.Proofs.YtnkamdiiakdkgaaGreat
def C7(s:GS):List D:=s.map fun p=> .sl (p.2.map D.i)
def F6(o:Nat->aa)(pc pm nx:Nat)(s:GS):Nat->aa:=
 au (au (au (au (au o pc (.row [.osl (nx+2) 0, .mp pm])) pm (.map 162 37 (pw s))) nx (.arr 0 162 18 ((gs s).map kG))) (nx+1) (.arr 0 37 1 (C7 s))) (nx+2) (.arr 0 162 18 ((gs s).map kG))
theorem H6(o:Nat->aa){pc pm nx:Nat}(s:GS)(lc:pc<nx)(cm:pc≠pm):F6 o pc pm nx s pc= .row [.osl (nx+2) 0, .mp pm]:=by
 unfold F6;rw[ab _ _ _ _ (by omega),ab _ _ _ _ (by omega),ab _ _ _ _ (by omega),ab _ _ _ _ cm,af]
theorem H7(o:Nat->aa){pc pm nx:Nat}(s:GS)(lm:pm<nx):F6 o pc pm nx s pm= .map 162 37 (pw s):=by
 unfold F6;rw[ab _ _ _ _ (by omega),ab _ _ _ _ (by omega),ab _ _ _ _ (by omega),af]
theorem flH_0(o:Nat->aa)(pc pm nx:Nat)(s:GS):F6 o pc pm nx s nx= .arr 0 162 18 ((gs s).map kG):=by
 unfold F6;rw[ab _ _ _ _ (by omega),ab _ _ _ _ (by omega),af]
theorem flH_1(o:Nat->aa)(pc pm nx:Nat)(s:GS):F6 o pc pm nx s (nx+1)= .arr 0 37 1 (C7 s):=by
 unfold F6;rw[ab _ _ _ _ (by omega),af]
theorem flH_2(o:Nat->aa)(pc pm nx:Nat)(s:GS):F6 o pc pm nx s (nx+2)= .arr 0 162 18 ((gs s).map kG):=by unfold F6;rw[af]
theorem yK(o:Nat->aa){pc pm nx:Nat}(s:GS){id:Nat}(h:id<nx\/nx+3<=id)(h1:id≠pc)(h2:id≠pm):F6 o pc pm nx s id=o id:=by
 unfold F6;rw[ab _ _ _ _ (by omega),ab _ _ _ _ (by omega),ab _ _ _ _ (by omega),ab _ _ _ _ h2,ab _ _ _ _ h1]
theorem F7{o:Nat->aa}{pc pm nx:Nat}(pH:Good o nx)(lc:pc<nx)(lm:pm<nx)(s:GS):Good (F6 o pc pm nx s) (nx+3):=by
 unfold F6
 refine Good.au (Good.au (Good.au (Good.au (Good.au (pH.mono ae) ae ?_) ae rfl) ae rfl) ae rfl) ae rfl
 exact M3
theorem H8{o:Nat->aa}{nx pc pm:Nat}(pH:Good o nx)(eM:∀id,nx<=id->o id= .no)(lc:pc<nx)(lm:pm<nx)(cm:pc≠pm){gone:Nat->Prop}(Rf:∀id,gone id->nx<=id){e:Nat->V}{so:Nat->aa}{m:Nat}(L:List V)(s:GS){x y z:V}
 (sc:so pc= .row [z, .mp pm]) (sm:so pm= .map 162 37 (pw s)) (sr:∀id,id<nx->id≠pc->id≠pm->so id=o id)
 (gx:qQ so gone 162 18 ((gs s).map kG) x) (gy:qQ so gone 37 1 (C7 s) y) (gz:qQ so gone 162 18 ((gs s).map kG) z)
 (hxy:∀id ep fq,x= .osl id ep->y= .osl id fq->False) (hxz:∀id ep fq,x= .osl id ep->z= .osl id fq->False) (hyz:∀id ep fq,y= .osl id ep->z= .osl id fq->False)
 (he:lF nx [⟨x,162,18,(gs s).map kG⟩,⟨y,37,1,C7 s⟩,⟨z,162,18,(gs s).map kG⟩] so gone e L 0):aZ nx ⟨e,so,m⟩ ⟨aT L,F6 o pc pm nx s,nx+3⟩:=by
 refine aZ.see gone [⟨x,162,18,(gs s).map kG⟩,⟨y,37,1,C7 s⟩,⟨z,162,18,(gs s).map kG⟩] nx L rfl (Nat.le_refl _) (fun id aq=> ?_) (fun i g hg=> ?_) (fun id aq=> ?_) (fun id h1 h2=>absurd (Rf id h1) ae) (fun i j gi gj id ep fq h h2 h3 h4=> ?_) he
 ·by_cases e1:id=pc
  ·subst e1
   rw[H6 o s lc cm]
   exact sq sc (Cj 2 rfl rfl rfl (Pp (fun r hr=>by simp[V.refs]at hr;omega) sn))
  ·by_cases e2:id=pm
   ·subst e2
    rw[H7 o s lm]
    exact bn sm (fun r hr=>by simp[aa.refs]at hr)
   ·rw[yK o s (.inl aq) e1 e2]
    exact bn (sr id aq e1 e2) (fun r hr=>pH.refs id r hr)
 ·match i,hg with
  |0,hg=>cases hg;exact⟨flH_0 o pc pm nx s,gx⟩
  |1,hg=>cases hg;exact⟨flH_1 o pc pm nx s,gy⟩
  |2,hg=>cases hg;exact⟨flH_2 o pc pm nx s,gz⟩
 ·have aq:nx+3<=id:=aq
  rw[yK o s (.inr aq) (by omega) (by omega)]
  exact eM id ae
 ·match i,j,h,h2 with
  |0,0,_,_=>rfl
  |1,1,_,_=>rfl
  |2,2,_,_=>rfl
  |0,1,h,h2=>cases h;cases h2;exact(hxy _ _ _ h3 h4).elim
  |1,0,h,h2=>cases h;cases h2;exact(hxy _ _ _ h4 h3).elim
  |0,2,h,h2=>cases h;cases h2;exact(hxz _ _ _ h3 h4).elim
  |2,0,h,h2=>cases h;cases h2;exact(hxz _ _ _ h4 h3).elim
  |1,2,h,h2=>cases h;cases h2;exact(hyz _ _ _ h3 h4).elim
  |2,1,h,h2=>cases h;cases h2;exact(hyz _ _ _ h4 h3).elim
theorem F8{O:Nat->aa}{N pc pa pm e id:Nat}{s:GS}(H:MA O N pc pa pm e s)(g:bI)(hg:g.m.length=16)(n:Int)(aq:id<N)(h1:id≠pc)(h2:id≠pa)(h3:id≠pm)(ho:O id= .arr 0 3 1 [.i n]){K X:V->(Nat->aa)->Nat->Prop}
 (hK:∀s' e' o' nx',q9 s g [n]=some s'->N<=nx'->MA o' nx' pc pa pm e' s'->(∀j,j<N->j≠pc->j≠pa->j≠pm->j≠id->o' j=O j)->K (.cc []) o' nx')
 (hX:∀o' nx',q9 s g [n]=none->N<=nx'->Good o' nx'->(∀j,j<N->j≠id->o' j=O j)->X (.d (.iface 154 (.agg []))) o' nx'):
 cX Tryz.prog 156 [.ptr pc 0, .d (kG g), .osl id 0] O N K X:=by
 have e0:put O (bY O (V.ids (.osl id 0)))=au O id (.qg 0 [.i n]):=by
  simp only[V.ids,bY,List.map_cons,List.map_nil,ho]
  rfl
 refine cX.abe [.ptr pc 0, .d (kG g)] (x:= .osl id 0) (d:= .sl [.i n]) (rest:=[]) (by simp[dS,ho]) ?_
 rw[e0]
 refine Kr (s:=s) (pa:=pa) (pm:=pm) (e:=e) ⟨H.bE.au aq (by simp[aa.refs]),H.lc,H.la,H.lm,H.ca,H.cm,H.am,by rw[ab _ _ _ _ h1.symm,H.oc],by rw[ab _ _ _ _ h2.symm,H.oa],by rw[ab _ _ _ _ h3.symm,H.om],H.len,H.fin,H.nd⟩ g hg [n]
  (fun s' e' o' nx' a _ b c d=>hK s' e' o' nx' a b c fun j j1 j2 j3 j4 j5=>by rw[d j j1 j2 j3 j4,ab _ _ _ _ j5])
  (fun o' nx' a b c d=>hX o' nx' a b c fun j j1 j5=>by rw[d j j1,ab _ _ _ _ j5])
end Go.Proofs.YtnkamdiiakdkgaaGreat
end
