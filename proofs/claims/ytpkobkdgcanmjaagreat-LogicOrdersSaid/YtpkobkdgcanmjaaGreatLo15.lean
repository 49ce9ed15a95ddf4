/-
  A PART OF THE PROOF. Conditions: none.
-/
import Derived.Test.YtpkobkdgcanmjaaGreatLo14
set_option linter.unusedSimpArgs false
set_option linter.unusedVariables false
namespace Go.Proofs.YtpkobkdgcanmjaaGreat
def nv(ok:Bool):Int:=if ok=true then 0 else 2
@[reducible] def yx (s:bJ) (bs:List (List UInt8)):Nat->aa:=aV (aV (aV (fun _=> .no) 0 (.row s.row)) 3 (.row [.mp 2])) 2 (.map 9 4 (enc .str (kZ bs)))
theorem vS(s:bJ)(hs:s.Fits):bU Tryz.prog 65 [s.d] (.ret [.i (nv (mR s))]):=by
 refine bU.bD mix IQ (by simp) ?_
 rw[PO]
 simp+contextual (disch:=first|omega|simp only[go_sem,false_implies]) only[go_sem,wrap64,if_pos,Nat.add_assoc,Nat.left_eq_add,Nat.add_eq_left,Nat.add_left_cancel_iff]
 refine ah (pA _ _ _) rfl ?_
 simp+contextual (disch:=first|omega|simp only[go_sem,false_implies]) only[go_sem,wrap64,if_pos,Nat.add_assoc,Nat.left_eq_add,Nat.add_eq_left,Nat.add_left_cancel_iff]
 cases h1:(!iD s.cons.length 2 12||decide (8<(s.dV.length:Int)))with
 |true=>
  have:mR s=false:=by simp only[mR,h1,if_true]
  simp+contextual (disch:=first|omega|simp only[go_sem,false_implies]) only[go_sem,wrap64,if_pos,h1]
  simp[this,nv]
 |false=>
  have CO:=la s.cons []
  have MA:∀ (l:List ll),(∀x∈l,x.name.length<=9223372036854775807)->∀x∈l,∀bs,True->sy Tryz.prog 87 (.d x.d::[.ptr 3 0]) 4 (yx s bs) (yx s (fb bs x).1) (.d (.bool (fb bs x).2)):=fun l hl x hx bs _=>
   Fl x (hl x hx) 4 3 2 (aV (aV (fun _=> .no) 0 (.row s.row)) 3 (.row [.mp 2])) (aI _ _ _) (by omega) (by omega) (by omega) bs
  simp[iD]at h1
  obtain⟨a,b,r,hc⟩:∃a b r,s.cons=a::b::r:=by
   match h:s.cons with
   |[]=>rw[h]at h1;simp at h1
   |[a]=>rw[h]at h1;simp at h1
   |a::b::r=>exact⟨a,b,r,rfl⟩
  have lN:(!iD s.cons.length 2 12||decide (8<(s.dV.length:Int)))=false:=by simp[iD];omega
  have yo:mR s=if(!jg a fB|| !jg b tB)=true then false else match bK s.cons []with
   |none=>false
   |some l=>(bK s.dV l).isSome:=by
   unfold mR
   rw[if_neg (by rw[lN];exact Bool.false_ne_true),hc]
   dsimp only
   rfl
  simp+contextual (disch:=first|omega|simp only[go_sem,false_implies]) only[go_sem,wrap64,if_pos,lN]
  refine db (um s.cons hs.lc 87 [.ptr 3 0] 4 (yx s) fb (by simp[V.ax,V.refs]) (fun _=>True) (fun _ _ _ _ _=>trivial) (MA s.cons hs.nc) [] trivial _ _ ⟨?_,by omega,fun id ag=> ?_⟩ _ _ fun o2 n2 m1 m2 m3=> ?_)
  ·exact(by repeat(first|exact hg.mono (by omega)|exact Good.nil|refine Good.aV ?_ (by omega) rfl|refine Good.aV ?_ (by omega) (w6 _ _ _ (by omega))|refine Good.aV ?_ (by omega) (by simp[aa.refs,V.ax,V.refs]<;>omega)))
  ·rcases(by omega:id=0\/id=1\/id=2\/id=3)with rfl|rfl|rfl|rfl<;>rfl
  have p0:∀ {bs:List (List UInt8)} {o:Nat->aa} {n:Nat},jN 4 (yx s bs) o n->o 0= .row s.row:=fun h=>h.eq 0 (by omega)
  have p3:∀ {bs:List (List UInt8)} {o:Nat->aa} {n:Nat},jN 4 (yx s bs) o n->o 3= .row [.mp 2]:=fun h=>h.eq 3 (by omega)
  cases hn:bK s.cons []with
  |none=>
   rw[hn]at CO
   simp only at CO
   rw[CO]
   simp+contextual (disch:=first|omega|simp only[go_sem,false_implies]) only[go_sem,wrap64,if_pos,Nat.add_assoc,Nat.left_eq_add,Nat.add_eq_left,Nat.add_left_cancel_iff]
   rw[yo,hn]
   split<;>rfl
  |some B=>
   rw[hn]at CO
   simp only at CO
   rw[CO]at m2|-
   simp+contextual (disch:=first|omega|simp only[go_sem,false_implies]) only[go_sem,wrap64,if_pos,Nat.add_assoc,Nat.left_eq_add,Nat.add_eq_left,Nat.add_left_cancel_iff,p0 m2]
   refine db (um s.dV hs.lf 87 [.ptr 3 0] 4 (yx s) fb (by simp[V.ax,V.refs]) (fun _=>True) (fun _ _ _ _ _=>trivial) (MA s.dV hs.nf) B trivial _ _ (m2.mono (by omega)) _ _ fun o4 n4 k1 k2 k3=> ?_)
   have CP:=la s.dV B
   cases hf:bK s.dV B with
   |none=>
    rw[hf]at CP
    simp only at CP
    rw[CP]
    simp+contextual (disch:=first|omega|simp only[go_sem,false_implies]) only[go_sem,wrap64,if_pos,Nat.add_assoc,Nat.left_eq_add,Nat.add_eq_left,Nat.add_left_cancel_iff]
    rw[yo,hn]
    simp only[hf]
    split<;>rfl
   |some C=>
    rw[hf]at CP
    simp only at CP
    rw[CP]at k2|-
    simp+contextual (disch:=first|omega|simp only[go_sem,false_implies]) only[go_sem,wrap64,if_pos,Nat.add_assoc,Nat.left_eq_add,Nat.add_eq_left,Nat.add_left_cancel_iff,p0 k2,hc]
    have DB:mR s= !(!jg a fB|| !jg b tB):=by
     rw[yo,hn];simp only[hf]
     cases(!jg a fB|| !jg b tB)<;>rfl
    refine aJ (fun h5=> ?_) (fun h5=> ?_)
    ·simp+contextual (disch:=first|omega|simp only[go_sem,false_implies]) only[go_sem,wrap64,if_pos,and_self]
     have GD:(!jg a fB|| !jg b tB)=true:=h5
     rw[DB,GD];rfl
    ·simp+contextual (disch:=first|omega|simp only[go_sem,false_implies]) only[go_sem,wrap64,if_pos,and_self]
     have GD:(!jg a fB|| !jg b tB)=false:=h5
     rw[DB,GD];rfl
structure Tm.Fin (t:Tm):Prop where
 fits:t.fits
 lq:t.lq<=900000
end Go.Proofs.YtpkobkdgcanmjaaGreat
namespace Go.Proofs.YtpkobkdgcanmjaaGreat
end Go.Proofs.YtpkobkdgcanmjaaGreat
namespace Go.Proofs.YtpkobkdgcanmjaaGreat
def Tm.w7 (t:Tm):Int:=(pre t 1).length
structure Tm.Qs (t:Tm):Prop extends t.Fin where
 size:t.w7<=1000000
theorem Tm.Fin.sj {t k:Tm}(h:t.Fin)(hk:k∈t.kids):k.Fin:=⟨((Tm.cK _).1 h.fits).2 k hk,by have:=Tm.BU hk;have:=h.lq;omega⟩
theorem nw:∀ (t:Tm) (d d':Int),(pre t d).length=(pre t d').length:=by
 refine Tm.iy fun t ih d d'=> ?_
 rw[rS,rS]
 simp only[List.length_cons,List.length_flatMap]
 congr 2
 exact List.map_congr_left fun k hk=>ih k hk _ _
theorem Tm.yy {t k:Tm}(hk:k∈t.kids):k.w7+1<=t.w7:=by
 simp only[Tm.w7]
 rw[rS t,nw k 1 (1+1)]
 simp only[List.length_cons,List.length_flatMap]
 have:∀ (l:List Tm),k∈l->(pre k (1+1)).length<=(l.map fun k=>(pre k (1+1)).length).sum:=by
  intro l
  induction l with
  |nil=>intro h;cases h
  |cons x l ih=>
   intro h
   rcases List.mem_cons.1 h with rfl|h
   ·simp only[List.map_cons,List.sum_cons];omega
   ·have:=ih h;simp only[List.map_cons,List.sum_cons];omega
 have:=this _ hk
 omega
theorem Tm.Qs.sj {t k:Tm}(h:t.Qs)(hk:k∈t.kids):k.Qs:=⟨h.toFin.sj hk,by have:=Tm.yy hk;have:=h.size;omega⟩
end Go.Proofs.YtpkobkdgcanmjaaGreat
namespace Go.Proofs.YtpkobkdgcanmjaaGreat
end Go.Proofs.YtpkobkdgcanmjaaGreat
namespace Go.Proofs.YtpkobkdgcanmjaaGreat
def Tm.sz (t:Tm):Nat:=(pre t 1).length
def uo(l:List Tm):Nat:=(l.map Tm.sz).sum
theorem Tm.qL (t:Tm):t.sz=1+uo t.kids:=by
 unfold Tm.sz uo
 rw[rS,List.length_cons,List.length_flatMap,Nat.add_comm]
 congr 2
 exact List.map_congr_left fun k hk=>nw k _ _
theorem mj(k:Tm)(l:List Tm):uo (k::l)=k.sz+uo l:=by simp[uo]
theorem Tm.Az (t:Tm):1<=t.sz:=by rw[Tm.qL];omega
theorem qM(k:Tm)(l:List Tm):Tm.gm (k::l)=Nat.max k.lq (Tm.gm l):=by simp[Tm.gm]
theorem Tm.AA (t:Tm):t.lq=1+Tm.gm t.kids:=by cases t;simp[Tm.lq,Tm.kids]
theorem yz:∀t:Tm,∀left depth:Int,eR t left depth=if(t.sz:Int)<=left/\(t.lq:Int)<=depth then left - t.sz else -1:=by
 refine Tm.iy fun t ih left depth=> ?_
 have hs:∀ (l:List Tm) (left d:Int),(∀k∈l,k∈t.kids)->0<=left->0<=d->bL l left d=if(uo l:Int)<=left/\(Tm.gm l:Int)<=d then left - uo l else -1:=by
  intro l
  induction l with
  |nil=>intro left d _ h1 h2;simp[bL,uo,Tm.gm,h1,h2]
  |cons k l px=>
   intro left d hk h1 h2
   simp only[bL,if_pos h1]
   rw[ih k (hk k (by simp))]
   have hm:(Tm.gm (k::l):Int)<=d↔(k.lq:Int)<=d/\(Tm.gm l:Int)<=d:=by
    have:= @Nat.max_le k.lq (Tm.gm l) d.toNat
    have e:Tm.gm (k::l)=max k.lq (Tm.gm l):=qM k l
    rw[e];omega
   simp only[mj,hm]
   by_cases hc:(k.sz:Int)<=left/\(k.lq:Int)<=d
   ·rw[if_pos hc,px _ _ (fun x hx=>hk x (by simp[hx])) (by omega) h2]
    by_cases q8:(uo l:Int)<=left - k.sz/\(Tm.gm l:Int)<=d
    ·rw[if_pos q8,if_pos (by omega)];omega
    ·rw[if_neg q8,if_neg (by omega)]
   ·rw[if_neg hc,kY (by omega),if_neg (by omega)]
 rw[uj,Tm.qL,Tm.AA]
 by_cases h:left<1\/depth<1
 ·rw[if_pos h,if_neg (by omega)]
 ·rw[if_neg h,hs _ _ _ (fun _ h=>h) (by omega) (by omega)]
  by_cases hc:(uo t.kids:Int)<=left - 1/\(Tm.gm t.kids:Int)<=depth - 1
  ·rw[if_pos hc,if_pos (by omega)];omega
  ·rw[if_neg hc,if_neg (by omega)]
theorem jQ(t:Tm)(left depth:Int):0<=eR t left depth↔(t.sz:Int)<=left/\(t.lq:Int)<=depth:=by
 rw[yz];split<;>omega
theorem vT:∀a:Tm,ma a a=true:=by
 refine Tm.iy fun a ih=> ?_
 rw[pz]
 have:iW a.kids a.kids=true:=(iB _ _ rfl).2 fun i x y hx hy=>by
  rw[hx]at hy;injection hy with hy;subst hy;exact ih x (List.mem_of_getElem? hx)
 simp[this]
theorem yA:∀a b:Tm,ma a b=true↔a=b:=by
 refine Tm.iy fun a ih b=>⟨fun h=> ?_,fun e=>e ▸ vT _⟩
 rw[pz]at h
 simp only[Bool.and_eq_true,beq_iff_eq]at h
 obtain⟨⟨⟨h1,h2⟩,h3⟩,h4⟩:=h
 have h5:=(iB _ _ h3).1 h4
 have:a.kids=b.kids:=by
  apply List.ext_getElem?
  intro i
  cases hx:a.kids[i]? with
  |none=>simp at hx;symm;simp;omega
  |some x=>
   have hi:=(List.getElem?_eq_some_iff.1 hx).1
   obtain⟨y,hy⟩:=bY (l:=b.kids) (k:=i) (by omega)
   rw[hy,(ih x (List.mem_of_getElem? hx) y).1 (h5 i x y hx hy)]
 rw[<- Tm.eta a, <- Tm.eta b,h1,h2,this]
end Go.Proofs.YtpkobkdgcanmjaaGreat
namespace Go.Proofs.YtpkobkdgcanmjaaGreat
def iC(s:bJ)(t:Tm):Bool:=
 let k:Int:=t.kids.length
 if t.op=16 then t.n==0&&k==0
 else if t.op=1 then iD t.n 0 199&&k==0
 else if t.op=2 then iD t.n (-1000000) 1000000&&k==0
 else if t.op=3 then iD t.n 0 (s.cons.length - 1)&&k==jH s.cons t.n
 else if t.op=5 then iD t.n 0 (s.dV.length - 1)&&decide (k<jH s.dV t.n)
 else false
mutual
def pC(s:bJ):Tm->Bool
 | .mk op n kids=>w8 s kids&&iC s (.mk op n kids)
def w8(s:bJ):List Tm->Bool
 |[]=>true
 |k::l=>pC s k&&w8 s l
end
theorem qN(s:bJ):∀l:List Tm,w8 s l=l.all (pC s)
 |[]=>rfl
 |k::l=>by rw[w8,qN s l];rfl
theorem nW(s:bJ)(t:Tm):pC s t=(t.kids.all (pC s)&&iC s t):=by cases t;rw[pC,qN];rfl
def nL(s:bJ)(t:Tm):Bool:=decide (0<=eR t 80 30)&&pC s t
def Pn(s:bJ)(t:Tm):Prop:=pC s t=true
theorem pD{s:bJ}{t:Tm}:Pn s t↔iC s t=true/\∀k∈t.kids,Pn s k:=by
 unfold Pn;rw[nW,Bool.and_eq_true,List.all_eq_true];exact and_comm
theorem Pn.sj {s:bJ}{t k:Tm}(h:Pn s t)(hk:k∈t.kids):Pn s k:=(pD.1 h).2 k hk
theorem w9{s:bJ}{t:Tm}(h:iC s t=true)(h1:t.op=16\/t.op=1\/t.op=2):t.kids=[]/\(t.op=16->t.n=0):=by
 unfold iC at h
 rcases h1 with h1|h1|h1
 ·simp[h1]at h;exact⟨h.2,fun _=>h.1⟩
 ·simp[h1]at h;exact⟨h.2,fun e=>by omega⟩
 ·simp[h1]at h;exact⟨h.2,fun e=>by omega⟩
theorem Pn.bare {s:bJ}{t:Tm}(h:Pn s t)(h1:t.op=16\/t.op=1\/t.op=2):t.kids=[]:=(w9 (pD.1 h).1 h1).1
theorem Pn.bot {s:bJ}{t:Tm}(h:Pn s t)(h1:t.op=16):t= .mk 16 0 []:=by
 have h2:=w9 (pD.1 h).1 (.inl h1)
 rw[<- Tm.eta t,h1,h2.1,h2.2 h1]
mutual
def pO(s:bJ):Tm->Int->Int->Bool×Int
 | .mk op n kids,left,d=>if left - 1<0\/d<=0\/iC s (.mk op n kids)=false then(false,left - 1)else mX s kids (left - 1) (d - 1)
def mX(s:bJ):List Tm->Int->Int->Bool×Int
 |[],left,_=>(true,left)
 |k::l,left,d=>if(pO s k left d).1=true then mX s l (pO s k left d).2 d else(false,(pO s k left d).2)
end
theorem AB(s:bJ)(t:Tm)(left d:Int):pO s t left d=if left - 1<0\/d<=0\/iC s t=false then(false,left - 1)else mX s t.kids (left - 1) (d - 1):=by cases t;rw[pO];rfl
theorem AD(s:bJ):∀ (t:Tm) (left d:Int),(pO s t left d).1=(decide ((t.sz:Int)<=left/\(t.lq:Int)<=d)&&pC s t)/\((pO s t left d).1=true->(pO s t left d).2=left - t.sz):=by
 refine Tm.iy fun t ih left d=> ?_
 have key:∀ (ks:List Tm) (left d:Int),(∀k∈ks,k∈t.kids)->0<=left->0<=d->(mX s ks left d).1=(decide ((uo ks:Int)<=left/\(Tm.gm ks:Int)<=d)&&ks.all (pC s))/\((mX s ks left d).1=true->(mX s ks left d).2=left - uo ks):=by
  intro ks
  induction ks with
  |nil=>intro left d _ h0 hd;simp[mX,uo,Tm.gm];omega
  |cons k ks Qt=>
   intro left d Sb h0 hd
   obtain⟨e1,e2⟩:=ih k (Sb k (by simp)) left d
   have hp:=Tm.Az k
   rw[mj,qM]
   simp only[mX]
   by_cases h1:(pO s k left d).1=true
   ·rw[if_pos h1]
    have e3:=e2 h1
    rw[e1,Bool.and_eq_true,decide_eq_true_eq]at h1
    obtain⟨i1,i2⟩:=Qt (pO s k left d).2 d (fun x hx=>Sb x (by simp[hx])) (by omega) hd
    rw[e3]at i1 i2|-
    refine⟨?_,fun h=>by have:=i2 h;omega⟩
    rw[i1,Bool.eq_iff_iff]
    simp only[List.all_cons,Bool.and_eq_true,decide_eq_true_eq,h1.2,true_and]
    have:Nat.max k.lq (Tm.gm ks)=max k.lq (Tm.gm ks):=rfl
    rw[this]
    constructor
    ·rintro⟨h2,h3⟩;exact⟨by omega,h3⟩
    ·rintro⟨h2,h3⟩;exact⟨by omega,h3⟩
   ·rw[if_neg h1]
    refine⟨?_,fun h=>by cases h⟩
    rw[e1]at h1
    show false=_
    symm
    rw[Bool.eq_false_iff]
    intro h2
    apply h1
    simp only[List.all_cons,Bool.and_eq_true,decide_eq_true_eq]at h2|-
    have:Nat.max k.lq (Tm.gm ks)=max k.lq (Tm.gm ks):=rfl
    rw[this]at h2
    exact⟨by omega,h2.2.1⟩
 have hs:=Tm.qL t
 have hh:=Tm.AA t
 rw[AB]
 by_cases h1:left - 1<0\/d<=0\/iC s t=false
 ·rw[if_pos h1]
  refine⟨?_,fun h=>by cases h⟩
  show false=_
  symm
  rw[Bool.eq_false_iff]
  intro h2
  simp only[Bool.and_eq_true,decide_eq_true_eq,nW]at h2
  rcases h1 with h1|h1|h1
  ·omega
  ·omega
  ·rw[h1]at h2;exact absurd h2.2.2 (by simp)
 ·rw[if_neg h1]
  have h2:iC s t=true:=by cases h:iC s t<;>simp_all
  obtain⟨i1,i2⟩:=key t.kids (left - 1) (d - 1) (fun _ h=>h) (by omega) (by omega)
  refine⟨?_,fun h=>by have:=i2 h;omega⟩
  rw[i1,nW,h2,Bool.and_true,Bool.eq_iff_iff]
  simp only[Bool.and_eq_true,decide_eq_true_eq]
  constructor
  ·rintro⟨h3,h4⟩;exact⟨by omega,h4⟩
  ·rintro⟨h3,h4⟩;exact⟨by omega,h4⟩
theorem MB(s:bJ)(t:Tm):(pO s t 80 30).1=nL s t:=by
 rw[(AD s t 80 30).1,nL]
 congr 1
 rw[Bool.eq_iff_iff,decide_eq_true_eq,decide_eq_true_eq,jQ]
mutual
def eS:Tm->Tm->Bool
 | .mk op n kids,b=>if op=16 then true else if op≠b.op\/n≠b.n\/kids.length≠b.kids.length then false else dm kids b.kids
def dm:List Tm->List Tm->Bool
 |[],_=>true
 |_::_,[]=>true
 |k::l,k'::l'=>eS k k'&&dm l l'
end
theorem AE(a b:Tm):eS a b=if a.op=16 then true else if a.op≠b.op\/a.n≠b.n\/a.kids.length≠b.kids.length then false else dm a.kids b.kids:=by cases a;rw[eS];rfl
theorem cA{a b:Tm}:eS a b=true↔a.op=16\/(a.op=b.op/\a.n=b.n/\a.kids.length=b.kids.length/\dm a.kids b.kids=true):=by
 rw[AE]
 by_cases h1:a.op=16
 ·simp[h1]
 ·rw[if_neg h1]
  by_cases h2:a.op≠b.op\/a.n≠b.n\/a.kids.length≠b.kids.length
  ·rw[if_pos h2]
   constructor
   ·intro h;cases h
   ·rintro(h|⟨h3,h4,h5,_⟩)
    ·exact absurd h h1
    ·rcases h2 with h|h|h<;>contradiction
  ·rw[if_neg h2]
   constructor
   ·intro h
    exact .inr ⟨Classical.byContradiction fun e=>h2 (.inl e),Classical.byContradiction fun e=>h2 (.inr (.inl e)),Classical.byContradiction fun e=>h2 (.inr (.inr e)),h⟩
   ·rintro(h|h)
    ·exact absurd h h1
    ·exact h.2.2.2
theorem xa:∀a:Tm,eS a a=true:=by
 refine Tm.iy fun a ih=> ?_
 have:∀l:List Tm,(∀k∈l,k∈a.kids)->dm l l=true:=by
  intro l
  induction l with
  |nil=>intro _;rfl
  |cons k l px=>intro h;rw[dm,ih k (h k (by simp)),px (fun x hx=>h x (by simp[hx]))];rfl
 rw[cA]
 exact .inr ⟨rfl,rfl,rfl,this _ fun _ h=>h⟩
theorem jR:∀a b c:Tm,eS a b=true->eS b c=true->eS a c=true:=by
 refine Tm.iy fun a ih b c h1 h2=> ?_
 rw[cA]at h1 h2|-
 rcases h1 with h1|⟨e1,e2,e3,e4⟩
 ·exact .inl h1
 by_cases h0:a.op=16
 ·exact .inl h0
 rcases h2 with h2|⟨f1,f2,f3,f4⟩
 ·exact absurd (e1.trans h2) h0
 ·refine .inr ⟨e1.trans f1,e2.trans f2,e3.trans f3, ?_⟩
  have:∀l m n:List Tm,(∀k∈l,k∈a.kids)->l.length=m.length->m.length=n.length->dm l m=true->dm m n=true->dm l n=true:=by
   intro l
   induction l with
   |nil=>intro m n _ _ _ _ _;rfl
   |cons k l px=>
    intro m n h l1 l2 g1 g2
    cases m with
    |nil=>cases l1
    |cons k' m=>
     cases n with
     |nil=>cases l2
     |cons MO n=>
      rw[dm,Bool.and_eq_true]at g1 g2|-
      exact⟨ih k (h k (by simp)) k' MO g1.1 g2.1,px m n (fun x hx=>h x (by simp[hx])) (by simpa using l1) (by simpa using l2) g1.2 g2.2⟩
  exact this _ _ _ (fun _ h=>h) e3 f3 e4 f4
theorem Ci{s:bJ}:∀a b:Tm,Pn s a->Pn s b->eS a b=true->eS b a=true->a=b:=by
 refine Tm.iy fun a ih b pa pb h1 h2=> ?_
 rw[cA]at h1 h2
 rcases h1 with h1|⟨e1,e2,e3,e4⟩
 ·have hb:b.op=16:=by
   rcases h2 with h2|h2
   ·exact h2
   ·rw[h2.1,h1]
  rw[pa.bot h1,pb.bot hb]
 ·rcases h2 with h2|⟨f1,f2,f3,f4⟩
  ·rw[pa.bot (e1.trans h2),pb.bot h2]
  ·have:∀l m:List Tm,(∀k∈l,k∈a.kids)->(∀k∈m,Pn s k)->l.length=m.length->dm l m=true->dm m l=true->l=m:=by
    intro l
    induction l with
    |nil=>intro m _ _ h _ _;cases m with
     |nil=>rfl
     |cons _ _=>cases h
    |cons k l px=>
     intro m h hm hl g1 g2
     cases m with
     |nil=>cases hl
     |cons k' m=>
      rw[dm,Bool.and_eq_true]at g1 g2
      rw[ih k (h k (by simp)) k' (pa.sj (h k (by simp))) (hm k' (by simp)) g1.1 g2.1,px m (fun x hx=>h x (by simp[hx])) (fun x hx=>hm x (by simp[hx])) (by simpa using hl) g1.2 g2.2]
   rw[<- Tm.eta a, <- Tm.eta b,e1,e2,this _ _ (fun _ h=>h) (fun k hk=>pb.sj hk) e3 e4 f4]
end Go.Proofs.YtpkobkdgcanmjaaGreat
namespace Go.Proofs.YtpkobkdgcanmjaaGreat
mutual
def jh:Tm->Tm->Option Tm
 | .mk op n kids,b=>if op=16 then some b else if b.op=16 then some (.mk op n kids)else if op≠b.op\/n≠b.n\/kids.length≠b.kids.length then none else(bZ kids b.kids).map fun l=> .mk op n l
def bZ:List Tm->List Tm->Option (List Tm)
 |[],_=>some []
 |_::_,[]=>some []
 |k::l,k'::l'=>match jh k k' with
  |some x=>(bZ l l').map fun m=>x::m
  |none=>none
end
theorem j6(a b:Tm):jh a b=if a.op=16 then some b else if b.op=16 then some a else if a.op≠b.op\/a.n≠b.n\/a.kids.length≠b.kids.length then none else(bZ a.kids b.kids).map fun l=> .mk a.op a.n l:=by cases a;rw[jh];rfl
mutual
def A5:Tm->Tm->Option Tm
 | .mk op n kids,b=>if eS (.mk op n kids) b=true then some b else if eS b (.mk op n kids)=true then some (.mk op n kids)else if op≠b.op\/n≠b.n\/kids.length≠b.kids.length then none else
   match kq kids b.kids with
   |some []=>none
   |some l=>some (.mk op n l)
   |none=>none
def kq:List Tm->List Tm->Option (List Tm)
 |[],_=>some []
 |_::_,[]=>some []
 |k::l,k'::l'=>match A5 k k' with
  |some x=>(kq l l').map fun m=>x::m
  |none=>none
end
theorem AF(a b:Tm):A5 a b=if eS a b=true then some b else if eS b a=true then some a else if a.op≠b.op\/a.n≠b.n\/a.kids.length≠b.kids.length then none else
 match kq a.kids b.kids with
 |some []=>none
 |some l=>some (.mk a.op a.n l)
 |none=>none:=by cases a;rw[A5];rfl
theorem Fm{s:bJ}:∀a b:Tm,Pn s a->Pn s b->(eS a b=true->jh a b=some b)/\(eS b a=true->jh a b=some a):=by
 refine Tm.iy fun a ih b pa pb=> ?_
 have k1:∀l m:List Tm,(∀k∈l,k∈a.kids)->(∀k∈m,Pn s k)->l.length=m.length->dm l m=true->bZ l m=some m:=by
  intro l
  induction l with
  |nil=>intro m _ _ h _;cases m with
   |nil=>rfl
   |cons _ _=>cases h
  |cons k l px=>
   intro m h hm hl g
   cases m with
   |nil=>cases hl
   |cons k' m=>
    rw[dm,Bool.and_eq_true]at g
    rw[bZ,(ih k (h k (by simp)) k' (pa.sj (h k (by simp))) (hm k' (by simp))).1 g.1,px m (fun x hx=>h x (by simp[hx])) (fun x hx=>hm x (by simp[hx])) (by simpa using hl) g.2]
    rfl
 have k2:∀l m:List Tm,(∀k∈l,k∈a.kids)->(∀k∈m,Pn s k)->l.length=m.length->dm m l=true->bZ l m=some l:=by
  intro l
  induction l with
  |nil=>intro m _ _ _ _;rfl
  |cons k l px=>
   intro m h hm hl g
   cases m with
   |nil=>cases hl
   |cons k' m=>
    rw[dm,Bool.and_eq_true]at g
    rw[bZ,(ih k (h k (by simp)) k' (pa.sj (h k (by simp))) (hm k' (by simp))).2 g.1,px m (fun x hx=>h x (by simp[hx])) (fun x hx=>hm x (by simp[hx])) (by simpa using hl) g.2]
    rfl
 constructor
 ·intro h
  rw[j6]
  by_cases h1:a.op=16
  ·rw[if_pos h1]
  ·rw[if_neg h1]
   rcases cA.1 h with h|⟨e1,e2,e3,e4⟩
   ·exact absurd h h1
   ·rw[if_neg (by rw[<- e1];exact h1),if_neg (by simp[e1,e2,e3]),k1 _ _ (fun _ h=>h) (fun k hk=>pb.sj hk) e3 e4]
    show some (Tm.mk a.op a.n b.kids)=some b
    rw[e1,e2,Tm.eta]
 ·intro h
  rw[j6]
  by_cases h1:a.op=16
  ·rw[if_pos h1]
   have hb:b.op=16:=by
    rcases cA.1 h with h|h
    ·exact h
    ·rw[h.1,h1]
   rw[pa.bot h1,pb.bot hb]
  ·rw[if_neg h1]
   rcases cA.1 h with h|⟨e1,e2,e3,e4⟩
   ·rw[if_pos h]
   ·rw[if_neg (by rw[e1];exact h1),if_neg (by simp[e1,e2,e3]),k2 _ _ (fun _ h=>h) (fun k hk=>pb.sj hk) e3.symm e4]
    show some (Tm.mk a.op a.n a.kids)=some a
    rw[Tm.eta]
theorem Cj{s:bJ}:∀a b:Tm,Pn s a->Pn s b->A5 a b=jh a b:=by
 refine Tm.iy fun a ih b pa pb=> ?_
 obtain⟨l1,l2⟩:=Fm a b pa pb
 rw[AF]
 by_cases h1:eS a b=true
 ·rw[if_pos h1,l1 h1]
 ·rw[if_neg h1]
  by_cases h2:eS b a=true
  ·rw[if_pos h2,l2 h2]
  ·rw[if_neg h2,j6,if_neg (fun h=>h1 (cA.2 (.inl h))),if_neg (fun h=>h2 (cA.2 (.inl h)))]
   by_cases h3:a.op≠b.op\/a.n≠b.n\/a.kids.length≠b.kids.length
   ·rw[if_pos h3,if_pos h3]
   ·rw[if_neg h3,if_neg h3]
    have key:∀l m:List Tm,(∀k∈l,k∈a.kids)->(∀k∈m,Pn s k)->kq l m=bZ l m:=by
     intro l
     induction l with
     |nil=>intro m _ _;simp only[kq,bZ]
     |cons k l px=>
      intro m h hm
      cases m with
      |nil=>simp only[kq,bZ]
      |cons k' m=>
       rw[kq,bZ,ih k (h k (by simp)) k' (pa.sj (h k (by simp))) (hm k' (by simp)),px m (fun x hx=>h x (by simp[hx])) (fun x hx=>hm x (by simp[hx]))]
    have e1:a.op=b.op:=Classical.byContradiction fun e=>h3 (.inl e)
    have e2:a.n=b.n:=Classical.byContradiction fun e=>h3 (.inr (.inl e))
    have e3:a.kids.length=b.kids.length:=Classical.byContradiction fun e=>h3 (.inr (.inr e))
    have hk:a.kids≠[]:=fun e=>h1 (cA.2 (.inr ⟨e1,e2,e3,by rw[e];rfl⟩))
    rw[key _ _ (fun _ h=>h) fun k hk=>pb.sj hk]
    cases hr:bZ a.kids b.kids with
    |none=>rfl
    |some l=>
     cases l with
     |cons x l=>rfl
     |nil=>
      cases Qu:a.kids with
      |nil=>exact absurd Qu hk
      |cons k ks=>
       cases Sc:b.kids with
       |nil=>rw[Qu,Sc]at e3;cases e3
       |cons k' Nv=>
        rw[Qu,Sc,bZ]at hr
        cases e:jh k k' with
        |none=>rw[e]at hr;cases hr
        |some x=>
         rw[e]at hr
         cases e5:bZ ks Nv with
         |none=>rw[e5]at hr;cases hr
         |some y=>rw[e5]at hr;cases hr
theorem pE:∀ (l m j:List Tm),l.length=m.length->bZ l m=some j->j.length=l.length
 |[],_,_,_,h=>by simp only[bZ]at h;injection h with h;subst h;rfl
 |_::_,[],_,h,_=>by cases h
 |k::l,k'::m,j,hl,h=>by
  rw[bZ]at h
  cases e:jh k k' with
  |none=>rw[e]at h;cases h
  |some x=>
   rw[e]at h
   cases e5:bZ l m with
   |none=>rw[e5]at h;cases h
   |some y=>
    rw[e5]at h
    injection h with h
    subst h
    simp[pE l m y (by simpa using hl) e5]
theorem Fo{s:bJ}{a:Tm}{l:List Tm}(h:l.length=a.kids.length):iC s (.mk a.op a.n l)=iC s a:=by
 cases a with
 |mk op n kids=>
  replace h:l.length=kids.length:=h
  simp only[iC,Tm.kids,Tm.op,Tm.n,h]
  rfl
theorem AG{s:bJ}:∀a b j:Tm,Pn s a->Pn s b->jh a b=some j->Pn s j/\eS a j=true/\eS b j=true/\∀c,eS a c=true->eS b c=true->eS j c=true:=by
 refine Tm.iy fun a ih b j pa pb h=> ?_
 rw[j6]at h
 by_cases h1:a.op=16
 ·rw[if_pos h1]at h;injection h with h;subst h
  exact⟨pb,cA.2 (.inl h1),xa _,fun c _ h=>h⟩
 rw[if_neg h1]at h
 by_cases h2:b.op=16
 ·rw[if_pos h2]at h;injection h with h;subst h
  exact⟨pa,xa _,cA.2 (.inl h2),fun c h _=>h⟩
 rw[if_neg h2]at h
 by_cases h3:a.op≠b.op\/a.n≠b.n\/a.kids.length≠b.kids.length
 ·rw[if_pos h3]at h;cases h
 rw[if_neg h3]at h
 have e1:a.op=b.op:=Classical.byContradiction fun e=>h3 (.inl e)
 have e2:a.n=b.n:=Classical.byContradiction fun e=>h3 (.inr (.inl e))
 have e3:a.kids.length=b.kids.length:=Classical.byContradiction fun e=>h3 (.inr (.inr e))
 cases hr:bZ a.kids b.kids with
 |none=>rw[hr]at h;cases h
 |some l=>
  rw[hr]at h
  injection h with h
  subst h
  have hlen:=pE _ _ _ e3 hr
  have key:∀l m j:List Tm,(∀k∈l,k∈a.kids)->(∀k∈m,Pn s k)->l.length=m.length->bZ l m=some j->(∀k∈j,Pn s k)/\dm l j=true/\dm m j=true/\∀c,dm l c=true->dm m c=true->l.length=c.length->dm j c=true:=by
   intro l
   induction l with
   |nil=>
    intro m j _ _ hl hj
    cases m with
    |nil=>simp only[bZ]at hj;injection hj with hj;subst hj;exact⟨fun _ h=>(by cases h),rfl,rfl,fun _ _ _ _=>rfl⟩
    |cons _ _=>cases hl
   |cons k l px=>
    intro m j h hm hl hj
    cases m with
    |nil=>cases hl
    |cons k' m=>
     rw[bZ]at hj
     cases e:jh k k' with
     |none=>rw[e]at hj;cases hj
     |some x=>
      rw[e]at hj
      cases e5:bZ l m with
      |none=>rw[e5]at hj;cases hj
      |some y=>
       rw[e5]at hj
       injection hj with hj
       subst hj
       obtain⟨p1,p2,p3,p4⟩:=ih k (h k (by simp)) k' x (pa.sj (h k (by simp))) (hm k' (by simp)) e
       obtain⟨q1,q2,q3,q4⟩:=px m y (fun x hx=>h x (by simp[hx])) (fun x hx=>hm x (by simp[hx])) (by simpa using hl) e5
       refine⟨fun z hz=> ?_,by rw[dm,p2,q2];rfl,by rw[dm,p3,q3];rfl,fun c g1 g2 g3=> ?_⟩
       ·rcases List.mem_cons.1 hz with rfl|hz
        ·exact p1
        ·exact q1 z hz
       ·cases c with
        |nil=>cases g3
        |cons c cs=>
         rw[dm,Bool.and_eq_true]at g1 g2|-
         exact⟨p4 c g1.1 g2.1,q4 cs g1.2 g2.2 (by simpa using g3)⟩
  obtain⟨p1,p2,p3,p4⟩:=key _ _ _ (fun _ h=>h) (fun k hk=>pb.sj hk) e3 hr
  refine⟨pD.2 ⟨?_,p1⟩,cA.2 (.inr ⟨rfl,rfl,hlen.symm,p2⟩),cA.2 (.inr ⟨e1.symm,e2.symm,by rw[<- e3];exact hlen.symm,p3⟩),fun c g1 g2=> ?_⟩
  ·show iC s (.mk a.op a.n l)=true
   rw[Fo hlen];exact(pD.1 pa).1
  ·rcases cA.1 g1 with g1|⟨f1,f2,f3,f4⟩
   ·exact absurd g1 h1
   rcases cA.1 g2 with g2|⟨w1,w2,w3,w4⟩
   ·exact absurd g2 h2
   exact cA.2 (.inr ⟨f1,f2,hlen.trans f3,p4 _ f4 w4 f3⟩)
theorem uq{s:bJ}:∀a b:Tm,Pn s a->Pn s b->jh a b=none->∀c,eS a c=true->eS b c=true->False:=by
 refine Tm.iy fun a ih b pa pb h c g1 g2=> ?_
 rw[j6]at h
 by_cases h1:a.op=16
 ·rw[if_pos h1]at h;cases h
 rw[if_neg h1]at h
 by_cases h2:b.op=16
 ·rw[if_pos h2]at h;cases h
 rw[if_neg h2]at h
 rcases cA.1 g1 with g1|⟨f1,f2,f3,f4⟩
 ·exact absurd g1 h1
 rcases cA.1 g2 with g2|⟨w1,w2,w3,w4⟩
 ·exact absurd g2 h2
 have e3:a.kids.length=b.kids.length:=f3.trans w3.symm
 rw[if_neg (by rw[f1,w1,f2,w2,e3];simp)]at h
 have key:∀l m c:List Tm,(∀k∈l,k∈a.kids)->(∀k∈m,Pn s k)->l.length=m.length->l.length=c.length->bZ l m=none->dm l c=true->dm m c=true->False:=by
  intro l
  induction l with
  |nil=>intro m c _ _ _ _ hj;simp only[bZ]at hj;cases hj
  |cons k l px=>
   intro m c h hm hl hc hj b1 b2
   cases m with
   |nil=>cases hl
   |cons k' m=>
    cases c with
    |nil=>cases hc
    |cons c cs=>
     rw[dm,Bool.and_eq_true]at b1 b2
     rw[bZ]at hj
     cases e:jh k k' with
     |none=>exact ih k (h k (by simp)) k' (pa.sj (h k (by simp))) (hm k' (by simp)) e c b1.1 b2.1
     |some x=>
      rw[e]at hj
      cases e5:bZ l m with
      |some y=>rw[e5]at hj;cases hj
      |none=>exact px m cs (fun x hx=>h x (by simp[hx])) (fun x hx=>hm x (by simp[hx])) (by simpa using hl) (by simpa using hc) e5 b1.2 b2.2
 cases hr:bZ a.kids b.kids with
 |some l=>rw[hr]at h;cases h
 |none=>exact key _ _ _ (fun _ h=>h) (fun k hk=>pb.sj hk) e3 f3 hr f4 w4
end Go.Proofs.YtpkobkdgcanmjaaGreat
namespace Go.Proofs.YtpkobkdgcanmjaaGreat
theorem xb(n low high:Int):bU Tryz.prog 95 [.i n, .i low, .i high] (.ret [.bool (iD n low high)]):=by
 refine bU.bD mix I9 (by simp) ?_
 rw[Qh]
 simp+contextual only[go_sem]
 rfl
theorem Ck(s:bJ)(t:Tm)(hs:s.Fits)(ht:t.kids.length<=9223372036854775807):bU Tryz.prog 72 [s.d,t.d] (.ret [.bool (iC s t)]):=by
 refine bU.bD mix I0 (by simp) ?_
 rw[PW]
 simp+contextual only[go_sem]
 rcases(by omega:t.op=16\/t.op=1\/t.op=2\/t.op=3\/t.op=5\/(t.op≠16/\t.op≠1/\t.op≠2/\t.op≠3/\t.op≠5))with h|h|h|h|h|h
 ·have hn:iC s t=(t.n==0&&(t.kids.length:Int)==0):=by unfold iC;rw[if_pos h]
  simp+contextual only[go_sem,h]
  rw[hn]
 ·have hn:iC s t=(iD t.n 0 199&&(t.kids.length:Int)==0):=by unfold iC;rw[if_neg (by omega),if_pos h]
  simp+contextual only[go_sem,h]
  refine ah (xb _ _ _) rfl ?_
  simp+contextual only[go_sem,h]
  rw[hn]
 ·have hn:iC s t=(iD t.n (-1000000) 1000000&&(t.kids.length:Int)==0):=by unfold iC;rw[if_neg (by omega),if_neg (by omega),if_pos h]
  simp+contextual only[go_sem,h]
  refine ah (xb _ _ _) rfl ?_
  simp+contextual only[go_sem,h]
  rw[hn]
 ·have hn:iC s t=(iD t.n 0 (s.cons.length - 1)&&(t.kids.length:Int)==jH s.cons t.n):=by unfold iC;rw[if_neg (by omega),if_neg (by omega),if_neg (by omega),if_pos h]
  simp+contextual only[go_sem,h]
  rw[wrap64 (by have:=hs.lc;omega) (by have:=hs.lc;omega)]
  refine ah (xb _ _ _) rfl ?_
  cases hI:iD t.n 0 (s.cons.length - 1)with
  |false=>
   simp+contextual only[go_sem,h,hI]
   rw[hn,hI];rfl
  |true=>
   obtain⟨h0,x,hx⟩:=nV hI
   simp+contextual only[go_sem,h,hI,hx,h0]
   rw[hn,hI,iZ hx];rfl
 ·have hn:iC s t=(iD t.n 0 (s.dV.length - 1)&&decide ((t.kids.length:Int)<jH s.dV t.n)):=by unfold iC;rw[if_neg (by omega),if_neg (by omega),if_neg (by omega),if_neg (by omega),if_pos h]
  simp+contextual only[go_sem,h]
  rw[wrap64 (by have:=hs.lf;omega) (by have:=hs.lf;omega)]
  refine ah (xb _ _ _) rfl ?_
  cases hI:iD t.n 0 (s.dV.length - 1)with
  |false=>
   simp+contextual only[go_sem,h,hI]
   rw[hn,hI];rfl
  |true=>
   obtain⟨h0,x,hx⟩:=nV hI
   simp+contextual only[go_sem,h,hI,hx,h0]
   rw[hn,hI,iZ hx];rfl
 ·have hn:iC s t=false:=by unfold iC;rw[if_neg h.1,if_neg h.2.1,if_neg h.2.2.1,if_neg h.2.2.2.1,if_neg h.2.2.2.2]
  have e1:(t.op==16)=false:=by simpa using h.1
  have e2:(t.op==1)=false:=by simpa using h.2.1
  have e3:(t.op==2)=false:=by simpa using h.2.2.1
  have e4:(t.op==3)=false:=by simpa using h.2.2.2.1
  have e5:(t.op==5)=false:=by simpa using h.2.2.2.2
  simp+contextual only[go_sem,e1,e2,e3,e4,e5]
  rw[hn]
theorem AH(s:bJ)(hs:s.Fits):∀t:Tm,t.fits->bU Tryz.prog 47 [s.d,t.d] (.ret [.bool (pC s t)]):=by
 refine Tm.iy fun t ih hf=> ?_
 have xC:=(Tm.cK _).1 hf
 refine bU.bD mix IJ (by simp) ?_
 rw[Px]
 simp+contextual only[go_sem]
 rw[nW]
 refine cq (fun k:Nat=>⟨bI [.aw, .aw, .ptr 0 0, .ptr 1 0, .aw, .d (.i k)],vP s.row t.row,2⟩)
  (fun k=>k<=t.kids.length/\(t.kids.take k).all (pC s)=true) (fun k=>t.kids.length - k) 0 ⟨Nat.zero_le _,by simp⟩ (dq.d2 _ (gI rfl rfl) (by omega) rfl rfl ?_) (fun k hk=> ?_)
 ·(repeat(first|exact aP|refine aK ?_|refine aG rfl ?_|refine aG (cJ (cI (by omega))) ?_|refine bn rfl (by simp[V.refs,V.ax]<;>first|omega|assumption) ?_))
 simp+contextual only[go_sem]
 refine aJ (fun h2=> ?_) (fun h2=> ?_)
 ·simp at h2
  obtain⟨x,hx⟩:=bY h2
  have py:=List.mem_of_getElem? hx
  simp+contextual only[go_sem,hx]
  refine iV (ih x py (xC.2 x py)) rfl ?_
  simp+contextual only[go_sem]
  refine cS (by decide) ?_
  simp+contextual only[go_sem]
  refine aJ (fun h3=> ?_) (fun h3=> ?_)
  ·simp+contextual only[go_sem]
   simp at h3
   rw[jP hx h3];rfl
  ·simp+contextual only[go_sem]
   simp at h3
   refine bg (k+1) ⟨h2,mh hx hk.2 h3⟩ (by omega) (dq.d2 _ (gI rfl rfl) (by omega) rfl rfl ?_)
   (repeat(first|exact aP|refine aK ?_|refine aG rfl ?_|refine aG (cJ (cI (by omega))) ?_|refine bn rfl (by simp[V.refs,V.ax]<;>first|omega|assumption) ?_))
 ·simp+contextual only[go_sem]
  simp at h2
  rw[mi hk.2 h2,Bool.true_and]
  refine ah (Ck s t hs xC.1) rfl ?_
  simp+contextual only[go_sem]
theorem pF(s:bJ)(hs:s.Fits)(t:Tm)(hf:t.fits):bU Tryz.prog 13 [s.d,t.d] (.ret [.bool (nL s t)]):=by
 refine bU.bD mix Iy (by simp) ?_
 rw[OV]
 simp+contextual only[go_sem]
 refine ah (wY t hf 80 30 (by omega) (by omega)) rfl ?_
 unfold nL
 cases h:decide (0<=eR t 80 30)with
 |false=>simp+contextual only[go_sem,h]
 |true=>
  simp+contextual only[go_sem,h]
  refine ah (AH s hs t hf) rfl ?_
  simp+contextual only[go_sem,h]
def j7(t:Tm):Bool:=decide (0<=eR t 100 35)
theorem jS(t:Tm)(hf:t.fits):bU Tryz.prog 7 [t.d] (.ret [.bool (j7 t)]):=by
 refine bU.bD mix Rb (by simp) ?_
 rw[c7]
 simp+contextual only[go_sem]
 refine ah (wY t hf 100 35 (by omega) (by omega)) rfl ?_
 simp+contextual only[go_sem]
 rfl
end Go.Proofs.YtpkobkdgcanmjaaGreat
namespace Go.Proofs.YtpkobkdgcanmjaaGreat
def qO(t:Tm):D:=if t.op=16 then .iface 103 (.agg [])else if t.op=1 then .iface 104 (.i t.n)else .iface 105 t.d
theorem lookD_0{t:Tm}(h:t.op=16):qO t= .iface 103 (.agg []):=if_pos h
theorem lookD_1{t:Tm}(h:t.op=1):qO t= .iface 104 (.i t.n):=by unfold qO;rw[if_neg (by omega),if_pos h]
theorem lookD_2{t:Tm}(h:t.op≠16)(h1:t.op≠1):qO t= .iface 105 t.d:=by unfold qO;rw[if_neg h,if_neg h1]
@[go_sem] theorem AJ:mB Tryz.prog 103=true:=by kernel_rfl
@[go_sem] theorem A6:mB Tryz.prog 104=true:=by kernel_rfl
@[go_sem] theorem Cl:mB Tryz.prog 105=true:=by kernel_rfl
theorem j8(n low high:Int):bU Tryz.prog 59 [.i n, .i low, .i high] (.ret [.bool (iD n low high)]):=by
 refine bU.bD mix IM (by simp) ?_
 rw[PI]
 simp+contextual only[go_sem]
 rfl
theorem vU(t:Tm):bU Tryz.prog 68 [t.d] (.ret [qO t]):=by
 refine bU.bD mix IW (by simp) ?_
 rw[PS]
 by_cases h0:t.op=16
 ·have CB:(t.op==16)=true:=by simpa using h0
  rw[lookD_0 h0]
  simp+contextual (disch:=first|omega|simp only[go_sem,false_implies]) only[go_sem,wrap64,if_pos,CB]
 ·have CB:(t.op==16)=false:=by simpa using h0
  by_cases h1:t.op=1
  ·have lN:(t.op==1)=true:=by simpa using h1
   rw[lookD_1 h1]
   simp+contextual (disch:=first|omega|simp only[go_sem,false_implies]) only[go_sem,wrap64,if_pos,CB,lN]
  ·have lN:(t.op==1)=false:=by simpa using h1
   rw[lookD_2 h0 h1]
   simp+contextual (disch:=first|omega|simp only[go_sem,false_implies]) only[go_sem,wrap64,if_pos,CB,lN]
theorem MC(a b:List Tm)(ha:a.length<=9223372036854775807)(hb:b.length<=9223372036854775807)(g:Nat)(h:∀x∈a,∀y∈b,bU Tryz.prog g [x.d,y.d] (.ret [.bool (eS x y)]))(o:Nat->aa)(nx:Nat)(hg:Good o nx)(K X:V->(Nat->aa)->Nat->Prop)
 (hK:∀o' nx',nx<=nx'->Good o' nx'->(∀j,j<nx->o' j=o j)->K (.d (.bool (a.length==b.length&&dm a b))) o' nx'):
 fm Tryz.prog 69 [.d (.sl (a.map Tm.d)), .d (.sl (b.map Tm.d)), .func (.func g) [] []] o nx K X:=by
 refine fm.bD mix IX (by simp) ?_
 rw[PT]
 simp+contextual (disch:=first|omega|simp only[go_sem,false_implies]) only[go_sem,wrap64,if_pos,Nat.add_assoc,Nat.left_eq_add,Nat.add_eq_left,Nat.add_left_cancel_iff]
 refine aJ (fun h1=> ?_) (fun h1=> ?_)
 ·simp+contextual (disch:=first|omega|simp only[go_sem,false_implies]) only[go_sem,wrap64,if_pos,and_self]
  have:(a.length==b.length&&dm a b)=false:=by
   have:(a.length==b.length)=false:=by
    rw[Bool.eq_false_iff];intro h
    simp at h;simp[h]at h1
   rw[this];rfl
  rw[this]at hK
  exact hK _ _ (by omega) (hg.mono (by omega)) (fun _ _=>rfl)
 ·have hl:a.length=b.length:=by simp at h1;omega
  have Bp:(a.length==b.length)=true:=by simpa using hl
  rw[Bp,Bool.true_and]at hK
  simp+contextual (disch:=first|omega|simp only[go_sem,false_implies]) only[go_sem,wrap64,if_pos,Nat.add_assoc,Nat.left_eq_add,Nat.add_eq_left,Nat.add_left_cancel_iff]
  refine cq (fun k:Nat=>⟨bI [.d (.sl (a.map Tm.d)), .d (.sl (b.map Tm.d)), .func (.func g) [] [], .aw, .aw, .aw, .aw, .aw, .aw, .aw, .aw, .aw, .aw, .aw, .aw, .d (.sl (a.map Tm.d)), .d (.i a.length), .d (.i k)],o,nx⟩)
   (fun k=>k<=a.length/\dm a b=dm (a.drop k) (b.drop k)) (fun k=>a.length - k) 0 ⟨Nat.zero_le _,by simp⟩ (dq.gH _ (Nat.le_refl _) (by omega) hg (fun _ _=>rfl) ?_) (fun k hk=> ?_)
  ·(repeat(first|exact aP|refine aK ?_|refine aG rfl ?_|refine aG (cJ (cI (by omega))) ?_|refine bn rfl (by simp[V.refs,V.ax]<;>first|omega|assumption) ?_))
  simp+contextual (disch:=first|omega|simp only[go_sem,false_implies]) only[go_sem,wrap64,if_pos,and_self]
  refine aJ (fun h2=> ?_) (fun h2=> ?_)
  ·simp at h2
   obtain⟨x,hx⟩:=bY h2
   obtain⟨y,hy⟩:=bY (l:=b) (k:=k) (by omega)
   have hd:dm (a.drop k) (b.drop k)=(eS x y&&dm (a.drop (k+1)) (b.drop (k+1))):=by
    obtain⟨g1,g2⟩:=List.getElem?_eq_some_iff.1 hx
    obtain⟨g3,g4⟩:=List.getElem?_eq_some_iff.1 hy
    rw[List.drop_eq_getElem_cons g1,List.drop_eq_getElem_cons g3,g2,g4,dm]
   simp+contextual (disch:=first|omega|simp only[go_sem,false_implies]) only[go_sem,wrap64,if_pos,hx,hy,Nat.add_assoc,Nat.left_eq_add,Nat.add_eq_left,Nat.add_left_cancel_iff]
   refine ah (h x (List.mem_of_getElem? hx) y (List.mem_of_getElem? hy)) rfl ?_
   simp+contextual (disch:=first|omega|simp only[go_sem,false_implies]) only[go_sem,wrap64,if_pos,and_self]
   refine aJ (fun h3=> ?_) (fun h3=> ?_)
   ·simp+contextual (disch:=first|omega|simp only[go_sem,false_implies]) only[go_sem,wrap64,if_pos,and_self]
    simp at h3
    have:dm a b=false:=by rw[hk.2,hd,h3];rfl
    rw[this]at hK
    refine hK _ _ (by omega) ?_ (fun j hj=>by(repeat(first|rfl|rw[aI]|rw[aH _ _ _ _ (by omega)])))
    exact(by repeat(first|exact hg.mono (by omega)|exact Good.nil|refine Good.aV ?_ (by omega) rfl|refine Good.aV ?_ (by omega) (w6 _ _ _ (by omega))|refine Good.aV ?_ (by omega) (by simp[aa.refs,V.ax,V.refs]<;>omega)))
   ·simp+contextual (disch:=first|omega|simp only[go_sem,false_implies]) only[go_sem,wrap64,if_pos,and_self]
    simp at h3
    refine bg (k+1) ⟨h2,by rw[hk.2,hd,h3];rfl⟩ (by omega) (dq.gH _ (Nat.le_refl _) (by omega) hg (fun j hj=>by(repeat(first|rfl|rw[aI]|rw[aH _ _ _ _ (by omega)]))) ?_)
    (repeat(first|exact aP|refine aK ?_|refine aG rfl ?_|refine aG (cJ (cI (by omega))) ?_|refine bn rfl (by simp[V.refs,V.ax]<;>first|omega|assumption) ?_))
  ·simp+contextual (disch:=first|omega|simp only[go_sem,false_implies]) only[go_sem,wrap64,if_pos,and_self]
   simp at h2
   have:dm a b=true:=by rw[hk.2,List.drop_eq_nil_of_le h2];rfl
   rw[this]at hK
   exact hK _ _ (by omega) (hg.mono (by omega)) (fun _ _=>rfl)
theorem Cm(s:bJ)(t:Tm)(hs:s.Fits)(ht:t.kids.length<=9223372036854775807):bU Tryz.prog 93 [s.d,t.d] (.ret [.bool (iC s t)]):=by
 refine bU.bD mix I7 (by simp) ?_
 rw[Qf]
 simp+contextual (disch:=first|omega|simp only[go_sem,false_implies]) only[go_sem,wrap64,if_pos,and_self]
 refine bH (vU t) ?_
 rcases(by omega:t.op=16\/t.op=1\/(t.op≠16/\t.op≠1))with h|h|⟨h0,h1⟩
 ·have hn:iC s t=(t.n==0&&(t.kids.length:Int)==0):=by unfold iC;rw[if_pos h]
  rw[lookD_0 h]
  simp+contextual (disch:=first|omega|simp only[go_sem,false_implies]) only[go_sem,wrap64,if_pos,h,List.length_map]
  rw[hn]
 ·have hn:iC s t=(iD t.n 0 199&&(t.kids.length:Int)==0):=by unfold iC;rw[if_neg (by omega),if_pos h]
  rw[lookD_1 h]
  simp+contextual (disch:=first|omega|simp only[go_sem,false_implies]) only[go_sem,wrap64,if_pos,h]
  refine ah (j8 _ _ _) rfl ?_
  simp+contextual (disch:=first|omega|simp only[go_sem,false_implies]) only[go_sem,wrap64,if_pos,h,List.length_map]
  rw[hn]
 rw[lookD_2 h0 h1]
 rcases(by omega:t.op=2\/t.op=3\/t.op=5\/(t.op≠2/\t.op≠3/\t.op≠5))with h|h|h|h
 ·have hn:iC s t=(iD t.n (-1000000) 1000000&&(t.kids.length:Int)==0):=by unfold iC;rw[if_neg (by omega),if_neg (by omega),if_pos h]
  simp+contextual (disch:=first|omega|simp only[go_sem,false_implies]) only[go_sem,wrap64,if_pos,h]
  refine ah (j8 _ _ _) rfl ?_
  simp+contextual (disch:=first|omega|simp only[go_sem,false_implies]) only[go_sem,wrap64,if_pos,h,List.length_map]
  rw[hn]
 ·have hn:iC s t=(iD t.n 0 (s.cons.length - 1)&&(t.kids.length:Int)==jH s.cons t.n):=by unfold iC;rw[if_neg (by omega),if_neg (by omega),if_neg (by omega),if_pos h]
  simp+contextual (disch:=first|omega|simp only[go_sem,false_implies]) only[go_sem,wrap64,if_pos,h]
  rw[wrap64 (by have:=hs.lc;omega) (by have:=hs.lc;omega)]
  refine iV (j8 _ _ _) rfl ?_
  cases hI:iD t.n 0 (s.cons.length - 1)with
  |false=>
   simp+contextual (disch:=first|omega|simp only[go_sem,false_implies]) only[go_sem,wrap64,if_pos,h,hI]
   refine cS (by decide) ?_
   simp+contextual (disch:=first|omega|simp only[go_sem,false_implies]) only[go_sem,wrap64,if_pos,h,hI]
   rw[hn,hI];rfl
  |true=>
   obtain⟨h0,x,hx⟩:=nV hI
   simp+contextual (disch:=first|omega|simp only[go_sem,false_implies]) only[go_sem,wrap64,if_pos,h,hI,hx,h0,List.length_map]
   refine cS (by decide) ?_
   simp+contextual (disch:=first|omega|simp only[go_sem,false_implies]) only[go_sem,wrap64,if_pos,h,hI]
   rw[hn,hI,iZ hx];rfl
 ·have hn:iC s t=(iD t.n 0 (s.dV.length - 1)&&decide ((t.kids.length:Int)<jH s.dV t.n)):=by unfold iC;rw[if_neg (by omega),if_neg (by omega),if_neg (by omega),if_neg (by omega),if_pos h]
  simp+contextual (disch:=first|omega|simp only[go_sem,false_implies]) only[go_sem,wrap64,if_pos,h]
  rw[wrap64 (by have:=hs.lf;omega) (by have:=hs.lf;omega)]
  refine iV (j8 _ _ _) rfl ?_
  cases hI:iD t.n 0 (s.dV.length - 1)with
  |false=>
   simp+contextual (disch:=first|omega|simp only[go_sem,false_implies]) only[go_sem,wrap64,if_pos,h,hI]
   refine cS (by decide) ?_
   simp+contextual (disch:=first|omega|simp only[go_sem,false_implies]) only[go_sem,wrap64,if_pos,h,hI]
   rw[hn,hI];rfl
  |true=>
   obtain⟨h0,x,hx⟩:=nV hI
   simp+contextual (disch:=first|omega|simp only[go_sem,false_implies]) only[go_sem,wrap64,if_pos,h,hI,hx,h0,List.length_map]
   refine cS (by decide) ?_
   simp+contextual (disch:=first|omega|simp only[go_sem,false_implies]) only[go_sem,wrap64,if_pos,h,hI]
   rw[hn,hI,iZ hx];rfl
 ·have hn:iC s t=false:=by unfold iC;rw[if_neg h0,if_neg h1,if_neg h.1,if_neg h.2.1,if_neg h.2.2]
  have e3:(t.op==2)=false:=by simpa using h.1
  have e4:(t.op==3)=false:=by simpa using h.2.1
  have e5:(t.op==5)=false:=by simpa using h.2.2
  simp+contextual (disch:=first|omega|simp only[go_sem,false_implies]) only[go_sem,wrap64,if_pos,e3,e4,e5]
  refine cS (by decide) ?_
  simp+contextual (disch:=first|omega|simp only[go_sem,false_implies]) only[go_sem,wrap64,if_pos,and_self]
  rw[hn]
end Go.Proofs.YtpkobkdgcanmjaaGreat
namespace Go.Proofs.YtpkobkdgcanmjaaGreat
theorem AK(n:Int)(x:D){o:Nat->aa}:cp Tryz.prog o .eql 100 false (.d (.iface 103 x)) (.d (.iface 104 (.i n)))=some (.d (.bool false),[],[]):=by kernel_rfl
theorem AL(m n:Int){o:Nat->aa}:cp Tryz.prog o .eql 100 false (.d (.iface 104 (.i m))) (.d (.iface 104 (.i n)))=some (.d (.bool (m==n)),[],[]):=by kernel_rfl
theorem AM(n:Int)(x:D){o:Nat->aa}:cp Tryz.prog o .eql 100 false (.d (.iface 105 x)) (.d (.iface 104 (.i n)))=some (.d (.bool false),[],[]):=by kernel_rfl
theorem pG{s:bJ}:∀a:Tm,a.fits->Pn s a->∀b:Tm,b.fits->Pn s b->bU Tryz.prog 42 [a.d,b.d] (.ret [.bool (eS a b)]):=by
 refine Tm.iy fun a ih ha pa b hb pb=> ?_
 have A7:=(Tm.cK _).1 ha
 have xn:=(Tm.cK _).1 hb
 refine bU.bD mix ID (by simp) ?_
 rw[Ps,AE]
 simp+contextual (disch:=first|omega|simp only[go_sem,false_implies]) only[go_sem,wrap64,if_pos,and_self]
 refine bH (vU a) ?_
 by_cases h:a.op=16
 ·rw[lookD_0 h,if_pos h]
  simp+contextual (disch:=first|omega|simp only[go_sem,false_implies]) only[go_sem,wrap64,if_pos,and_self]
 rw[if_neg h]
 by_cases h1:a.op=1
 ·have ka:=pa.bare (.inr (.inl h1))
  rw[lookD_1 h1]
  simp+contextual (disch:=first|omega|simp only[go_sem,false_implies]) only[go_sem,wrap64,if_pos,and_self]
  refine bH (vU b) ?_
  by_cases CQ:b.op=16
  ·rw[lookD_0 CQ,if_pos (.inl (by omega))]
   simp+contextual (disch:=first|omega|simp only[go_sem,false_implies]) only[go_sem,wrap64,if_pos,AK]
  by_cases uF:b.op=1
  ·have kb:=pb.bare (.inr (.inl uF))
   rw[lookD_1 uF]
   simp+contextual (disch:=first|omega|simp only[go_sem,false_implies]) only[go_sem,wrap64,if_pos,AL]
   by_cases e:a.n=b.n
   ·rw[if_neg (by rw[h1,uF,e,ka,kb];simp),ka,e]
    simp[dm]
   ·rw[if_pos (.inr (.inl e))]
    simp;exact fun h=>e h.symm
  ·rw[lookD_2 CQ uF,if_pos (.inl (by omega))]
   simp+contextual (disch:=first|omega|simp only[go_sem,false_implies]) only[go_sem,wrap64,if_pos,AM]
 rw[lookD_2 h h1]
 by_cases e1:a.op=b.op
 ·have MD:(a.op==b.op)=true:=by simpa using e1
  by_cases e2:a.n=b.n
  ·have Nq:(a.n==b.n)=true:=by simpa using e2
   simp+contextual (disch:=first|omega|simp only[go_sem,false_implies]) only[go_sem,wrap64,if_pos,MD,Nq]
   refine db (MC a.kids b.kids A7.1 xn.1 42 (fun x hx y hy=>ih x hx (A7.2 x hx) (pa.sj hx) y (xn.2 y hy) (pb.sj hy)) _ _ (by repeat(first|exact hg.mono (by omega)|exact Good.nil|refine Good.aV ?_ (by omega) rfl|refine Good.aV ?_ (by omega) (w6 _ _ _ (by omega))|refine Good.aV ?_ (by omega) (by simp[aa.refs,V.ax,V.refs]<;>omega))) _ _ fun o2 n2 m1 m2 m3=> ?_)
   simp+contextual (disch:=first|omega|simp only[go_sem,false_implies]) only[go_sem,wrap64,if_pos,MD,Nq]
   by_cases e3:a.kids.length=b.kids.length
   ·rw[if_neg (by simp[e1,e2,e3])]
    simp[e3]
   ·rw[if_pos (.inr (.inr e3))]
    simp[e3]
  ·have Nq:(a.n==b.n)=false:=by simpa using e2
   rw[if_pos (.inr (.inl e2))]
   simp+contextual (disch:=first|omega|simp only[go_sem,false_implies]) only[go_sem,wrap64,if_pos,MD,Nq]
 ·have MD:(a.op==b.op)=false:=by simpa using e1
  rw[if_pos (.inl e1)]
  simp+contextual (disch:=first|omega|simp only[go_sem,false_implies]) only[go_sem,wrap64,if_pos,MD]
end Go.Proofs.YtpkobkdgcanmjaaGreat
namespace Go.Proofs.YtpkobkdgcanmjaaGreat
end Go.Proofs.YtpkobkdgcanmjaaGreat
namespace Go.Proofs.YtpkobkdgcanmjaaGreat
def pY{σ:Type}(step:σ->Tm->σ×Bool):σ->List Tm->Int->Int
 |_,[],_=> -1
 |s,x::l,k=>if(step s x).2=true then pY step (step s x).1 l (k+1)else k
theorem xc{σ:Type}(step:σ->Tm->σ×Bool):∀ (l:List Tm) (s:σ) (k:Int),0<=k->(0<=pY step s l k↔(bX step s l).2=false)
 |[],_,_,_=>by simp[pY,bX]
 |x::l,s,k,hk=>by
  have ih:=xc step l (step s x).1 (k+1) (by omega)
  by_cases h:(step s x).2=true
  ·simp only[pY,bX,h,if_true];exact ih
  ·simp[pY,bX,h,hk]
theorem Fq{σ:Type}(l:List Tm)(hl:l.length<=9223372036854775807)(g:Nat)(b9:List V)(base:Nat)(H:σ->Nat->aa)(step:σ->Tm->σ×Bool)(hc:∀r∈V.ax b9,r<base)(ok:σ->Prop)(a8:∀x∈l,∀s,ok s->(step s x).2=true->ok (step s x).1)
 (h:∀x∈l,∀s,ok s->sy Tryz.prog g (.d x.d::b9) base (H s) (H (step s x).1) (.d (.bool (!(step s x).2)))) (s:σ) (rr:ok s):
 sy Tryz.prog 109 [.d (.sl (l.map Tm.d)), .func (.func g) [] b9] base (H s) (H (bX step s l).1) (.d (.i (pY step s l 0))):=by
 intro o nx hI K X hK
 have qZ:∀r∈V.ax b9,r<nx:=fun r hr=>Nat.lt_of_lt_of_le (hc r hr) hI.le
 refine fm.bD mix Dz (by simp) ?_
 rw[Fa]
 simp+contextual only[go_sem]
 refine cq (fun i:Nat×σ×(Nat->aa)×Nat=>⟨bI [.d (.sl (l.map Tm.d)), .func (.func g) [] b9, .aw, .aw, .aw, .aw, .aw, .d (.i l.length), .d (.i i.1)],i.2.2.1,i.2.2.2⟩)
  (fun i=>i.1<=l.length/\jN base (H i.2.1) i.2.2.1 i.2.2.2/\nx<=i.2.2.2/\(∀id,base<=id->id<nx->i.2.2.1 id=o id)/\bX step s l=bX step i.2.1 (l.drop i.1)/\ok i.2.1/\pY step s l 0=pY step i.2.1 (l.drop i.1) i.1) (fun i=>l.length - i.1) (0,s,o,nx)
  ⟨Nat.zero_le _,hI,Nat.le_refl _,fun _ _ _=>rfl,rfl,rr,rfl⟩ ?_ ?_
 ·dsimp only
  refine dq.gH _ (Nat.le_refl _) (by omega) hI.eG (fun _ _=>rfl) ?_
  (repeat(first|exact aP|refine aK ?_|refine aG rfl ?_|refine aG (cJ (cI (by omega))) ?_|refine bn rfl (by simp[V.refs,V.ax]<;>first|omega|assumption) ?_))
 rintro⟨k,s',o',nx'⟩ ⟨hk,DA,hn,cZ,hf,vR,AO⟩
 simp only at hk DA hn cZ hf vR AO
 simp+contextual only[go_sem]
 refine aJ (fun h1=> ?_) (fun h1=> ?_)
 ·simp at h1
  obtain⟨x,hx⟩:=bY h1
  have py:=List.mem_of_getElem? hx
  have hd:l.drop k=x::l.drop (k+1):=by
   rw[List.drop_eq_getElem_cons h1]
   rw[List.getElem?_eq_getElem h1]at hx;injection hx with hx;rw[hx]
  rw[hd]at hf AO
  simp only[bX,pY]at hf AO
  simp+contextual only[go_sem,hx,Nat.add_assoc,Nat.left_eq_add,Nat.add_eq_left,Nat.add_left_cancel_iff]
  refine jF (h x py s' vR _ _ (DA.mono (by omega)) _ _ fun o2 n2 m1 m2 m3=> ?_)
  cases hb:(step s' x).2 with
  |true=>
   rw[hb]at hf AO
   simp only[if_true]at hf AO
   simp+contextual (disch:=first|omega|simp only[go_sem,false_implies]) only[go_sem,wrap64,if_pos,and_self]
   have Mz:∀r∈V.ax b9,r<n2+1+1:=fun r hr=>by have:=qZ r hr;omega
   refine bg (k+1,(step s' x).1,o2,n2+1+1) ⟨h1,m2.mono (show n2<=n2+1+1 by omega),(show nx<=n2+1+1 by omega),fun id i1 i2=>(m3 id i1 (by omega)).trans (cZ id i1 i2),hf,a8 x py s' vR hb,by rw[AO];rfl⟩ (by dsimp only;omega) (dq.gH _ (show nx<=n2+1+1 by omega) (Nat.le_refl _) (m2.mono (show n2<=n2+1+1 by omega)).eG (fun _ _=>rfl) ?_)
   (repeat(first|exact aP|refine aK ?_|refine aG rfl ?_|refine aG (cJ (cI (by omega))) ?_|refine bn rfl (by simp[V.refs,V.ax]<;>first|omega|assumption) ?_))
  |false=>
   rw[hb]at hf AO
   simp only[Bool.false_eq_true,if_false]at hf AO
   simp+contextual only[go_sem]
   rw[hf,AO]at hK
   exact hK _ _ (by omega) (m2.mono (by omega)) fun id i1 i2=>(m3 id i1 (by omega)).trans (cZ id i1 i2)
 ·simp at h1
  simp+contextual only[go_sem]
  rw[List.drop_eq_nil_of_le h1]at hf AO
  rw[hf,AO]at hK
  exact hK _ _ (by omega) (DA.mono (by omega)) cZ
end Go.Proofs.YtpkobkdgcanmjaaGreat
namespace Go.Proofs.YtpkobkdgcanmjaaGreat
theorem ur{σ:Type}(l:List Tm)(hl:l.length<=9223372036854775807)(g:Nat)(b9:List V)(base:Nat)(H:σ->Nat->aa)(step:σ->Tm->σ×Bool)(hc:∀r∈V.ax b9,r<base)(ok:σ->Prop)(a8:∀x∈l,∀s,ok s->(step s x).2=true->ok (step s x).1)
 (h:∀x∈l,∀s,ok s->sy Tryz.prog g (.d x.d::b9) base (H s) (H (step s x).1) (.d (.bool (!(step s x).2)))) (s:σ) (rr:ok s):
 sy Tryz.prog 91 [.d (.sl (l.map Tm.d)), .func (.func g) [] b9] base (H s) (H (bX step s l).1) (.d (.bool (!(bX step s l).2))):=by
 intro o nx hI K X hK
 have qZ:∀r∈V.ax b9,r<nx:=fun r hr=>Nat.lt_of_lt_of_le (hc r hr) hI.le
 refine fm.bD mix I5 (by simp) ?_
 rw[Qd]
 simp+contextual (disch:=first|omega|simp only[go_sem,false_implies]) only[go_sem,wrap64,if_pos,Nat.add_assoc,Nat.left_eq_add,Nat.add_eq_left,Nat.add_left_cancel_iff]
 refine db (Fq l hl g b9 base H step hc ok a8 h s rr _ _ ?_ _ _ fun o2 n2 m1 m2 m3=> ?_)
 ·exact hI.mono (by omega)
 simp+contextual (disch:=first|omega|simp only[go_sem,false_implies]) only[go_sem,wrap64,if_pos,Nat.add_assoc,Nat.left_eq_add,Nat.add_eq_left,Nat.add_left_cancel_iff]
 have e:decide (0<=pY step s l 0)= !(bX step s l).2:=by
  have:=xc step l s 0 (by omega)
  rw[Bool.eq_iff_iff,decide_eq_true_eq,this]
  cases(bX step s l).2<;>simp
 rw[e]
 exact hK _ _ (by omega) (m2.mono (by omega)) fun id i1 i2=>m3 id i1 (by omega)
theorem Qv{x:Tm}{g:Nat}{b9:List V}{base c bx:Nat}{h h2 O:Nat->aa}{r:Bool}(hS:sy Tryz.prog g (.d x.d::b9) base h h2 (.d (.bool r)))(hb:base<=bx)(Tw:bx<c)(hO:O bx= .row [.func (.func g) [] b9])(hc:∀r∈V.ax b9,r<base):
 sy Tryz.prog 92 [.d x.d, .ptr bx 0] c (ext base h O) (ext base h2 O) (.d (.bool (!r))):=by
 intro o nx hI K X hK
 have hle:=hI.le
 have qZ:∀r∈V.ax b9,r<nx:=fun r hr=>by have:=hc r hr;omega
 have ho:o bx= .row [.func (.func g) [] b9]:=by
  rw[hI.eq bx Tw];unfold ext;rw[if_neg (by omega),hO]
 have y1:∀k,bx≠nx+k:=fun k=>by omega
 have y2:bx≠nx:=by omega
 refine fm.bD mix I6 (by simp) ?_
 rw[Qe]
 simp+contextual (disch:=first|omega|simp only[go_sem,false_implies]) only[go_sem,wrap64,if_pos,ho,y1,y2,Nat.add_assoc,Nat.left_eq_add,Nat.add_eq_left,Nat.add_left_cancel_iff]
 refine jF ((hS.ext (by omega:base<=c) O) _ _ ?_ _ _ fun o2 n2 m1 m2 m3=> ?_)
 ·exact hI.aV (by omega) (by omega) (by omega) rfl
 simp+contextual (disch:=first|omega|simp only[go_sem,false_implies]) only[go_sem,wrap64,if_pos,Nat.add_assoc,Nat.left_eq_add,Nat.add_eq_left,Nat.add_left_cancel_iff]
 exact hK _ _ (by omega) (m2.mono (by omega)) fun id i1 i2=>by rw[m3 id i1 (by omega),aH _ _ _ _ (by omega)]
theorem qP{σ:Type}(l:List Tm)(hl:l.length<=9223372036854775807)(g:Nat)(b9:List V)(base:Nat)(H:σ->Nat->aa)(step:σ->Tm->σ×Bool)(hc:∀r∈V.ax b9,r<base)(ok:σ->Prop)(a8:∀x∈l,∀s,ok s->(step s x).2=true->ok (step s x).1)
 (h:∀x∈l,∀s,ok s->sy Tryz.prog g (.d x.d::b9) base (H s) (H (step s x).1) (.d (.bool (step s x).2))) (s:σ) (rr:ok s):
 sy Tryz.prog 66 [.d (.sl (l.map Tm.d)), .func (.func g) [] b9] base (H s) (H (bX step s l).1) (.d (.bool (bX step s l).2)):=by
 intro o nx hI K X hK
 have hle:=hI.le
 have qZ:∀r∈V.ax b9,r<nx:=fun r hr=>Nat.lt_of_lt_of_le (hc r hr) hI.le
 refine fm.bD mix IU (by simp) ?_
 rw[PQ]
 simp+contextual (disch:=first|omega|simp only[go_sem,false_implies]) only[go_sem,wrap64,if_pos,Nat.add_assoc,Nat.left_eq_add,Nat.add_eq_left,Nat.add_left_cancel_iff]
 refine db (ur l hl 92 [.ptr nx 0] (nx+1) (fun s=>ext base (H s) (aV o nx (.row [.func (.func g) [] b9]))) step (by simp[V.ax,V.refs]) ok a8 (fun x hx s hs=>Qv (h x hx s hs) hle (by omega) (aI _ _ _) hc) s rr _ _ ?_ _ _ fun o2 n2 m1 m2 m3=> ?_)
 ·have hr:(aa.row [V.func (.func g) [] b9]).refs.all (fun r=>decide (r<nx+4))=true:=by
   rw[List.all_eq_true]
   intro r hr
   have h1:r∈V.ax b9:=by simpa[aa.refs,V.ax,V.refs]using hr
   have:=qZ r h1
   simp;omega
  exact(hI.aV (by omega) (by omega) (by omega) hr).ext (by omega) (by omega)
 simp+contextual (disch:=first|omega|simp only[go_sem,false_implies]) only[go_sem,wrap64,if_pos,Nat.add_assoc,Nat.left_eq_add,Nat.add_eq_left,Nat.add_left_cancel_iff]
 refine hK _ _ (by omega) ⟨(m2.mono (by omega)).eG,by have:=m2.le;omega,fun id ag=> ?_⟩ fun id i1 i2=> ?_
 ·rw[m2.eq id (by omega)];unfold ext;rw[if_pos ag]
 ·rw[m2.eq id (by omega)];unfold ext;rw[if_neg (by omega),aH _ _ _ _ (by omega)]
end Go.Proofs.YtpkobkdgcanmjaaGreat
namespace Go.Proofs.YtpkobkdgcanmjaaGreat
def xd(s:bJ)(d:Int)(left:Int)(k:Tm):Int×Bool:=((pO s k left d).2,(pO s k left d).1)
theorem uu(s:bJ)(d:Int):∀ (l:List Tm) (left:Int),bX (xd s d) left l=((mX s l left d).2,(mX s l left d).1)
 |[],_=>by simp[bX,mX]
 |k::l,left=>by
  have ih:=uu s d l (pO s k left d).2
  by_cases h:(pO s k left d).1=true
  ·simp only[bX,mX,xd,h,if_true];exact ih
  ·simp[bX,mX,xd,h]
def Tx(s:bJ)(t:Tm):Prop:=∀ (left d:Int), -1000000<=left/\left<=1000000-> -1000<=d/\d<=1000->∀ (base lp:Nat) (h:Nat->aa),lp<base->
    sy Tryz.prog 70 [.d s.d, .d t.d, .ptr lp 0, .d (.i d)] base (aV h lp (.row [.d (.i left)])) (aV h lp (.row [.d (.i (pO s t left d).2)])) (.d (.bool (pO s t left d).1))
theorem yB(s:bJ)(hs:s.Fits):∀t:Tm,t.fits->Tx s t:=by
 refine Tm.iy fun t ih ht=> ?_
 have uS:=(Tm.cK _).1 ht
 intro left d hl hd base lp h Sd o nx hI K X hK
 have hle:=hI.le
 have ho:o lp= .row [.d (.i left)]:=by rw[hI.eq lp Sd,aI]
 have y1:∀k,lp≠nx+k:=fun k=>by omega
 have y2:lp≠nx:=by omega
 rw[AB]at hK
 have fin:∀ (o':Nat->aa) (n':Nat) (v:Int),nx<=n'->Good o' n'->o' lp= .row [.d (.i v)]->(∀j,j<nx->j≠lp->o' j=o j)->jN base (aV h lp (.row [.d (.i v)])) o' n'/\∀id,base<=id->id<nx->o' id=o id:=fun o' n' v k1 k2 k3 k4=>by
  refine⟨⟨k2,by omega,fun id ag=> ?_⟩,fun id i1 i2=>k4 id i2 (by omega)⟩
  by_cases e:id=lp
  ·subst e;rw[k3,aI]
  ·rw[k4 id (by omega) e,hI.eq id ag,aH _ _ _ _ e,aH _ _ _ _ e]
 have hg:=hI.eG
 refine fm.bD mix IY (by simp) ?_
 rw[PU]
 simp+contextual (disch:=first|omega|simp only[go_sem,false_implies]) only[go_sem,wrap64,if_pos,ho,y1,y2,Nat.add_assoc,Nat.left_eq_add,Nat.add_eq_left,Nat.add_left_cancel_iff]
 by_cases h1:left - 1<0
 ·have lN:decide (0<=left - 1)=false:=by simp;omega
  rw[if_pos (.inl h1)]at hK
  simp+contextual (disch:=first|omega|simp only[go_sem,false_implies]) only[go_sem,wrap64,if_pos,lN,ho,y1,y2,Nat.add_assoc,Nat.left_eq_add,Nat.add_eq_left,Nat.add_left_cancel_iff]
  refine(fun q=>hK _ _ (by omega) (And.left q) (And.right q)) (fin _ (nx+31) (left - 1) (by omega) ?_ (aI _ _ _) fun j j1 j2=> ?_)
  ·exact(by repeat(first|exact hg.mono (by omega)|exact Good.nil|refine Good.aV ?_ (by omega) rfl|refine Good.aV ?_ (by omega) (w6 _ _ _ (by omega))|refine Good.aV ?_ (by omega) (by simp[aa.refs,V.ax,V.refs]<;>omega)))
  ·(repeat(first|rfl|rw[aI]|rw[aH _ _ _ _ (by omega)]))
 have lN:decide (0<=left - 1)=true:=by simp;omega
 by_cases h2:d<=0
 ·have xF:decide (0<d)=false:=by simpa using h2
  rw[if_pos (.inr (.inl h2))]at hK
  simp+contextual (disch:=first|omega|simp only[go_sem,false_implies]) only[go_sem,wrap64,if_pos,lN,xF,ho,y1,y2,Nat.add_assoc,Nat.left_eq_add,Nat.add_eq_left,Nat.add_left_cancel_iff]
  refine(fun q=>hK _ _ (by omega) (And.left q) (And.right q)) (fin _ (nx+31) (left - 1) (by omega) ?_ (aI _ _ _) fun j j1 j2=> ?_)
  ·exact(by repeat(first|exact hg.mono (by omega)|exact Good.nil|refine Good.aV ?_ (by omega) rfl|refine Good.aV ?_ (by omega) (w6 _ _ _ (by omega))|refine Good.aV ?_ (by omega) (by simp[aa.refs,V.ax,V.refs]<;>omega)))
  ·(repeat(first|rfl|rw[aI]|rw[aH _ _ _ _ (by omega)]))
 have xF:decide (0<d)=true:=by simp;omega
 simp+contextual (disch:=first|omega|simp only[go_sem,false_implies]) only[go_sem,wrap64,if_pos,lN,xF,ho,y1,y2,Nat.add_assoc,Nat.left_eq_add,Nat.add_eq_left,Nat.add_left_cancel_iff]
 refine ah (Cm s t hs uS.1) rfl ?_
 cases hn:iC s t with
 |false=>
  rw[if_pos (.inr (.inr hn))]at hK
  simp+contextual (disch:=first|omega|simp only[go_sem,false_implies]) only[go_sem,wrap64,if_pos,lN,xF,ho,y1,y2,Nat.add_assoc,Nat.left_eq_add,Nat.add_eq_left,Nat.add_left_cancel_iff]
  refine(fun q=>hK _ _ (by omega) (And.left q) (And.right q)) (fin _ (nx+31) (left - 1) (by omega) ?_ (aI _ _ _) fun j j1 j2=> ?_)
  ·exact(by repeat(first|exact hg.mono (by omega)|exact Good.nil|refine Good.aV ?_ (by omega) rfl|refine Good.aV ?_ (by omega) (w6 _ _ _ (by omega))|refine Good.aV ?_ (by omega) (by simp[aa.refs,V.ax,V.refs]<;>omega)))
  ·(repeat(first|rfl|rw[aI]|rw[aH _ _ _ _ (by omega)]))
 |true=>
  rw[if_neg (by rw[hn];simp;omega)]at hK
  simp+contextual (disch:=first|omega|simp only[go_sem,false_implies]) only[go_sem,wrap64,if_pos,lN,xF,ho,y1,y2,Nat.add_assoc,Nat.left_eq_add,Nat.add_eq_left,Nat.add_left_cancel_iff]
  have G3:=uu s (d - 1) t.kids (left - 1)
  have Ty:∀ (O:Nat->aa) (k:Tm) (v:Int),k∈t.kids-> -1000000<=v/\v<=1000000->O nx= .row s.row->O (nx+2)= .row [.ptr lp 0]->O (nx+3)= .row [.d (.i d)]->
   sy Tryz.prog 94 [.d k.d, .ptr nx 0, .ptr (nx+2) 0, .ptr (nx+3) 0] (nx+4) (ext base (aV h lp (.row [.d (.i v)])) O) (ext base (aV h lp (.row [.d (.i (pO s k v (d - 1)).2)])) O) (.d (.bool (pO s k v (d - 1)).1)):=by
   intro O k v hk hv p0 p2 p3 o2 n2 DV K2 X2 Tz
   have G7:=DV.le
   have r0:o2 nx= .row s.row:=by rw[DV.eq nx (by omega)];unfold ext;rw[if_neg (by omega),p0]
   have r2:o2 (nx+2)= .row [.ptr lp 0]:=by rw[DV.eq _ (by omega)];unfold ext;rw[if_neg (by omega),p2]
   have r3:o2 (nx+3)= .row [.d (.i d)]:=by rw[DV.eq _ (by omega)];unfold ext;rw[if_neg (by omega),p3]
   have z0:∀j,nx≠n2+j:=fun j=>by omega
   have z2:∀j,nx+2≠n2+j:=fun j=>by omega
   have z3:∀j,nx+3≠n2+j:=fun j=>by omega
   have z4:nx≠n2/\nx+2≠n2/\nx+3≠n2:=by omega
   refine fm.bD mix I8 (by simp) ?_
   rw[Qg]
   simp+contextual (disch:=first|omega|simp only[go_sem,false_implies]) only[go_sem,wrap64,if_pos,r0,r2,r3,z0,z2,z3,z4.1,z4.2.1,z4.2.2,Nat.add_assoc,Nat.left_eq_add,Nat.add_eq_left,Nat.add_left_cancel_iff]
   refine db ((ih k hk (uS.2 k hk) v (d - 1) hv (by omega) base lp h Sd).ext (by omega:base<=nx+4) O _ _ ?_ _ _ fun o3 n3 m1 m2 m3=> ?_)
   ·exact DV.aV (by omega) (by omega) (by omega) rfl
   simp+contextual (disch:=first|omega|simp only[go_sem,false_implies]) only[go_sem,wrap64,if_pos,Nat.add_assoc,Nat.left_eq_add,Nat.add_eq_left,Nat.add_left_cancel_iff]
   exact Tz _ _ (by omega) (m2.mono (by omega)) fun id i1 i2=>by rw[m3 id i1 (by omega),aH _ _ _ _ (by omega)]
  refine db (fm.gen fun O hO=> ?_)
  have p0:O nx= .row s.row:=by rw[hO];(repeat(first|rfl|rw[aI]|rw[aH _ _ _ _ (by omega)]))
  have p2:O (nx+2)= .row [.ptr lp 0]:=by rw[hO];(repeat(first|rfl|rw[aI]|rw[aH _ _ _ _ (by omega)]))
  have p3:O (nx+3)= .row [.d (.i d)]:=by rw[hO];(repeat(first|rfl|rw[aI]|rw[aH _ _ _ _ (by omega)]))
  obtain⟨TA,cZ⟩:=fin O (nx+28) (left - 1) (by omega) (by rw[hO];exact(by repeat(first|exact hg.mono (by omega)|exact Good.nil|refine Good.aV ?_ (by omega) rfl|refine Good.aV ?_ (by omega) (w6 _ _ _ (by omega))|refine Good.aV ?_ (by omega) (by simp[aa.refs,V.ax,V.refs]<;>omega)))) (by rw[hO];exact aI _ _ _) (fun j j1 j2=>by rw[hO];(repeat(first|rfl|rw[aI]|rw[aH _ _ _ _ (by omega)])))
  refine qP t.kids uS.1 94 [.ptr nx 0, .ptr (nx+2) 0, .ptr (nx+3) 0] (nx+4) (fun v=>ext base (aV h lp (.row [.d (.i v)])) O) (xd s (d - 1)) (by simp[V.ax,V.refs]) (fun v:Int=> -1000000<=v/\v<=1000000) (fun k hk v hv lj=> ?_) (fun k hk v hv=>Ty O k v hk hv p0 p2 p3) (left - 1) (by omega) O (nx+28) (TA.ext (by omega) (by omega)) _ _ fun o2 n2 m1 m2 m3=> ?_
  ·obtain⟨h5,h6⟩:=AD s k v (d - 1)
   have e:=h6 lj
   rw[show(pO s k v (d - 1)).1=true from lj]at h5
   have h7:=h5.symm
   rw[Bool.and_eq_true,decide_eq_true_eq]at h7
   show -1000000<=(pO s k v (d - 1)).2/\(pO s k v (d - 1)).2<=1000000
   rw[e];omega
  ·rw[G3]at m2|-
   simp+contextual (disch:=first|omega|simp only[go_sem,false_implies]) only[go_sem,wrap64,if_pos,Nat.add_assoc,Nat.left_eq_add,Nat.add_eq_left,Nat.add_left_cancel_iff]
   refine hK _ _ (by omega) ⟨(m2.mono (by omega)).eG,by have:=m2.le;omega,fun id ag=> ?_⟩ fun id i1 i2=> ?_
   ·rw[m2.eq id (by omega)];unfold ext;rw[if_pos ag]
   ·rw[m2.eq id (by omega)];unfold ext;rw[if_neg (by omega),cZ id i1 i2]
end Go.Proofs.YtpkobkdgcanmjaaGreat
namespace Go.Proofs.YtpkobkdgcanmjaaGreat
theorem xe(s:bJ)(hs:s.Fits)(t:Tm)(ht:t.fits):bU Tryz.prog 44 [s.d,t.d] (.ret [.bool (nL s t)]):=by
 refine bU.bD mix IF (by simp) ?_
 rw[Pu]
 simp+contextual (disch:=first|omega|simp only[go_sem,false_implies]) only[go_sem,wrap64,if_pos,Nat.add_assoc,Nat.left_eq_add,Nat.add_eq_left,Nat.add_left_cancel_iff]
 refine db ((yB s hs t ht) 80 30 (by omega) (by omega) 4 3 (aV (aV (fun _=> .no) 0 (.row s.row)) 1 (.row t.row)) (by omega) _ _ ⟨(by repeat(first|exact hg.mono (by omega)|exact Good.nil|refine Good.aV ?_ (by omega) rfl|refine Good.aV ?_ (by omega) (w6 _ _ _ (by omega))|refine Good.aV ?_ (by omega) (by simp[aa.refs,V.ax,V.refs]<;>omega))),by omega,fun id ag=> ?_⟩ _ _ fun o2 n2 m1 m2 m3=> ?_)
 ·exact(by simp only[aV]<;>((repeat' split)<;>first|rfl|omega|(subst_vars;first|rfl|assumption|(symm;assumption)|omega|(simp_all;done))))
 simp+contextual (disch:=first|omega|simp only[go_sem,false_implies]) only[go_sem,wrap64,if_pos,Nat.add_assoc,Nat.left_eq_add,Nat.add_eq_left,Nat.add_left_cancel_iff]
 rw[MB]
theorem AP(s:bJ)(hs:s.Fits)(x:Tm)(hx:x.fits)(base sp:Nat)(h:Nat->aa)(FB:h sp= .row s.row)(hb:sp<base):
 sy Tryz.prog 67 [.d x.d, .ptr sp 0] base h h (.d (.bool (nL s x))):=by
 intro o nx hI K X hK
 have hle:=hI.le
 have ho:o sp= .row s.row:=by rw[hI.eq sp hb,FB]
 have y1:∀k,sp≠nx+k:=fun k=>by omega
 have y2:sp≠nx:=by omega
 refine fm.bD mix IV (by simp) ?_
 rw[PR]
 simp+contextual (disch:=first|omega|simp only[go_sem,false_implies]) only[go_sem,wrap64,if_pos,ho,y1,y2,Nat.add_assoc,Nat.left_eq_add,Nat.add_eq_left,Nat.add_left_cancel_iff]
 refine ah (xe s hs x hx) rfl ?_
 simp+contextual (disch:=first|omega|simp only[go_sem,false_implies]) only[go_sem,wrap64,if_pos,Nat.add_assoc,Nat.left_eq_add,Nat.add_eq_left,Nat.add_left_cancel_iff]
 exact hK _ _ (by omega) (hI.aV (by omega) (by omega) (by omega) rfl) fun id i1 i2=>by rw[aH _ _ _ _ (by omega)]
theorem uv{α:Type}(f:α->Bool):∀l:List α,bX (fun(_:Unit) x=>((),f x)) () l=((),l.all f)
 |[]=>rfl
 |x::l=>by
  have ih:=uv f l
  cases h:f x<;>simp[bX,h,ih]
def cT(s:bJ)(l:List Tm):Bool:=mR s&&l.all (nL s)
theorem qQ(s:bJ)(hs:s.Fits)(l:List Tm)(hl:l.length<=1000000)(hf:∀t∈l,t.fits):bU Tryz.prog 40 [s.d, .sl (l.map Tm.d)] (.ret [.bool (cT s l)]):=by
 refine bU.bD mix IB (by simp) ?_
 rw[Pq]
 simp+contextual (disch:=first|omega|simp only[go_sem,false_implies]) only[go_sem,wrap64,if_pos,and_self]
 refine ah (vS s hs) rfl ?_
 cases h1:mR s with
 |false=>simp+contextual (disch:=first|omega|simp only[go_sem,false_implies]) only[go_sem,wrap64,if_pos,nv];simp[cT,h1]
 |true=>
  simp+contextual (disch:=first|omega|simp only[go_sem,false_implies]) only[go_sem,wrap64,if_pos,nv]
  refine db (qP (σ:=Unit) l (by omega) 67 [.ptr 0 0] 1 (fun _=>aV (fun _=> .no) 0 (.row s.row)) (fun _ x=>((),nL s x)) (by simp[V.ax,V.refs]) (fun _=>True) (fun _ _ _ _ _=>trivial) (fun x hx _ _=>AP s hs x (hf x hx) 1 0 _ (aI _ _ _) (by omega)) () trivial _ _ ⟨(by repeat(first|exact hg.mono (by omega)|exact Good.nil|refine Good.aV ?_ (by omega) rfl|refine Good.aV ?_ (by omega) (w6 _ _ _ (by omega))|refine Good.aV ?_ (by omega) (by simp[aa.refs,V.ax,V.refs]<;>omega))),by omega,fun id ag=> ?_⟩ _ _ fun o2 n2 m1 m2 m3=> ?_)
  ·exact(by simp only[aV]<;>((repeat' split)<;>first|rfl|omega|(subst_vars;first|rfl|assumption|(symm;assumption)|omega|(simp_all;done))))
  rw[uv]
  simp+contextual (disch:=first|omega|simp only[go_sem,false_implies]) only[go_sem,wrap64,if_pos,Nat.add_assoc,Nat.left_eq_add,Nat.add_eq_left,Nat.add_left_cancel_iff]
  simp[cT,h1]
theorem Cn(s:bJ)(hs:s.Fits)(a b:Tm)(ha:a.fits)(hb:b.fits):bU Tryz.prog 10 [s.d,a.d,b.d] (.ret [.bool (cT s [a,b]&&eS a b), .i (nv (cT s [a,b]))]):=by
 refine bU.bD mix Iv (by simp) ?_
 rw[OS]
 simp+contextual (disch:=first|omega|simp only[go_sem,false_implies]) only[go_sem,wrap64,if_pos,and_self]
 refine ah (qQ s hs [a,b] (by simp) (fun x hx=>by simp at hx;rcases hx with rfl|rfl<;>assumption)) rfl ?_
 cases h1:cT s [a,b]with
 |false=>simp+contextual (disch:=first|omega|simp only[go_sem,false_implies]) only[go_sem,wrap64,if_pos,nv]
 |true=>
  have hp:Pn s a/\Pn s b:=by
   simp[cT,nL]at h1
   exact⟨h1.2.1.2,h1.2.2.2⟩
  simp+contextual (disch:=first|omega|simp only[go_sem,false_implies]) only[go_sem,wrap64,if_pos,nv]
  refine ah (pG a ha hp.1 b hb hp.2) rfl ?_
  simp+contextual (disch:=first|omega|simp only[go_sem,false_implies]) only[go_sem,wrap64,if_pos,nv]
end Go.Proofs.YtpkobkdgcanmjaaGreat
namespace Go.Proofs.YtpkobkdgcanmjaaGreat
theorem yC:bU Tryz.prog 81 [.sl []] (.ret [.sl []]):=by
 refine bU.bD mix E9 (by simp) ?_
 rw[Nl]
 have hu:Tryz.prog.underlying 26=some (.slice 28):=by kernel_rfl
 have heq:∀O,sF Tryz.prog O 26 true (.d (.sl [])) .aM=some .dC:=by
  intro O
  unfold sF
  rw[hu]
  rfl
 simp+contextual (disch:=first|omega|simp only[go_sem,false_implies]) only[go_sem,wrap64,if_pos,heq]
 simp only[List.isEmpty_nil,if_true]
 simp+contextual (disch:=first|omega|simp only[go_sem,false_implies]) only[go_sem,wrap64,if_pos,heq]
theorem AQ(l:List Tm)(eV:l≠[])(hl:l.length<=1000000)(o:Nat->aa)(nx:Nat)(K X:V->(Nat->aa)->Nat->Prop)
 (hK:K (.osl (nx+3) 1) (aV o (nx+3) (.arr 1 28 3 (l.map Tm.d))) (nx+7)):
 fm Tryz.prog 81 [.d (.sl (l.map Tm.d))] o nx K X:=by
 refine fm.bD mix E9 (by simp) ?_
 rw[Nl]
 have hu:Tryz.prog.underlying 26=some (.slice 28):=by kernel_rfl
 have heq:∀O,sF Tryz.prog O 26 true (.d (.sl (l.map Tm.d))) .aM=some (.d (.bool false)):=by
  intro O
  unfold sF
  rw[hu]
  cases l with
  |nil=>exact absurd rfl eV
  |cons a l=>rfl
 simp+contextual (disch:=first|omega|simp only[go_sem,false_implies]) only[go_sem,wrap64,if_pos,heq,Nat.add_assoc,Nat.left_eq_add,Nat.add_eq_left,Nat.add_left_cancel_iff]
 simp only[List.isEmpty_nil,if_true]
 simp+contextual (disch:=first|omega|simp only[go_sem,false_implies]) only[go_sem,wrap64,if_pos,heq,Nat.add_assoc,Nat.left_eq_add,Nat.add_eq_left,Nat.add_left_cancel_iff]
 rw[sd]
 exact hK
theorem uw(l:List Tm)(hl:l.length<=1000000)(h:∀t∈l,bU Tryz.prog 61 [.sl (t.kids.map Tm.d)] (.ret [.sl (t.kids.map Tm.d)])):bU Tryz.prog 61 [.sl (l.map Tm.d)] (.ret [.sl (l.map Tm.d)]):=by
 refine bU.bD mix IP (by simp) ?_
 rw[PK]
 cases eV:l with
 |nil=>
  simp+contextual (disch:=first|omega|simp only[go_sem,false_implies]) only[go_sem,wrap64,if_pos,and_self]
  refine bH yC ?_
  simp+contextual (disch:=first|omega|simp only[go_sem,false_implies]) only[go_sem,wrap64,if_pos,and_self]
  refine cq (fun _:Unit=>⟨bI [.aw, .aw, .aw, .d (.sl []), .aw, .aw, .aw, .aw, .d (.sl []), .d (.i 0), .d (.i 0)],fun _=> .no,1⟩) (fun _=>True) (fun _=>0) () trivial (dq.gH _ (by omega) (by omega) (by repeat(first|exact hg.mono (by omega)|exact Good.nil|refine Good.aV ?_ (by omega) rfl|refine Good.aV ?_ (by omega) (w6 _ _ _ (by omega))|refine Good.aV ?_ (by omega) (by simp[aa.refs,V.ax,V.refs]<;>omega))) (fun _ _=>rfl) ?_) (fun _ _=> ?_)
  ·(repeat(first|exact aP|refine aK ?_|refine aG rfl ?_|refine aG (cJ (cI (by omega))) ?_|refine bn rfl (by simp[V.refs,V.ax]<;>first|omega|assumption) ?_))
  simp+contextual (disch:=first|omega|simp only[go_sem,false_implies]) only[go_sem,wrap64,if_pos,and_self]
 |cons a r=>
  rw[<- eV]
  have Qw:l≠[]:=by rw[eV];simp
  simp+contextual (disch:=first|omega|simp only[go_sem,false_implies]) only[go_sem,wrap64,if_pos,and_self]
  refine yf (AQ l Qw hl _ _ _ _ ?_)
  simp+contextual (disch:=first|omega|simp only[go_sem,false_implies]) only[go_sem,wrap64,if_pos,and_self]
  refine cq (fun i:Nat=>⟨bI [.aw, .aw, .aw, .osl 5 1, .aw, .aw, .aw, .aw, .osl 5 1, .d (.i l.length), .d (.i i)],aV (fun _=> .no) 5 (.arr 1 28 3 (l.map Tm.d)),6⟩)
   (fun k=>k<=l.length) (fun k=>l.length - k) 0 (Nat.zero_le _) (dq.gH _ (by omega) (by omega) (by repeat(first|exact hg.mono (by omega)|exact Good.nil|refine Good.aV ?_ (by omega) rfl|refine Good.aV ?_ (by omega) (w6 _ _ _ (by omega))|refine Good.aV ?_ (by omega) (by simp[aa.refs,V.ax,V.refs]<;>omega))) (fun j hj=>by(repeat(first|rfl|rw[aI]|rw[aH _ _ _ _ (by omega)]))) ?_) (fun k hk=> ?_)
  ·(repeat(first|exact aP|refine aK ?_|refine aG rfl ?_|refine aG (cJ (cI (by omega))) ?_|refine bn rfl (by simp[V.refs,V.ax]<;>first|omega|assumption) ?_))
  replace hk:k<=l.length:=hk
  simp+contextual (disch:=first|omega|simp only[go_sem,false_implies]) only[go_sem,wrap64,if_pos,and_self]
  refine aJ (fun h2=> ?_) (fun h2=> ?_)
  ·simp at h2
   obtain⟨x,hx⟩:=bY h2
   have py:=List.mem_of_getElem? hx
   simp+contextual (disch:=first|omega|simp only[go_sem,false_implies]) only[go_sem,wrap64,if_pos,hx]
   refine bH (h x py) ?_
   simp+contextual (disch:=first|omega|simp only[go_sem,false_implies]) only[go_sem,wrap64,if_pos,hx]
   have TC:x.d= .agg [.i x.op, .i x.n, .sl (x.kids.map Tm.d)]:=by cases x;rw[Tm.BT];rfl
   have lj:(l.map Tm.d).set k x.d=l.map Tm.d:=by
    apply List.ext_getElem?
    intro i
    rw[List.getElem?_set]
    by_cases e:k=i
    ·subst e
     rw[if_pos rfl,if_pos (by simpa using h2),List.getElem?_map,hx];rfl
    ·rw[if_neg e]
   simp only[TC,List.length_cons,List.length_nil,List.take,List.drop,List.append_nil,List.cons_append,List.nil_append]
   rw[if_pos (by omega)]
   simp+contextual (disch:=first|omega|simp only[go_sem,false_implies]) only[go_sem,wrap64,if_pos,lj]
   refine bg (k+1) h2 (by omega) (dq.gH _ (by omega) (by omega) (by repeat(first|exact hg.mono (by omega)|exact Good.nil|refine Good.aV ?_ (by omega) rfl|refine Good.aV ?_ (by omega) (w6 _ _ _ (by omega))|refine Good.aV ?_ (by omega) (by simp[aa.refs,V.ax,V.refs]<;>omega))) (fun j hj=> ?_) ?_)
   ·skip
    by_cases e:j=5
    ·subst e;(repeat(first|rfl|rw[aI]|rw[aH _ _ _ _ (by omega)]))
    ·rw[aH _ _ _ _ e,aH _ _ _ _ (by omega),aH _ _ _ _ (by omega)]
   ·(repeat(first|exact aP|refine aK ?_|refine aG rfl ?_|refine aG (cJ (cI (by omega))) ?_|refine bn rfl (by simp[V.refs,V.ax]<;>first|omega|assumption) ?_))
  ·simp at h2
   simp+contextual (disch:=first|omega|simp only[go_sem,false_implies]) only[go_sem,wrap64,if_pos,and_self]
theorem sm{l:List Tm}{k:Tm}(h:k∈l):k.sz<=uo l:=by
 induction l with
 |nil=>cases h
 |cons x l ih=>
  rw[mj]
  rcases List.mem_cons.1 h with rfl|h
  ·omega
  ·have:=ih h;omega
theorem sn:∀l:List Tm,l.length<=uo l
 |[]=>Nat.zero_le _
 |x::l=>by
  have:=sn l
  have:=Tm.Az x
  rw[mj,List.length_cons];omega
theorem ux:∀t:Tm,t.sz<=1000000->bU Tryz.prog 61 [.sl (t.kids.map Tm.d)] (.ret [.sl (t.kids.map Tm.d)]):=by
 refine Tm.iy fun t ih hz=> ?_
 rw[Tm.qL]at hz
 have h1:=sn t.kids
 exact uw t.kids (by omega) fun k hk=>ih k hk (by have:=sm hk;omega)
theorem uy(l:List Tm)(hl:l.length<=1000000)(h:∀t∈l,t.sz<=1000000):bU Tryz.prog 61 [.sl (l.map Tm.d)] (.ret [.sl (l.map Tm.d)]):=
 uw l hl fun t ht=>ux t (h t ht)
end Go.Proofs.YtpkobkdgcanmjaaGreat
namespace Go.Proofs.YtpkobkdgcanmjaaGreat
theorem ml{c:Nat}{G:List Gr}{so:Nat->aa}{gone:Nat->Prop}{x x' y y':aa}(h:x=y)(h':x'=y')(hs:vL c G so gone y y'):vL c G so gone x x':=by rw[h,h'];exact hs
@[reducible] def jO (a b:Tm) (r:Nat) (v:V):Nat->aa:=aV (aV (aV (aV (fun _=> .no) 0 (.row a.row)) 1 (.row b.row)) 2 (.row [.d (.i 0), .d (.i 0), .aM])) r (.row [.d (.i a.op), .d (.i a.n),v])
theorem AR{a b:Tm}{r j:Nat}{v w:V}(h:j≠r):jO a b r v j=jO a b r w j:=by unfold jO;rw[aH _ r _ _ h,aH _ r _ _ h]
end Go.Proofs.YtpkobkdgcanmjaaGreat
