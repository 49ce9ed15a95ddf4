/-
  A PART OF THE PROOF. Conditions: none.
-/
import Derived.Test.YtpkobkdgcanmjaaGreatLv14
set_option linter.unusedSimpArgs false
set_option linter.unusedVariables false
namespace Go.Proofs.YtpkobkdgcanmjaaGreat
def eT(ok:Bool):Int:=if ok=true then 0 else 2
@[reducible] def yA (s:bX) (bs:List (List UInt8)):Nat->aa:=aQ (aQ (aQ (fun _=> .no) 0 (.row s.row)) 3 (.row [.mp 2])) 2 (.map 9 4 (enc .str (lu bs)))
theorem vZ(s:bX)(hs:s.Fits):bJ Tryz.prog 65 [s.d] (.ret [.i (eT (ml s))]):=by
 refine bJ.bg mix I4 (by simp) ?_
 rw[P0]
 simp+contextual (disch:=first|omega|simp only[go_sem,false_implies]) only[go_sem,wrap64,if_pos,Nat.add_assoc,Nat.left_eq_add,Nat.add_eq_left,Nat.add_left_cancel_iff]
 refine ae (pN _ _ _) rfl ?_
 simp+contextual (disch:=first|omega|simp only[go_sem,false_implies]) only[go_sem,wrap64,if_pos,Nat.add_assoc,Nat.left_eq_add,Nat.add_eq_left,Nat.add_left_cancel_iff]
 cases h1:(!iI s.cons.length 2 12||decide (8<(s.dU.length:Int)))with
 |true=>
  have:ml s=false:=by simp only[ml,h1,if_true]
  simp+contextual (disch:=first|omega|simp only[go_sem,false_implies]) only[go_sem,wrap64,if_pos,h1]
  simp[this,eT]
 |false=>
  have CT:=lx s.cons []
  have MJ:∀ (l:List lD),(∀x∈l,x.name.length<=9223372036854775807)->∀x∈l,∀bs,True->sM Tryz.prog 87 (.d x.d::[.ptr 3 0]) 4 (yA s bs) (yA s (fe bs x).1) (.d (.bool (fe bs x).2)):=fun l hl x hx bs _=>
   Fq x (hl x hx) 4 3 2 (aQ (aQ (fun _=> .no) 0 (.row s.row)) 3 (.row [.mp 2])) (aG _ _ _) (by omega) (by omega) (by omega) bs
  simp[iI]at h1
  obtain⟨a,b,r,hc⟩:∃a b r,s.cons=a::b::r:=by
   match h:s.cons with
   |[]=>rw[h]at h1;simp at h1
   |[a]=>rw[h]at h1;simp at h1
   |a::b::r=>exact⟨a,b,r,rfl⟩
  have jf:(!iI s.cons.length 2 12||decide (8<(s.dU.length:Int)))=false:=by simp[iI];omega
  have yr:ml s=if(!jm a fB|| !jm b tB)=true then false else match bO s.cons []with
   |none=>false
   |some l=>(bO s.dU l).isSome:=by
   unfold ml
   rw[if_neg (by rw[jf];exact Bool.false_ne_true),hc]
   dsimp only
   rfl
  simp+contextual (disch:=first|omega|simp only[go_sem,false_implies]) only[go_sem,wrap64,if_pos,jf]
  refine dc (uG s.cons hs.lc 87 [.ptr 3 0] 4 (yA s) fe (by simp[V.aw,V.refs]) (fun _=>True) (fun _ _ _ _ _=>trivial) (MJ s.cons hs.nc) [] trivial _ _ ⟨?_,by omega,fun id ah=> ?_⟩ _ _ fun o2 n2 m1 m2 m3=> ?_)
  ·exact(by repeat(first|exact hg.mono (by omega)|exact Good.nil|refine Good.aQ ?_ (by omega) rfl|refine Good.aQ ?_ (by omega) (uH _ _ _ (by omega))|refine Good.aQ ?_ (by omega) (by simp[aa.refs,V.aw,V.refs]<;>omega)))
  ·rcases(by omega:id=0\/id=1\/id=2\/id=3)with rfl|rfl|rfl|rfl<;>rfl
  have p0:∀ {bs:List (List UInt8)} {o:Nat->aa} {n:Nat},jX 4 (yA s bs) o n->o 0= .row s.row:=fun h=>h.eq 0 (by omega)
  have p3:∀ {bs:List (List UInt8)} {o:Nat->aa} {n:Nat},jX 4 (yA s bs) o n->o 3= .row [.mp 2]:=fun h=>h.eq 3 (by omega)
  cases hn:bO s.cons []with
  |none=>
   rw[hn]at CT
   simp only at CT
   rw[CT]
   simp+contextual (disch:=first|omega|simp only[go_sem,false_implies]) only[go_sem,wrap64,if_pos,Nat.add_assoc,Nat.left_eq_add,Nat.add_eq_left,Nat.add_left_cancel_iff]
   rw[yr,hn]
   split<;>rfl
  |some B=>
   rw[hn]at CT
   simp only at CT
   rw[CT]at m2|-
   simp+contextual (disch:=first|omega|simp only[go_sem,false_implies]) only[go_sem,wrap64,if_pos,Nat.add_assoc,Nat.left_eq_add,Nat.add_eq_left,Nat.add_left_cancel_iff,p0 m2]
   refine dc (uG s.dU hs.lf 87 [.ptr 3 0] 4 (yA s) fe (by simp[V.aw,V.refs]) (fun _=>True) (fun _ _ _ _ _=>trivial) (MJ s.dU hs.nf) B trivial _ _ (m2.mono (by omega)) _ _ fun o4 n4 k1 k2 k3=> ?_)
   have CU:=lx s.dU B
   cases hf:bO s.dU B with
   |none=>
    rw[hf]at CU
    simp only at CU
    rw[CU]
    simp+contextual (disch:=first|omega|simp only[go_sem,false_implies]) only[go_sem,wrap64,if_pos,Nat.add_assoc,Nat.left_eq_add,Nat.add_eq_left,Nat.add_left_cancel_iff]
    rw[yr,hn]
    simp only[hf]
    split<;>rfl
   |some C=>
    rw[hf]at CU
    simp only at CU
    rw[CU]at k2|-
    simp+contextual (disch:=first|omega|simp only[go_sem,false_implies]) only[go_sem,wrap64,if_pos,Nat.add_assoc,Nat.left_eq_add,Nat.add_eq_left,Nat.add_left_cancel_iff,p0 k2,hc]
    have DF:ml s= !(!jm a fB|| !jm b tB):=by
     rw[yr,hn];simp only[hf]
     cases(!jm a fB|| !jm b tB)<;>rfl
    refine aH (fun h5=> ?_) (fun h5=> ?_)
    ·simp+contextual (disch:=first|omega|simp only[go_sem,false_implies]) only[go_sem,wrap64,if_pos,and_self]
     have GI:(!jm a fB|| !jm b tB)=true:=h5
     rw[DF,GI];rfl
    ·simp+contextual (disch:=first|omega|simp only[go_sem,false_implies]) only[go_sem,wrap64,if_pos,and_self]
     have GI:(!jm a fB|| !jm b tB)=false:=h5
     rw[DF,GI];rfl
structure Tm.Fin (t:Tm):Prop where
 fits:t.fits
 lE:t.lE<=900000
end Go.Proofs.YtpkobkdgcanmjaaGreat
namespace Go.Proofs.YtpkobkdgcanmjaaGreat
end Go.Proofs.YtpkobkdgcanmjaaGreat
namespace Go.Proofs.YtpkobkdgcanmjaaGreat
def Tm.xe (t:Tm):Int:=(pre t 1).length
structure Tm.QD (t:Tm):Prop extends t.Fin where
 size:t.xe<=1000000
theorem Tm.Fin.u0 {t k:Tm}(h:t.Fin)(hk:k∈t.kids):k.Fin:=⟨((Tm.bF _).1 h.fits).2 k hk,by have:=Tm.BU hk;have:=h.lE;omega⟩
theorem nF:∀ (t:Tm) (d d':Int),(pre t d).length=(pre t d').length:=by
 refine Tm.ja fun t ih d d'=> ?_
 rw[se,se]
 simp only[List.length_cons,List.length_flatMap]
 congr 2
 exact List.map_congr_left fun k hk=>ih k hk _ _
theorem Tm.yB {t k:Tm}(hk:k∈t.kids):k.xe+1<=t.xe:=by
 simp only[Tm.xe]
 rw[se t,nF k 1 (1+1)]
 simp only[List.length_cons,List.length_flatMap]
 have:∀ (l:List Tm),k∈l->(pre k (1+1)).length<=(l.map fun k=>(pre k (1+1)).length).sum:=by
  intro l
  induction l with
  |nil=>intro h;cases h
  |cons x l ih=>
   intro h
   rcases List.mem_cons.1 h with rfl|h
   ·simp only[List.map_cons,List.sum_cons];omega
   ·have:=ih h;simp only[List.map_cons,List.sum_cons];omega
 have:=this _ hk
 omega
theorem Tm.QD.u0 {t k:Tm}(h:t.QD)(hk:k∈t.kids):k.QD:=⟨h.toFin.u0 hk,by have:=Tm.yB hk;have:=h.size;omega⟩
end Go.Proofs.YtpkobkdgcanmjaaGreat
namespace Go.Proofs.YtpkobkdgcanmjaaGreat
end Go.Proofs.YtpkobkdgcanmjaaGreat
namespace Go.Proofs.YtpkobkdgcanmjaaGreat
def Tm.sz (t:Tm):Nat:=(pre t 1).length
def sN(l:List Tm):Nat:=(l.map Tm.sz).sum
theorem Tm.pP (t:Tm):t.sz=1+sN t.kids:=by
 unfold Tm.sz sN
 rw[se,List.length_cons,List.length_flatMap,Nat.add_comm]
 congr 2
 exact List.map_congr_left fun k hk=>nF k _ _
theorem mA(k:Tm)(l:List Tm):sN (k::l)=k.sz+sN l:=by simp[sN]
theorem Tm.AF (t:Tm):1<=t.sz:=by rw[Tm.pP];omega
theorem qZ(k:Tm)(l:List Tm):Tm.gu (k::l)=Nat.max k.lE (Tm.gu l):=by simp[Tm.gu]
theorem Tm.AG (t:Tm):t.lE=1+Tm.gu t.kids:=by cases t;simp[Tm.lE,Tm.kids]
theorem yC:∀t:Tm,∀left depth:Int,eS t left depth=if(t.sz:Int)<=left/\(t.lE:Int)<=depth then left - t.sz else -1:=by
 refine Tm.ja fun t ih left depth=> ?_
 have hs:∀ (l:List Tm) (left d:Int),(∀k∈l,k∈t.kids)->0<=left->0<=d->bP l left d=if(sN l:Int)<=left/\(Tm.gu l:Int)<=d then left - sN l else -1:=by
  intro l
  induction l with
  |nil=>intro left d _ h1 h2;simp[bP,sN,Tm.gu,h1,h2]
  |cons k l yo=>
   intro left d hk h1 h2
   simp only[bP,if_pos h1]
   rw[ih k (hk k (by simp))]
   have hm:(Tm.gu (k::l):Int)<=d↔(k.lE:Int)<=d/\(Tm.gu l:Int)<=d:=by
    have:= @Nat.max_le k.lE (Tm.gu l) d.toNat
    have e:Tm.gu (k::l)=max k.lE (Tm.gu l):=qZ k l
    rw[e];omega
   simp only[mA,hm]
   by_cases hc:(k.sz:Int)<=left/\(k.lE:Int)<=d
   ·rw[if_pos hc,yo _ _ (fun x hx=>hk x (by simp[hx])) (by omega) h2]
    by_cases rq:(sN l:Int)<=left - k.sz/\(Tm.gu l:Int)<=d
    ·rw[if_pos rq,if_pos (by omega)];omega
    ·rw[if_neg rq,if_neg (by omega)]
   ·rw[if_neg hc,lr (by omega),if_neg (by omega)]
 rw[uD,Tm.pP,Tm.AG]
 by_cases h:left<1\/depth<1
 ·rw[if_pos h,if_neg (by omega)]
 ·rw[if_neg h,hs _ _ _ (fun _ h=>h) (by omega) (by omega)]
  by_cases hc:(sN t.kids:Int)<=left - 1/\(Tm.gu t.kids:Int)<=depth - 1
  ·rw[if_pos hc,if_pos (by omega)];omega
  ·rw[if_neg hc,if_neg (by omega)]
theorem j5(t:Tm)(left depth:Int):0<=eS t left depth↔(t.sz:Int)<=left/\(t.lE:Int)<=depth:=by
 rw[yC];split<;>omega
theorem v3:∀a:Tm,mm a a=true:=by
 refine Tm.ja fun a ih=> ?_
 rw[uE]
 have:jb a.kids a.kids=true:=(kp _ _ rfl).2 fun i x y hx hy=>by
  rw[hx]at hy;injection hy with hy;subst hy;exact ih x (List.mem_of_getElem? hx)
 simp[this]
end Go.Proofs.YtpkobkdgcanmjaaGreat
namespace Go.Proofs.YtpkobkdgcanmjaaGreat
def jn(s:bX)(t:Tm):Bool:=
 let k:Int:=t.kids.length
 if t.op=16 then t.n==0&&k==0
 else if t.op=1 then iI t.n 0 199&&k==0
 else if t.op=2 then iI t.n (-1000000) 1000000&&k==0
 else if t.op=3 then iI t.n 0 (s.cons.length - 1)&&k==jP s.cons t.n
 else if t.op=5 then iI t.n 0 (s.dU.length - 1)&&decide (k<jP s.dU t.n)
 else false
mutual
def pQ(s:bX):Tm->Bool
 | .mk op n kids=>xf s kids&&jn s (.mk op n kids)
def xf(s:bX):List Tm->Bool
 |[]=>true
 |k::l=>pQ s k&&xf s l
end
theorem q8(s:bX):∀l:List Tm,xf s l=l.all (pQ s)
 |[]=>rfl
 |k::l=>by rw[xf,q8 s l];rfl
theorem og(s:bX)(t:Tm):pQ s t=(t.kids.all (pQ s)&&jn s t):=by cases t;rw[pQ,q8];rfl
def qg(s:bX)(t:Tm):Bool:=decide (0<=eS t 80 30)&&pQ s t
def Pn(s:bX)(t:Tm):Prop:=pQ s t=true
theorem v5{s:bX}{t:Tm}:Pn s t↔jn s t=true/\∀k∈t.kids,Pn s k:=by
 unfold Pn;rw[og,Bool.and_eq_true,List.all_eq_true];exact and_comm
theorem Pn.u0 {s:bX}{t k:Tm}(h:Pn s t)(hk:k∈t.kids):Pn s k:=(v5.1 h).2 k hk
theorem xg{s:bX}{t:Tm}(h:jn s t=true)(h1:t.op=16\/t.op=1\/t.op=2):t.kids=[]/\(t.op=16->t.n=0):=by
 unfold jn at h
 rcases h1 with h1|h1|h1
 ·simp[h1]at h;exact⟨h.2,fun _=>h.1⟩
 ·simp[h1]at h;exact⟨h.2,fun e=>by omega⟩
 ·simp[h1]at h;exact⟨h.2,fun e=>by omega⟩
theorem Pn.bare {s:bX}{t:Tm}(h:Pn s t)(h1:t.op=16\/t.op=1\/t.op=2):t.kids=[]:=(xg (v5.1 h).1 h1).1
theorem Pn.bot {s:bX}{t:Tm}(h:Pn s t)(h1:t.op=16):t= .mk 16 0 []:=by
 have h2:=xg (v5.1 h).1 (.inl h1)
 rw[<- Tm.eta t,h1,h2.1,h2.2 h1]
mutual
def p6(s:bX):Tm->Int->Int->Bool×Int
 | .mk op n kids,left,d=>if left - 1<0\/d<=0\/jn s (.mk op n kids)=false then(false,left - 1)else m9 s kids (left - 1) (d - 1)
def m9(s:bX):List Tm->Int->Int->Bool×Int
 |[],left,_=>(true,left)
 |k::l,left,d=>if(p6 s k left d).1=true then m9 s l (p6 s k left d).2 d else(false,(p6 s k left d).2)
end
theorem AH(s:bX)(t:Tm)(left d:Int):p6 s t left d=if left - 1<0\/d<=0\/jn s t=false then(false,left - 1)else m9 s t.kids (left - 1) (d - 1):=by cases t;rw[p6];rfl
theorem AJ(s:bX):∀ (t:Tm) (left d:Int),(p6 s t left d).1=(decide ((t.sz:Int)<=left/\(t.lE:Int)<=d)&&pQ s t)/\((p6 s t left d).1=true->(p6 s t left d).2=left - t.sz):=by
 refine Tm.ja fun t ih left d=> ?_
 have key:∀ (ks:List Tm) (left d:Int),(∀k∈ks,k∈t.kids)->0<=left->0<=d->(m9 s ks left d).1=(decide ((sN ks:Int)<=left/\(Tm.gu ks:Int)<=d)&&ks.all (pQ s))/\((m9 s ks left d).1=true->(m9 s ks left d).2=left - sN ks):=by
  intro ks
  induction ks with
  |nil=>intro left d _ h0 hd;simp[m9,sN,Tm.gu];omega
  |cons k ks MK=>
   intro left d Gy h0 hd
   obtain⟨e1,e2⟩:=ih k (Gy k (by simp)) left d
   have hp:=Tm.AF k
   rw[mA,qZ]
   simp only[m9]
   by_cases h1:(p6 s k left d).1=true
   ·rw[if_pos h1]
    have e3:=e2 h1
    rw[e1,Bool.and_eq_true,decide_eq_true_eq]at h1
    obtain⟨i1,i2⟩:=MK (p6 s k left d).2 d (fun x hx=>Gy x (by simp[hx])) (by omega) hd
    rw[e3]at i1 i2|-
    refine⟨?_,fun h=>by have:=i2 h;omega⟩
    rw[i1,Bool.eq_iff_iff]
    simp only[List.all_cons,Bool.and_eq_true,decide_eq_true_eq,h1.2,true_and]
    have:Nat.max k.lE (Tm.gu ks)=max k.lE (Tm.gu ks):=rfl
    rw[this]
    constructor
    ·rintro⟨h2,h3⟩;exact⟨by omega,h3⟩
    ·rintro⟨h2,h3⟩;exact⟨by omega,h3⟩
   ·rw[if_neg h1]
    refine⟨?_,fun h=>by cases h⟩
    rw[e1]at h1
    show false=_
    symm
    rw[Bool.eq_false_iff]
    intro h2
    apply h1
    simp only[List.all_cons,Bool.and_eq_true,decide_eq_true_eq]at h2|-
    have:Nat.max k.lE (Tm.gu ks)=max k.lE (Tm.gu ks):=rfl
    rw[this]at h2
    exact⟨by omega,h2.2.1⟩
 have hs:=Tm.pP t
 have hh:=Tm.AG t
 rw[AH]
 by_cases h1:left - 1<0\/d<=0\/jn s t=false
 ·rw[if_pos h1]
  refine⟨?_,fun h=>by cases h⟩
  show false=_
  symm
  rw[Bool.eq_false_iff]
  intro h2
  simp only[Bool.and_eq_true,decide_eq_true_eq,og]at h2
  rcases h1 with h1|h1|h1
  ·omega
  ·omega
  ·rw[h1]at h2;exact absurd h2.2.2 (by simp)
 ·rw[if_neg h1]
  have h2:jn s t=true:=by cases h:jn s t<;>simp_all
  obtain⟨i1,i2⟩:=key t.kids (left - 1) (d - 1) (fun _ h=>h) (by omega) (by omega)
  refine⟨?_,fun h=>by have:=i2 h;omega⟩
  rw[i1,og,h2,Bool.and_true,Bool.eq_iff_iff]
  simp only[Bool.and_eq_true,decide_eq_true_eq]
  constructor
  ·rintro⟨h3,h4⟩;exact⟨by omega,h4⟩
  ·rintro⟨h3,h4⟩;exact⟨by omega,h4⟩
theorem ML(s:bX)(t:Tm):(p6 s t 80 30).1=qg s t:=by
 rw[(AJ s t 80 30).1,qg]
 congr 1
 rw[Bool.eq_iff_iff,decide_eq_true_eq,decide_eq_true_eq,j5]
mutual
def uI:Tm->Int
 | .mk op _ kids=>if op=16 then 0 else if op=1 then 1 else nU kids 2
def nU:List Tm->Int->Int
 |[],out=>out
 |k::l,out=>nU l (min out (uI k))
end
theorem AK(t:Tm):uI t=if t.op=16 then 0 else if t.op=1 then 1 else nU t.kids 2:=by cases t;rw[uI];rfl
mutual
def dG(op:Int):Tm->Bool
 | .mk o _ kids=>sC op kids&&o !=op
def sC(op:Int):List Tm->Bool
 |[]=>true
 |k::l=>dG op k&&sC op l
end
theorem pR(op:Int):∀l:List Tm,sC op l=l.all (dG op)
 |[]=>rfl
 |k::l=>by rw[sC,pR op l];rfl
theorem gy(op:Int)(t:Tm):dG op t=(t.kids.all (dG op)&&t.op !=op):=by cases t;rw[dG,pR];rfl
theorem AL{s:bX}:∀t:Tm,Pn s t->(0<=uI t/\uI t<=2)/\(1<=uI t↔dG 16 t=true)/\(uI t=2↔dG 16 t=true/\dG 1 t=true):=by
 refine Tm.ja fun t ih hp=> ?_
 have key:∀ (ks:List Tm) (out:Int),(∀k∈ks,k∈t.kids)->0<=out->out<=2->(0<=nU ks out/\nU ks out<=2)/\(1<=nU ks out↔1<=out/\ks.all (dG 16)=true)/\(nU ks out=2↔out=2/\ks.all (dG 16)=true/\ks.all (dG 1)=true):=by
  intro ks
  induction ks with
  |nil=>intro out _ h0 h2;simp[nU,h0,h2]
  |cons k ks MK=>
   intro out Gy h0 h2
   obtain⟨⟨a1,a2⟩,a3,a4⟩:=ih k (Gy k (by simp)) (hp.u0 (Gy k (by simp)))
   obtain⟨b1,b2,b3⟩:=MK (min out (uI k)) (fun x hx=>Gy x (by simp[hx])) (by omega) (by omega)
   simp only[nU,List.all_cons,Bool.and_eq_true]
   refine⟨b1, ?_, ?_⟩
   ·rw[b2, <- a3]
    constructor
    ·rintro⟨h1,h3⟩;exact⟨by omega,by omega,h3⟩
    ·rintro⟨h1,h3,h4⟩;exact⟨by omega,h4⟩
   ·rw[b3]
    constructor
    ·rintro⟨h1,h3,h4⟩
     have h5:=a4.1 (by omega)
     exact⟨by omega,⟨h5.1,h3⟩,h5.2,h4⟩
    ·rintro⟨h1,⟨h3,h4⟩,h5,h6⟩
     have h7:=a4.2 ⟨h3,h5⟩
     exact⟨by omega,h4,h6⟩
 rw[AK]
 by_cases h1:t.op=16
 ·rw[if_pos h1]
  have e:dG 16 t=false:=by rw[gy,h1];simp
  rw[e]
  refine⟨by omega,⟨fun h=>by omega,fun h=>by cases h⟩,⟨fun h=>by omega,fun h=>by cases h.1⟩⟩
 ·rw[if_neg h1]
  by_cases h2:t.op=1
  ·rw[if_pos h2]
   have e0:=hp.bare (.inr (.inl h2))
   have e:dG 16 t=true:=by rw[gy,e0,h2];rfl
   have e2:dG 1 t=false:=by rw[gy,h2];simp
   rw[e,e2]
   exact⟨by omega,⟨fun _=>rfl,fun _=>by omega⟩,⟨fun h=>by omega,fun h=>by cases h.2⟩⟩
  ·rw[if_neg h2]
   obtain⟨k1,k2,k3⟩:=key t.kids 2 (fun _ h=>h) (by omega) (by omega)
   refine⟨k1, ?_, ?_⟩
   ·rw[k2,gy];simp[h1]
   ·rw[k3,gy,gy 1];simp[h1,h2]
mutual
def nG:Tm->Tm->Bool
 | .mk op n kids,b=>if op=16 then true else if op≠b.op\/n≠b.n\/kids.length≠b.kids.length then false else gz kids b.kids
def gz:List Tm->List Tm->Bool
 |[],_=>true
 |_::_,[]=>true
 |k::l,k'::l'=>nG k k'&&gz l l'
end
theorem sD(a b:Tm):nG a b=if a.op=16 then true else if a.op≠b.op\/a.n≠b.n\/a.kids.length≠b.kids.length then false else gz a.kids b.kids:=by cases a;rw[nG];rfl
theorem kq{a b:Tm}:nG a b=true↔a.op=16\/(a.op=b.op/\a.n=b.n/\a.kids.length=b.kids.length/\gz a.kids b.kids=true):=by
 rw[sD]
 by_cases h1:a.op=16
 ·simp[h1]
 ·rw[if_neg h1]
  by_cases h2:a.op≠b.op\/a.n≠b.n\/a.kids.length≠b.kids.length
  ·rw[if_pos h2]
   constructor
   ·intro h;cases h
   ·rintro(h|⟨h3,h4,h5,_⟩)
    ·exact absurd h h1
    ·rcases h2 with h|h|h<;>contradiction
  ·rw[if_neg h2]
   constructor
   ·intro h
    exact .inr ⟨Classical.byContradiction fun e=>h2 (.inl e),Classical.byContradiction fun e=>h2 (.inr (.inl e)),Classical.byContradiction fun e=>h2 (.inr (.inr e)),h⟩
   ·rintro(h|h)
    ·exact absurd h h1
    ·exact h.2.2.2
end Go.Proofs.YtpkobkdgcanmjaaGreat
namespace Go.Proofs.YtpkobkdgcanmjaaGreat
mutual
def jo:Tm->Tm->Option Tm
 | .mk op n kids,b=>if op=16 then some b else if b.op=16 then some (.mk op n kids)else if op≠b.op\/n≠b.n\/kids.length≠b.kids.length then none else(cq kids b.kids).map fun l=> .mk op n l
def cq:List Tm->List Tm->Option (List Tm)
 |[],_=>some []
 |_::_,[]=>some []
 |k::l,k'::l'=>match jo k k' with
  |some x=>(cq l l').map fun m=>x::m
  |none=>none
end
theorem gN(a b:Tm):jo a b=if a.op=16 then some b else if b.op=16 then some a else if a.op≠b.op\/a.n≠b.n\/a.kids.length≠b.kids.length then none else(cq a.kids b.kids).map fun l=> .mk a.op a.n l:=by cases a;rw[jo];rfl
mutual
def A8:Tm->Tm->Option Tm
 | .mk op n kids,b=>if nG (.mk op n kids) b=true then some b else if nG b (.mk op n kids)=true then some (.mk op n kids)else if op≠b.op\/n≠b.n\/kids.length≠b.kids.length then none else
   match kG kids b.kids with
   |some []=>none
   |some l=>some (.mk op n l)
   |none=>none
def kG:List Tm->List Tm->Option (List Tm)
 |[],_=>some []
 |_::_,[]=>some []
 |k::l,k'::l'=>match A8 k k' with
  |some x=>(kG l l').map fun m=>x::m
  |none=>none
end
theorem AM(a b:Tm):A8 a b=if nG a b=true then some b else if nG b a=true then some a else if a.op≠b.op\/a.n≠b.n\/a.kids.length≠b.kids.length then none else
 match kG a.kids b.kids with
 |some []=>none
 |some l=>some (.mk a.op a.n l)
 |none=>none:=by cases a;rw[A8];rfl
theorem Fs{s:bX}:∀a b:Tm,Pn s a->Pn s b->(nG a b=true->jo a b=some b)/\(nG b a=true->jo a b=some a):=by
 refine Tm.ja fun a ih b pa pb=> ?_
 have k1:∀l m:List Tm,(∀k∈l,k∈a.kids)->(∀k∈m,Pn s k)->l.length=m.length->gz l m=true->cq l m=some m:=by
  intro l
  induction l with
  |nil=>intro m _ _ h _;cases m with
   |nil=>rfl
   |cons _ _=>cases h
  |cons k l yo=>
   intro m h hm hl g
   cases m with
   |nil=>cases hl
   |cons k' m=>
    rw[gz,Bool.and_eq_true]at g
    rw[cq,(ih k (h k (by simp)) k' (pa.u0 (h k (by simp))) (hm k' (by simp))).1 g.1,yo m (fun x hx=>h x (by simp[hx])) (fun x hx=>hm x (by simp[hx])) (by simpa using hl) g.2]
    rfl
 have k2:∀l m:List Tm,(∀k∈l,k∈a.kids)->(∀k∈m,Pn s k)->l.length=m.length->gz m l=true->cq l m=some l:=by
  intro l
  induction l with
  |nil=>intro m _ _ _ _;rfl
  |cons k l yo=>
   intro m h hm hl g
   cases m with
   |nil=>cases hl
   |cons k' m=>
    rw[gz,Bool.and_eq_true]at g
    rw[cq,(ih k (h k (by simp)) k' (pa.u0 (h k (by simp))) (hm k' (by simp))).2 g.1,yo m (fun x hx=>h x (by simp[hx])) (fun x hx=>hm x (by simp[hx])) (by simpa using hl) g.2]
    rfl
 constructor
 ·intro h
  rw[gN]
  by_cases h1:a.op=16
  ·rw[if_pos h1]
  ·rw[if_neg h1]
   rcases kq.1 h with h|⟨e1,e2,e3,e4⟩
   ·exact absurd h h1
   ·rw[if_neg (by rw[<- e1];exact h1),if_neg (by simp[e1,e2,e3]),k1 _ _ (fun _ h=>h) (fun k hk=>pb.u0 hk) e3 e4]
    show some (Tm.mk a.op a.n b.kids)=some b
    rw[e1,e2,Tm.eta]
 ·intro h
  rw[gN]
  by_cases h1:a.op=16
  ·rw[if_pos h1]
   have hb:b.op=16:=by
    rcases kq.1 h with h|h
    ·exact h
    ·rw[h.1,h1]
   rw[pa.bot h1,pb.bot hb]
  ·rw[if_neg h1]
   rcases kq.1 h with h|⟨e1,e2,e3,e4⟩
   ·rw[if_pos h]
   ·rw[if_neg (by rw[e1];exact h1),if_neg (by simp[e1,e2,e3]),k2 _ _ (fun _ h=>h) (fun k hk=>pb.u0 hk) e3.symm e4]
    show some (Tm.mk a.op a.n a.kids)=some a
    rw[Tm.eta]
theorem Ck{s:bX}:∀a b:Tm,Pn s a->Pn s b->A8 a b=jo a b:=by
 refine Tm.ja fun a ih b pa pb=> ?_
 obtain⟨l1,l2⟩:=Fs a b pa pb
 rw[AM]
 by_cases h1:nG a b=true
 ·rw[if_pos h1,l1 h1]
 ·rw[if_neg h1]
  by_cases h2:nG b a=true
  ·rw[if_pos h2,l2 h2]
  ·rw[if_neg h2,gN,if_neg (fun h=>h1 (kq.2 (.inl h))),if_neg (fun h=>h2 (kq.2 (.inl h)))]
   by_cases h3:a.op≠b.op\/a.n≠b.n\/a.kids.length≠b.kids.length
   ·rw[if_pos h3,if_pos h3]
   ·rw[if_neg h3,if_neg h3]
    have key:∀l m:List Tm,(∀k∈l,k∈a.kids)->(∀k∈m,Pn s k)->kG l m=cq l m:=by
     intro l
     induction l with
     |nil=>intro m _ _;simp only[kG,cq]
     |cons k l yo=>
      intro m h hm
      cases m with
      |nil=>simp only[kG,cq]
      |cons k' m=>
       rw[kG,cq,ih k (h k (by simp)) k' (pa.u0 (h k (by simp))) (hm k' (by simp)),yo m (fun x hx=>h x (by simp[hx])) (fun x hx=>hm x (by simp[hx]))]
    have e1:a.op=b.op:=Classical.byContradiction fun e=>h3 (.inl e)
    have e2:a.n=b.n:=Classical.byContradiction fun e=>h3 (.inr (.inl e))
    have e3:a.kids.length=b.kids.length:=Classical.byContradiction fun e=>h3 (.inr (.inr e))
    have hk:a.kids≠[]:=fun e=>h1 (kq.2 (.inr ⟨e1,e2,e3,by rw[e];rfl⟩))
    rw[key _ _ (fun _ h=>h) fun k hk=>pb.u0 hk]
    cases hr:cq a.kids b.kids with
    |none=>rfl
    |some l=>
     cases l with
     |cons x l=>rfl
     |nil=>
      cases QE:a.kids with
      |nil=>exact absurd QE hk
      |cons k ks=>
       cases Sh:b.kids with
       |nil=>rw[QE,Sh]at e3;cases e3
       |cons k' NI=>
        rw[QE,Sh,cq]at hr
        cases e:jo k k' with
        |none=>rw[e]at hr;cases hr
        |some x=>
         rw[e]at hr
         cases e5:cq ks NI with
         |none=>rw[e5]at hr;cases hr
         |some y=>rw[e5]at hr;cases hr
theorem uJ:∀ (l m j:List Tm),l.length=m.length->cq l m=some j->j.length=l.length
 |[],_,_,_,h=>by simp only[cq]at h;injection h with h;subst h;rfl
 |_::_,[],_,h,_=>by cases h
 |k::l,k'::m,j,hl,h=>by
  rw[cq]at h
  cases e:jo k k' with
  |none=>rw[e]at h;cases h
  |some x=>
   rw[e]at h
   cases e5:cq l m with
   |none=>rw[e5]at h;cases h
   |some y=>
    rw[e5]at h
    injection h with h
    subst h
    simp[uJ l m y (by simpa using hl) e5]
end Go.Proofs.YtpkobkdgcanmjaaGreat
namespace Go.Proofs.YtpkobkdgcanmjaaGreat
theorem xh(n low high:Int):bJ Tryz.prog 95 [.i n, .i low, .i high] (.ret [.bool (iI n low high)]):=by
 refine bJ.bg mix Jk (by simp) ?_
 rw[Qs]
 simp+contextual only[go_sem]
 rfl
theorem Cl(s:bX)(t:Tm)(hs:s.Fits)(ht:t.kids.length<=9223372036854775807):bJ Tryz.prog 72 [s.d,t.d] (.ret [.bool (jn s t)]):=by
 refine bJ.bg mix Jb (by simp) ?_
 rw[P7]
 simp+contextual only[go_sem]
 rcases(by omega:t.op=16\/t.op=1\/t.op=2\/t.op=3\/t.op=5\/(t.op≠16/\t.op≠1/\t.op≠2/\t.op≠3/\t.op≠5))with h|h|h|h|h|h
 ·have hn:jn s t=(t.n==0&&(t.kids.length:Int)==0):=by unfold jn;rw[if_pos h]
  simp+contextual only[go_sem,h]
  rw[hn]
 ·have hn:jn s t=(iI t.n 0 199&&(t.kids.length:Int)==0):=by unfold jn;rw[if_neg (by omega),if_pos h]
  simp+contextual only[go_sem,h]
  refine ae (xh _ _ _) rfl ?_
  simp+contextual only[go_sem,h]
  rw[hn]
 ·have hn:jn s t=(iI t.n (-1000000) 1000000&&(t.kids.length:Int)==0):=by unfold jn;rw[if_neg (by omega),if_neg (by omega),if_pos h]
  simp+contextual only[go_sem,h]
  refine ae (xh _ _ _) rfl ?_
  simp+contextual only[go_sem,h]
  rw[hn]
 ·have hn:jn s t=(iI t.n 0 (s.cons.length - 1)&&(t.kids.length:Int)==jP s.cons t.n):=by unfold jn;rw[if_neg (by omega),if_neg (by omega),if_neg (by omega),if_pos h]
  simp+contextual only[go_sem,h]
  rw[wrap64 (by have:=hs.lc;omega) (by have:=hs.lc;omega)]
  refine ae (xh _ _ _) rfl ?_
  cases hI:iI t.n 0 (s.cons.length - 1)with
  |false=>
   simp+contextual only[go_sem,h,hI]
   rw[hn,hI];rfl
  |true=>
   obtain⟨h0,x,hx⟩:=oe hI
   simp+contextual only[go_sem,h,hI,hx,h0]
   rw[hn,hI,je hx];rfl
 ·have hn:jn s t=(iI t.n 0 (s.dU.length - 1)&&decide ((t.kids.length:Int)<jP s.dU t.n)):=by unfold jn;rw[if_neg (by omega),if_neg (by omega),if_neg (by omega),if_neg (by omega),if_pos h]
  simp+contextual only[go_sem,h]
  rw[wrap64 (by have:=hs.lf;omega) (by have:=hs.lf;omega)]
  refine ae (xh _ _ _) rfl ?_
  cases hI:iI t.n 0 (s.dU.length - 1)with
  |false=>
   simp+contextual only[go_sem,h,hI]
   rw[hn,hI];rfl
  |true=>
   obtain⟨h0,x,hx⟩:=oe hI
   simp+contextual only[go_sem,h,hI,hx,h0]
   rw[hn,hI,je hx];rfl
 ·have hn:jn s t=false:=by unfold jn;rw[if_neg h.1,if_neg h.2.1,if_neg h.2.2.1,if_neg h.2.2.2.1,if_neg h.2.2.2.2]
  have e1:(t.op==16)=false:=by simpa using h.1
  have e2:(t.op==1)=false:=by simpa using h.2.1
  have e3:(t.op==2)=false:=by simpa using h.2.2.1
  have e4:(t.op==3)=false:=by simpa using h.2.2.2.1
  have e5:(t.op==5)=false:=by simpa using h.2.2.2.2
  simp+contextual only[go_sem,e1,e2,e3,e4,e5]
  rw[hn]
theorem AO(s:bX)(hs:s.Fits):∀t:Tm,t.fits->bJ Tryz.prog 47 [s.d,t.d] (.ret [.bool (pQ s t)]):=by
 refine Tm.ja fun t ih hf=> ?_
 have th:=(Tm.bF _).1 hf
 refine bJ.bg mix IY (by simp) ?_
 rw[PI]
 simp+contextual only[go_sem]
 rw[og]
 refine bN (fun k:Nat=>⟨bD [.ak, .ak, .ptr 0 0, .ptr 1 0, .ak, .d (.i k)],sA s.row t.row,2⟩)
  (fun k=>k<=t.kids.length/\(t.kids.take k).all (pQ s)=true) (fun k=>t.kids.length - k) 0 ⟨Nat.zero_le _,by simp⟩ (cR.d2 _ (eD rfl rfl) (by omega) rfl rfl ?_) (fun k hk=> ?_)
 ·(repeat(first|exact aL|refine aK ?_|refine az rfl ?_|refine az (bT (bS (by omega))) ?_|refine aY rfl (by simp[V.refs,V.aw]<;>first|omega|assumption) ?_))
 simp+contextual only[go_sem]
 refine aH (fun h2=> ?_) (fun h2=> ?_)
 ·simp at h2
  obtain⟨x,hx⟩:=bt h2
  have jk:=List.mem_of_getElem? hx
  simp+contextual only[go_sem,hx]
  refine ej (ih x jk (th.2 x jk)) rfl ?_
  simp+contextual only[go_sem]
  refine cc (by decide) ?_
  simp+contextual only[go_sem]
  refine aH (fun h3=> ?_) (fun h3=> ?_)
  ·simp+contextual only[go_sem]
   simp at h3
   rw[iH hx h3];rfl
  ·simp+contextual only[go_sem]
   simp at h3
   refine aW (k+1) ⟨h2,jY hx hk.2 h3⟩ (by omega) (cR.d2 _ (eD rfl rfl) (by omega) rfl rfl ?_)
   (repeat(first|exact aL|refine aK ?_|refine az rfl ?_|refine az (bT (bS (by omega))) ?_|refine aY rfl (by simp[V.refs,V.aw]<;>first|omega|assumption) ?_))
 ·simp+contextual only[go_sem]
  simp at h2
  rw[jZ hk.2 h2,Bool.true_and]
  refine ae (Cl s t hs th.1) rfl ?_
  simp+contextual only[go_sem]
theorem sE(s:bX)(hs:s.Fits)(t:Tm)(hf:t.fits):bJ Tryz.prog 13 [s.d,t.d] (.ret [.bool (qg s t)]):=by
 refine bJ.bg mix ID (by simp) ?_
 rw[O6]
 simp+contextual only[go_sem]
 refine ae (xc t hf 80 30 (by omega) (by omega)) rfl ?_
 unfold qg
 cases h:decide (0<=eS t 80 30)with
 |false=>simp+contextual only[go_sem,h]
 |true=>
  simp+contextual only[go_sem,h]
  refine ae (AO s hs t hf) rfl ?_
  simp+contextual only[go_sem,h]
def mB(t:Tm):Bool:=decide (0<=eS t 100 35)
theorem pS(t:Tm)(hf:t.fits):bJ Tryz.prog 7 [t.d] (.ret [.bool (mB t)]):=by
 refine bJ.bg mix Rn (by simp) ?_
 rw[c7]
 simp+contextual only[go_sem]
 refine ae (xc t hf 100 35 (by omega) (by omega)) rfl ?_
 simp+contextual only[go_sem]
 rfl
theorem xi(op:Int):∀t:Tm,t.fits->bJ Tryz.prog 48 [t.d, .i op] (.ret [.bool (dG op t)]):=by
 refine Tm.ja fun t ih hf=> ?_
 have th:=(Tm.bF _).1 hf
 refine bJ.bg mix IZ (by simp) ?_
 rw[PJ]
 simp+contextual only[go_sem]
 rw[gy]
 refine bN (fun k:Nat=>⟨bD [.ak, .d (.i op), .ptr 0 0, .ak, .ak, .d (.i k)],pM t.row,1⟩)
  (fun k=>k<=t.kids.length/\(t.kids.take k).all (dG op)=true) (fun k=>t.kids.length - k) 0 ⟨Nat.zero_le _,by simp⟩ (cR.d1 _ (cW rfl) (by omega) rfl ?_) (fun k hk=> ?_)
 ·(repeat(first|exact aL|refine aK ?_|refine az rfl ?_|refine az (bT (bS (by omega))) ?_|refine aY rfl (by simp[V.refs,V.aw]<;>first|omega|assumption) ?_))
 simp+contextual only[go_sem]
 refine aH (fun h2=> ?_) (fun h2=> ?_)
 ·simp at h2
  obtain⟨x,hx⟩:=bt h2
  have jk:=List.mem_of_getElem? hx
  simp+contextual only[go_sem,hx]
  refine ae (ih x jk (th.2 x jk)) rfl ?_
  simp+contextual only[go_sem]
  refine aH (fun h3=> ?_) (fun h3=> ?_)
  ·simp+contextual only[go_sem]
   simp at h3
   rw[iH hx h3];rfl
  ·simp+contextual only[go_sem]
   simp at h3
   refine aW (k+1) ⟨h2,jY hx hk.2 h3⟩ (by omega) (cR.d1 _ (cW rfl) (by omega) rfl ?_)
   (repeat(first|exact aL|refine aK ?_|refine az rfl ?_|refine az (bT (bS (by omega))) ?_|refine aY rfl (by simp[V.refs,V.aw]<;>first|omega|assumption) ?_))
 ·simp+contextual only[go_sem]
  simp at h2
  rw[jZ hk.2 h2,Bool.true_and]
theorem j6(t:Tm)(hf:t.fits):bJ Tryz.prog 15 [t.d] (.ret [.bool (dG 16 t)]):=by
 refine bJ.bg mix IF (by simp) ?_
 rw[O8]
 simp+contextual only[go_sem]
 refine ae (xi 16 t hf) rfl ?_
 simp+contextual only[go_sem]
theorem ku(t:Tm)(hf:t.fits):bJ Tryz.prog 16 [t.d] (.ret [.bool (dG 16 t&&dG 1 t)]):=by
 refine bJ.bg mix IG (by simp) ?_
 rw[O9]
 simp+contextual only[go_sem]
 refine ae (j6 t hf) rfl ?_
 cases h:dG 16 t with
 |false=>simp+contextual only[go_sem,h]
 |true=>
  simp+contextual only[go_sem,h]
  refine ae (xi 1 t hf) rfl ?_
  simp+contextual only[go_sem,h]
theorem pT:∀a:Tm,a.fits->∀b:Tm,b.fits->bJ Tryz.prog 17 [a.d,b.d] (.ret [.bool (nG a b)]):=by
 refine Tm.ja fun t ih hf b hb=> ?_
 have th:=(Tm.bF _).1 hf
 have sW:=(Tm.bF _).1 hb
 refine bJ.bg mix II (by simp) ?_
 rw[Pa]
 simp+contextual only[go_sem]
 refine aH (fun h0=> ?_) (fun h0=> ?_)
 ·simp at h0
  simp+contextual only[go_sem]
  rw[sD,if_pos h0]
 have uX:t.op≠16:=by simpa using h0
 rw[sD,if_neg uX]
 by_cases h1:t.op≠b.op\/t.n≠b.n\/t.kids.length≠b.kids.length
 ·rw[if_pos h1]
  have jf:(t.op !=b.op||t.n !=b.n||(t.kids.length:Int)!=(b.kids.length:Int))=true:=by
   rcases h1 with h|h|h
   ·simp[h]
   ·simp[h]
   ·have:((t.kids.length:Int)!=(b.kids.length:Int))=true:=by simp;omega
    simp[this]
  simp+contextual only[go_sem,jf,List.length_map]
 ·rw[if_neg h1]
  have e1:t.op=b.op:=Classical.byContradiction fun e=>h1 (.inl e)
  have e2:t.n=b.n:=Classical.byContradiction fun e=>h1 (.inr (.inl e))
  have e3:t.kids.length=b.kids.length:=Classical.byContradiction fun e=>h1 (.inr (.inr e))
  have jf:(t.op !=b.op||t.n !=b.n||(t.kids.length:Int)!=(b.kids.length:Int))=false:=by simp[e1,e2,e3]
  simp+contextual only[go_sem,jf,List.length_map]
  refine bN (fun k:Nat=>⟨bD [.ak, .ak, .ptr 0 0, .ptr 1 0, .ak, .d (.i k)],sA t.row b.row,2⟩)
   (fun k=>k<=t.kids.length/\gz t.kids b.kids=gz (t.kids.drop k) (b.kids.drop k)) (fun k=>t.kids.length - k) 0 ⟨Nat.zero_le _,by simp⟩ (cR.d2 _ (eD rfl rfl) (by omega) rfl rfl ?_) (fun k hk=> ?_)
  ·(repeat(first|exact aL|refine aK ?_|refine az rfl ?_|refine az (bT (bS (by omega))) ?_|refine aY rfl (by simp[V.refs,V.aw]<;>first|omega|assumption) ?_))
  simp+contextual only[go_sem]
  refine aH (fun h2=> ?_) (fun h2=> ?_)
  ·simp at h2
   obtain⟨x,hx⟩:=bt h2
   obtain⟨y,hy⟩:=bt (l:=b.kids) (k:=k) (by omega)
   have jk:=List.mem_of_getElem? hx
   have Ce:=List.mem_of_getElem? hy
   have hd:gz (t.kids.drop k) (b.kids.drop k)=(nG x y&&gz (t.kids.drop (k+1)) (b.kids.drop (k+1))):=by
    obtain⟨g1,g2⟩:=List.getElem?_eq_some_iff.1 hx
    obtain⟨g3,g4⟩:=List.getElem?_eq_some_iff.1 hy
    rw[List.drop_eq_getElem_cons g1,List.drop_eq_getElem_cons g3,g2,g4,gz]
   simp+contextual only[go_sem,hx,hy]
   refine ej (ih x jk (th.2 x jk) y (sW.2 y Ce)) rfl ?_
   simp+contextual only[go_sem]
   refine cc (by decide) ?_
   simp+contextual only[go_sem]
   refine aH (fun h3=> ?_) (fun h3=> ?_)
   ·simp+contextual only[go_sem]
    simp at h3
    rw[hk.2,hd,h3];rfl
   ·simp+contextual only[go_sem]
    simp at h3
    refine aW (k+1) ⟨h2,by rw[hk.2,hd,h3];rfl⟩ (by omega) (cR.d2 _ (eD rfl rfl) (by omega) rfl rfl ?_)
    (repeat(first|exact aL|refine aK ?_|refine az rfl ?_|refine az (bT (bS (by omega))) ?_|refine aY rfl (by simp[V.refs,V.aw]<;>first|omega|assumption) ?_))
  ·simp+contextual only[go_sem]
   simp at h2
   rw[hk.2,List.drop_eq_nil_of_le h2]
   rfl
end Go.Proofs.YtpkobkdgcanmjaaGreat
namespace Go.Proofs.YtpkobkdgcanmjaaGreat
def q9(t:Tm):D:=if t.op=16 then .iface 103 (.agg [])else if t.op=1 then .iface 104 (.i t.n)else .iface 105 t.d
theorem lookD_0{t:Tm}(h:t.op=16):q9 t= .iface 103 (.agg []):=if_pos h
theorem lookD_1{t:Tm}(h:t.op=1):q9 t= .iface 104 (.i t.n):=by unfold q9;rw[if_neg (by omega),if_pos h]
theorem lookD_2{t:Tm}(h:t.op≠16)(h1:t.op≠1):q9 t= .iface 105 t.d:=by unfold q9;rw[if_neg h,if_neg h1]
@[go_sem] theorem AP:mM Tryz.prog 103=true:=by kernel_rfl
@[go_sem] theorem A9:mM Tryz.prog 104=true:=by kernel_rfl
@[go_sem] theorem Cm:mM Tryz.prog 105=true:=by kernel_rfl
theorem kx(n low high:Int):bJ Tryz.prog 59 [.i n, .i low, .i high] (.ret [.bool (iI n low high)]):=by
 refine bJ.bg mix I2 (by simp) ?_
 rw[PU]
 simp+contextual only[go_sem]
 rfl
theorem sF(t:Tm):bJ Tryz.prog 68 [t.d] (.ret [q9 t]):=by
 refine bJ.bg mix I7 (by simp) ?_
 rw[P3]
 by_cases h0:t.op=16
 ·have uX:(t.op==16)=true:=by simpa using h0
  rw[lookD_0 h0]
  simp+contextual (disch:=first|omega|simp only[go_sem,false_implies]) only[go_sem,wrap64,if_pos,uX]
 ·have uX:(t.op==16)=false:=by simpa using h0
  by_cases h1:t.op=1
  ·have jf:(t.op==1)=true:=by simpa using h1
   rw[lookD_1 h1]
   simp+contextual (disch:=first|omega|simp only[go_sem,false_implies]) only[go_sem,wrap64,if_pos,uX,jf]
  ·have jf:(t.op==1)=false:=by simpa using h1
   rw[lookD_2 h0 h1]
   simp+contextual (disch:=first|omega|simp only[go_sem,false_implies]) only[go_sem,wrap64,if_pos,uX,jf]
theorem MM(a b:List Tm)(ha:a.length<=9223372036854775807)(hb:b.length<=9223372036854775807)(g:Nat)(h:∀x∈a,∀y∈b,bJ Tryz.prog g [x.d,y.d] (.ret [.bool (nG x y)]))(o:Nat->aa)(nx:Nat)(hg:Good o nx)(K X:V->(Nat->aa)->Nat->Prop)
 (hK:∀o' nx',nx<=nx'->Good o' nx'->(∀j,j<nx->o' j=o j)->K (.d (.bool (a.length==b.length&&gz a b))) o' nx'):
 ft Tryz.prog 69 [.d (.sl (a.map Tm.d)), .d (.sl (b.map Tm.d)), .func (.func g) [] []] o nx K X:=by
 refine ft.bg mix I8 (by simp) ?_
 rw[P4]
 simp+contextual (disch:=first|omega|simp only[go_sem,false_implies]) only[go_sem,wrap64,if_pos,Nat.add_assoc,Nat.left_eq_add,Nat.add_eq_left,Nat.add_left_cancel_iff]
 refine aH (fun h1=> ?_) (fun h1=> ?_)
 ·simp+contextual (disch:=first|omega|simp only[go_sem,false_implies]) only[go_sem,wrap64,if_pos,and_self]
  have:(a.length==b.length&&gz a b)=false:=by
   have:(a.length==b.length)=false:=by
    rw[Bool.eq_false_iff];intro h
    simp at h;simp[h]at h1
   rw[this];rfl
  rw[this]at hK
  exact hK _ _ (by omega) (hg.mono (by omega)) (fun _ _=>rfl)
 ·have hl:a.length=b.length:=by simp at h1;omega
  have Bq:(a.length==b.length)=true:=by simpa using hl
  rw[Bq,Bool.true_and]at hK
  simp+contextual (disch:=first|omega|simp only[go_sem,false_implies]) only[go_sem,wrap64,if_pos,Nat.add_assoc,Nat.left_eq_add,Nat.add_eq_left,Nat.add_left_cancel_iff]
  refine bN (fun k:Nat=>⟨bD [.d (.sl (a.map Tm.d)), .d (.sl (b.map Tm.d)), .func (.func g) [] [], .ak, .ak, .ak, .ak, .ak, .ak, .ak, .ak, .ak, .ak, .ak, .ak, .d (.sl (a.map Tm.d)), .d (.i a.length), .d (.i k)],o,nx⟩)
   (fun k=>k<=a.length/\gz a b=gz (a.drop k) (b.drop k)) (fun k=>a.length - k) 0 ⟨Nat.zero_le _,by simp⟩ (cR.fE _ (Nat.le_refl _) (by omega) hg (fun _ _=>rfl) ?_) (fun k hk=> ?_)
  ·(repeat(first|exact aL|refine aK ?_|refine az rfl ?_|refine az (bT (bS (by omega))) ?_|refine aY rfl (by simp[V.refs,V.aw]<;>first|omega|assumption) ?_))
  simp+contextual (disch:=first|omega|simp only[go_sem,false_implies]) only[go_sem,wrap64,if_pos,and_self]
  refine aH (fun h2=> ?_) (fun h2=> ?_)
  ·simp at h2
   obtain⟨x,hx⟩:=bt h2
   obtain⟨y,hy⟩:=bt (l:=b) (k:=k) (by omega)
   have hd:gz (a.drop k) (b.drop k)=(nG x y&&gz (a.drop (k+1)) (b.drop (k+1))):=by
    obtain⟨g1,g2⟩:=List.getElem?_eq_some_iff.1 hx
    obtain⟨g3,g4⟩:=List.getElem?_eq_some_iff.1 hy
    rw[List.drop_eq_getElem_cons g1,List.drop_eq_getElem_cons g3,g2,g4,gz]
   simp+contextual (disch:=first|omega|simp only[go_sem,false_implies]) only[go_sem,wrap64,if_pos,hx,hy,Nat.add_assoc,Nat.left_eq_add,Nat.add_eq_left,Nat.add_left_cancel_iff]
   refine ae (h x (List.mem_of_getElem? hx) y (List.mem_of_getElem? hy)) rfl ?_
   simp+contextual (disch:=first|omega|simp only[go_sem,false_implies]) only[go_sem,wrap64,if_pos,and_self]
   refine aH (fun h3=> ?_) (fun h3=> ?_)
   ·simp+contextual (disch:=first|omega|simp only[go_sem,false_implies]) only[go_sem,wrap64,if_pos,and_self]
    simp at h3
    have:gz a b=false:=by rw[hk.2,hd,h3];rfl
    rw[this]at hK
    refine hK _ _ (by omega) ?_ (fun j hj=>by(repeat(first|rfl|rw[aG]|rw[ay _ _ _ _ (by omega)])))
    exact(by repeat(first|exact hg.mono (by omega)|exact Good.nil|refine Good.aQ ?_ (by omega) rfl|refine Good.aQ ?_ (by omega) (uH _ _ _ (by omega))|refine Good.aQ ?_ (by omega) (by simp[aa.refs,V.aw,V.refs]<;>omega)))
   ·simp+contextual (disch:=first|omega|simp only[go_sem,false_implies]) only[go_sem,wrap64,if_pos,and_self]
    simp at h3
    refine aW (k+1) ⟨h2,by rw[hk.2,hd,h3];rfl⟩ (by omega) (cR.fE _ (Nat.le_refl _) (by omega) hg (fun j hj=>by(repeat(first|rfl|rw[aG]|rw[ay _ _ _ _ (by omega)]))) ?_)
    (repeat(first|exact aL|refine aK ?_|refine az rfl ?_|refine az (bT (bS (by omega))) ?_|refine aY rfl (by simp[V.refs,V.aw]<;>first|omega|assumption) ?_))
  ·simp+contextual (disch:=first|omega|simp only[go_sem,false_implies]) only[go_sem,wrap64,if_pos,and_self]
   simp at h2
   have:gz a b=true:=by rw[hk.2,List.drop_eq_nil_of_le h2];rfl
   rw[this]at hK
   exact hK _ _ (by omega) (hg.mono (by omega)) (fun _ _=>rfl)
theorem Cn(s:bX)(t:Tm)(hs:s.Fits)(ht:t.kids.length<=9223372036854775807):bJ Tryz.prog 93 [s.d,t.d] (.ret [.bool (jn s t)]):=by
 refine bJ.bg mix Ji (by simp) ?_
 rw[Qq]
 simp+contextual (disch:=first|omega|simp only[go_sem,false_implies]) only[go_sem,wrap64,if_pos,and_self]
 refine br (sF t) ?_
 rcases(by omega:t.op=16\/t.op=1\/(t.op≠16/\t.op≠1))with h|h|⟨h0,h1⟩
 ·have hn:jn s t=(t.n==0&&(t.kids.length:Int)==0):=by unfold jn;rw[if_pos h]
  rw[lookD_0 h]
  simp+contextual (disch:=first|omega|simp only[go_sem,false_implies]) only[go_sem,wrap64,if_pos,h,List.length_map]
  rw[hn]
 ·have hn:jn s t=(iI t.n 0 199&&(t.kids.length:Int)==0):=by unfold jn;rw[if_neg (by omega),if_pos h]
  rw[lookD_1 h]
  simp+contextual (disch:=first|omega|simp only[go_sem,false_implies]) only[go_sem,wrap64,if_pos,h]
  refine ae (kx _ _ _) rfl ?_
  simp+contextual (disch:=first|omega|simp only[go_sem,false_implies]) only[go_sem,wrap64,if_pos,h,List.length_map]
  rw[hn]
 rw[lookD_2 h0 h1]
 rcases(by omega:t.op=2\/t.op=3\/t.op=5\/(t.op≠2/\t.op≠3/\t.op≠5))with h|h|h|h
 ·have hn:jn s t=(iI t.n (-1000000) 1000000&&(t.kids.length:Int)==0):=by unfold jn;rw[if_neg (by omega),if_neg (by omega),if_pos h]
  simp+contextual (disch:=first|omega|simp only[go_sem,false_implies]) only[go_sem,wrap64,if_pos,h]
  refine ae (kx _ _ _) rfl ?_
  simp+contextual (disch:=first|omega|simp only[go_sem,false_implies]) only[go_sem,wrap64,if_pos,h,List.length_map]
  rw[hn]
 ·have hn:jn s t=(iI t.n 0 (s.cons.length - 1)&&(t.kids.length:Int)==jP s.cons t.n):=by unfold jn;rw[if_neg (by omega),if_neg (by omega),if_neg (by omega),if_pos h]
  simp+contextual (disch:=first|omega|simp only[go_sem,false_implies]) only[go_sem,wrap64,if_pos,h]
  rw[wrap64 (by have:=hs.lc;omega) (by have:=hs.lc;omega)]
  refine ej (kx _ _ _) rfl ?_
  cases hI:iI t.n 0 (s.cons.length - 1)with
  |false=>
   simp+contextual (disch:=first|omega|simp only[go_sem,false_implies]) only[go_sem,wrap64,if_pos,h,hI]
   refine cc (by decide) ?_
   simp+contextual (disch:=first|omega|simp only[go_sem,false_implies]) only[go_sem,wrap64,if_pos,h,hI]
   rw[hn,hI];rfl
  |true=>
   obtain⟨h0,x,hx⟩:=oe hI
   simp+contextual (disch:=first|omega|simp only[go_sem,false_implies]) only[go_sem,wrap64,if_pos,h,hI,hx,h0,List.length_map]
   refine cc (by decide) ?_
   simp+contextual (disch:=first|omega|simp only[go_sem,false_implies]) only[go_sem,wrap64,if_pos,h,hI]
   rw[hn,hI,je hx];rfl
 ·have hn:jn s t=(iI t.n 0 (s.dU.length - 1)&&decide ((t.kids.length:Int)<jP s.dU t.n)):=by unfold jn;rw[if_neg (by omega),if_neg (by omega),if_neg (by omega),if_neg (by omega),if_pos h]
  simp+contextual (disch:=first|omega|simp only[go_sem,false_implies]) only[go_sem,wrap64,if_pos,h]
  rw[wrap64 (by have:=hs.lf;omega) (by have:=hs.lf;omega)]
  refine ej (kx _ _ _) rfl ?_
  cases hI:iI t.n 0 (s.dU.length - 1)with
  |false=>
   simp+contextual (disch:=first|omega|simp only[go_sem,false_implies]) only[go_sem,wrap64,if_pos,h,hI]
   refine cc (by decide) ?_
   simp+contextual (disch:=first|omega|simp only[go_sem,false_implies]) only[go_sem,wrap64,if_pos,h,hI]
   rw[hn,hI];rfl
  |true=>
   obtain⟨h0,x,hx⟩:=oe hI
   simp+contextual (disch:=first|omega|simp only[go_sem,false_implies]) only[go_sem,wrap64,if_pos,h,hI,hx,h0,List.length_map]
   refine cc (by decide) ?_
   simp+contextual (disch:=first|omega|simp only[go_sem,false_implies]) only[go_sem,wrap64,if_pos,h,hI]
   rw[hn,hI,je hx];rfl
 ·have hn:jn s t=false:=by unfold jn;rw[if_neg h0,if_neg h1,if_neg h.1,if_neg h.2.1,if_neg h.2.2]
  have e3:(t.op==2)=false:=by simpa using h.1
  have e4:(t.op==3)=false:=by simpa using h.2.1
  have e5:(t.op==5)=false:=by simpa using h.2.2
  simp+contextual (disch:=first|omega|simp only[go_sem,false_implies]) only[go_sem,wrap64,if_pos,e3,e4,e5]
  refine cc (by decide) ?_
  simp+contextual (disch:=first|omega|simp only[go_sem,false_implies]) only[go_sem,wrap64,if_pos,and_self]
  rw[hn]
end Go.Proofs.YtpkobkdgcanmjaaGreat
namespace Go.Proofs.YtpkobkdgcanmjaaGreat
theorem AQ(n:Int)(x:D){o:Nat->aa}:cz Tryz.prog o .eql 100 false (.d (.iface 103 x)) (.d (.iface 104 (.i n)))=some (.d (.bool false),[],[]):=by kernel_rfl
theorem AR(m n:Int){o:Nat->aa}:cz Tryz.prog o .eql 100 false (.d (.iface 104 (.i m))) (.d (.iface 104 (.i n)))=some (.d (.bool (m==n)),[],[]):=by kernel_rfl
theorem AS(n:Int)(x:D){o:Nat->aa}:cz Tryz.prog o .eql 100 false (.d (.iface 105 x)) (.d (.iface 104 (.i n)))=some (.d (.bool false),[],[]):=by kernel_rfl
theorem pU{s:bX}:∀a:Tm,a.fits->Pn s a->∀b:Tm,b.fits->Pn s b->bJ Tryz.prog 42 [a.d,b.d] (.ret [.bool (nG a b)]):=by
 refine Tm.ja fun a ih ha pa b hb pb=> ?_
 have yO:=(Tm.bF _).1 ha
 have sW:=(Tm.bF _).1 hb
 refine bJ.bg mix IQ (by simp) ?_
 rw[PD,sD]
 simp+contextual (disch:=first|omega|simp only[go_sem,false_implies]) only[go_sem,wrap64,if_pos,and_self]
 refine br (sF a) ?_
 by_cases h:a.op=16
 ·rw[lookD_0 h,if_pos h]
  simp+contextual (disch:=first|omega|simp only[go_sem,false_implies]) only[go_sem,wrap64,if_pos,and_self]
 rw[if_neg h]
 by_cases h1:a.op=1
 ·have ka:=pa.bare (.inr (.inl h1))
  rw[lookD_1 h1]
  simp+contextual (disch:=first|omega|simp only[go_sem,false_implies]) only[go_sem,wrap64,if_pos,and_self]
  refine br (sF b) ?_
  by_cases CV:b.op=16
  ·rw[lookD_0 CV,if_pos (.inl (by omega))]
   simp+contextual (disch:=first|omega|simp only[go_sem,false_implies]) only[go_sem,wrap64,if_pos,AQ]
  by_cases uY:b.op=1
  ·have kb:=pb.bare (.inr (.inl uY))
   rw[lookD_1 uY]
   simp+contextual (disch:=first|omega|simp only[go_sem,false_implies]) only[go_sem,wrap64,if_pos,AR]
   by_cases e:a.n=b.n
   ·rw[if_neg (by rw[h1,uY,e,ka,kb];simp),ka,e]
    simp[gz]
   ·rw[if_pos (.inr (.inl e))]
    simp;exact fun h=>e h.symm
  ·rw[lookD_2 CV uY,if_pos (.inl (by omega))]
   simp+contextual (disch:=first|omega|simp only[go_sem,false_implies]) only[go_sem,wrap64,if_pos,AS]
 rw[lookD_2 h h1]
 by_cases e1:a.op=b.op
 ·have MN:(a.op==b.op)=true:=by simpa using e1
  by_cases e2:a.n=b.n
  ·have NC:(a.n==b.n)=true:=by simpa using e2
   simp+contextual (disch:=first|omega|simp only[go_sem,false_implies]) only[go_sem,wrap64,if_pos,MN,NC]
   refine dc (MM a.kids b.kids yO.1 sW.1 42 (fun x hx y hy=>ih x hx (yO.2 x hx) (pa.u0 hx) y (sW.2 y hy) (pb.u0 hy)) _ _ (by repeat(first|exact hg.mono (by omega)|exact Good.nil|refine Good.aQ ?_ (by omega) rfl|refine Good.aQ ?_ (by omega) (uH _ _ _ (by omega))|refine Good.aQ ?_ (by omega) (by simp[aa.refs,V.aw,V.refs]<;>omega))) _ _ fun o2 n2 m1 m2 m3=> ?_)
   simp+contextual (disch:=first|omega|simp only[go_sem,false_implies]) only[go_sem,wrap64,if_pos,MN,NC]
   by_cases e3:a.kids.length=b.kids.length
   ·rw[if_neg (by simp[e1,e2,e3])]
    simp[e3]
   ·rw[if_pos (.inr (.inr e3))]
    simp[e3]
  ·have NC:(a.n==b.n)=false:=by simpa using e2
   rw[if_pos (.inr (.inl e2))]
   simp+contextual (disch:=first|omega|simp only[go_sem,false_implies]) only[go_sem,wrap64,if_pos,MN,NC]
 ·have MN:(a.op==b.op)=false:=by simpa using e1
  rw[if_pos (.inl e1)]
  simp+contextual (disch:=first|omega|simp only[go_sem,false_implies]) only[go_sem,wrap64,if_pos,MN]
end Go.Proofs.YtpkobkdgcanmjaaGreat
namespace Go.Proofs.YtpkobkdgcanmjaaGreat
theorem uK{s:bX}:∀t:Tm,t.fits->Pn s t->bJ Tryz.prog 41 [t.d] (.ret [.i (uI t)]):=by
 refine Tm.ja fun t ih ht hp=> ?_
 have tk:=(Tm.bF _).1 ht
 refine bJ.bg mix IP (by simp) ?_
 rw[PC,AK]
 simp+contextual (disch:=first|omega|simp only[go_sem,false_implies]) only[go_sem,wrap64,if_pos,and_self]
 refine br (sF t) ?_
 by_cases h0:t.op=16
 ·rw[lookD_0 h0,if_pos h0]
  simp+contextual (disch:=first|omega|simp only[go_sem,false_implies]) only[go_sem,wrap64,if_pos,and_self]
 rw[if_neg h0]
 by_cases h1:t.op=1
 ·rw[lookD_1 h1,if_pos h1]
  simp+contextual (disch:=first|omega|simp only[go_sem,false_implies]) only[go_sem,wrap64,if_pos,and_self]
 rw[if_neg h1,lookD_2 h0 h1]
 simp+contextual (disch:=first|omega|simp only[go_sem,false_implies]) only[go_sem,wrap64,if_pos,List.length_map]
 refine bN (fun i:Nat×Int=>⟨bD [.ak, .ak, .ak, .d (.i i.2), .ak, .ak, .ak, .ak, .ak, .ak, .ak, .ak, .ak, .ak, .ak, .ak, .ak, .ak, .ak, .ak, .ak, .d (.sl (t.kids.map Tm.d)), .d (.i t.kids.length), .d (.i i.1)],aQ (fun _=> .no) 0 (.row t.row),1⟩)
  (fun i=>i.1<=t.kids.length/\nU t.kids 2=nU (t.kids.drop i.1) i.2/\0<=i.2/\i.2<=2) (fun i=>t.kids.length - i.1) (0,2) ⟨Nat.zero_le _,rfl,by decide,by decide⟩ ?_ ?_
 ·dsimp only
  refine cR.fE _ (by omega) (by omega) (by repeat(first|exact hg.mono (by omega)|exact Good.nil|refine Good.aQ ?_ (by omega) rfl|refine Good.aQ ?_ (by omega) (uH _ _ _ (by omega))|refine Good.aQ ?_ (by omega) (by simp[aa.refs,V.aw,V.refs]<;>omega))) (fun j hj=> ?_) ?_
  ·(repeat(first|rfl|rw[aG]|rw[ay _ _ _ _ (by omega)]))
  ·(repeat(first|exact aL|refine aK ?_|refine az rfl ?_|refine az (bT (bS (by omega))) ?_|refine aY rfl (by simp[V.refs,V.aw]<;>first|omega|assumption) ?_))
 rintro⟨i,m⟩ ⟨hi,hk,m0,m2⟩
 simp only at hi hk m0 m2
 simp+contextual (disch:=first|omega|simp only[go_sem,false_implies]) only[go_sem,wrap64,if_pos,List.length_map]
 refine aH (fun h5=> ?_) (fun h5=> ?_)
 ·simp at h5
  obtain⟨x,hx⟩:=bt h5
  have jk:=List.mem_of_getElem? hx
  have Na:=(AL x (hp.u0 jk)).1
  have hd:t.kids.drop i=x::t.kids.drop (i+1):=by
   obtain⟨g1,g2⟩:=List.getElem?_eq_some_iff.1 hx
   rw[List.drop_eq_getElem_cons g1,g2]
  rw[hd,nU]at hk
  have QF:(if uI x<m then uI x else m)=min m (uI x):=by rw[Int.min_def];split<;>split<;>omega
  simp+contextual (disch:=first|omega|simp only[go_sem,false_implies]) only[go_sem,wrap64,if_pos,hx,List.length_map]
  refine ae (ih x jk (tk.2 x jk) (hp.u0 jk)) rfl ?_
  simp+contextual (disch:=first|omega|simp only[go_sem,false_implies]) only[go_sem,wrap64,if_pos,List.length_map]
  first
   |rw[QF]
   |skip
  refine aW (i+1,min m (uI x)) ⟨h5,hk,by dsimp only;omega,by dsimp only;omega⟩ (by dsimp only;omega) (cR.fE _ (by omega) (by omega) (by repeat(first|exact hg.mono (by omega)|exact Good.nil|refine Good.aQ ?_ (by omega) rfl|refine Good.aQ ?_ (by omega) (uH _ _ _ (by omega))|refine Good.aQ ?_ (by omega) (by simp[aa.refs,V.aw,V.refs]<;>omega))) (fun j hj=> ?_) ?_)
  ·(repeat(first|rfl|rw[aG]|rw[ay _ _ _ _ (by omega)]))
  ·(repeat(first|exact aL|refine aK ?_|refine az rfl ?_|refine az (bT (bS (by omega))) ?_|refine aY rfl (by simp[V.refs,V.aw]<;>first|omega|assumption) ?_))
 ·simp at h5
  simp+contextual (disch:=first|omega|simp only[go_sem,false_implies]) only[go_sem,wrap64,if_pos,List.length_map]
  rw[List.drop_eq_nil_of_le h5]at hk
  rw[hk];rfl
end Go.Proofs.YtpkobkdgcanmjaaGreat
namespace Go.Proofs.YtpkobkdgcanmjaaGreat
def qh{σ:Type}(step:σ->Tm->σ×Bool):σ->List Tm->Int->Int
 |_,[],_=> -1
 |s,x::l,k=>if(step s x).2=true then qh step (step s x).1 l (k+1)else k
theorem xj{σ:Type}(step:σ->Tm->σ×Bool):∀ (l:List Tm) (s:σ) (k:Int),0<=k->(0<=qh step s l k↔(cd step s l).2=false)
 |[],_,_,_=>by simp[qh,cd]
 |x::l,s,k,hk=>by
  have ih:=xj step l (step s x).1 (k+1) (by omega)
  by_cases h:(step s x).2=true
  ·simp only[qh,cd,h,if_true];exact ih
  ·simp[qh,cd,h,hk]
theorem Ft{σ:Type}(l:List Tm)(hl:l.length<=9223372036854775807)(g:Nat)(cj:List V)(base:Nat)(H:σ->Nat->aa)(step:σ->Tm->σ×Bool)(hc:∀r∈V.aw cj,r<base)(ok:σ->Prop)(ba:∀x∈l,∀s,ok s->(step s x).2=true->ok (step s x).1)
 (h:∀x∈l,∀s,ok s->sM Tryz.prog g (.d x.d::cj) base (H s) (H (step s x).1) (.d (.bool (!(step s x).2)))) (s:σ) (rJ:ok s):
 sM Tryz.prog 109 [.d (.sl (l.map Tm.d)), .func (.func g) [] cj] base (H s) (H (cd step s l).1) (.d (.i (qh step s l 0))):=by
 intro o nx hI K X hK
 have rp:∀r∈V.aw cj,r<nx:=fun r hr=>Nat.lt_of_lt_of_le (hc r hr) hI.le
 refine ft.bg mix DD (by simp) ?_
 rw[Ff]
 simp+contextual only[go_sem]
 refine bN (fun i:Nat×σ×(Nat->aa)×Nat=>⟨bD [.d (.sl (l.map Tm.d)), .func (.func g) [] cj, .ak, .ak, .ak, .ak, .ak, .d (.i l.length), .d (.i i.1)],i.2.2.1,i.2.2.2⟩)
  (fun i=>i.1<=l.length/\jX base (H i.2.1) i.2.2.1 i.2.2.2/\nx<=i.2.2.2/\(∀id,base<=id->id<nx->i.2.2.1 id=o id)/\cd step s l=cd step i.2.1 (l.drop i.1)/\ok i.2.1/\qh step s l 0=qh step i.2.1 (l.drop i.1) i.1) (fun i=>l.length - i.1) (0,s,o,nx)
  ⟨Nat.zero_le _,hI,Nat.le_refl _,fun _ _ _=>rfl,rfl,rJ,rfl⟩ ?_ ?_
 ·dsimp only
  refine cR.fE _ (Nat.le_refl _) (by omega) hI.eH (fun _ _=>rfl) ?_
  (repeat(first|exact aL|refine aK ?_|refine az rfl ?_|refine az (bT (bS (by omega))) ?_|refine aY rfl (by simp[V.refs,V.aw]<;>first|omega|assumption) ?_))
 rintro⟨k,s',o',nx'⟩ ⟨hk,DE,hn,c0,hf,vY,AU⟩
 simp only at hk DE hn c0 hf vY AU
 simp+contextual only[go_sem]
 refine aH (fun h1=> ?_) (fun h1=> ?_)
 ·simp at h1
  obtain⟨x,hx⟩:=bt h1
  have jk:=List.mem_of_getElem? hx
  have hd:l.drop k=x::l.drop (k+1):=by
   rw[List.drop_eq_getElem_cons h1]
   rw[List.getElem?_eq_getElem h1]at hx;injection hx with hx;rw[hx]
  rw[hd]at hf AU
  simp only[cd,qh]at hf AU
  simp+contextual only[go_sem,hx,Nat.add_assoc,Nat.left_eq_add,Nat.add_eq_left,Nat.add_left_cancel_iff]
  refine jM (h x jk s' vY _ _ (DE.mono (by omega)) _ _ fun o2 n2 m1 m2 m3=> ?_)
  cases hb:(step s' x).2 with
  |true=>
   rw[hb]at hf AU
   simp only[if_true]at hf AU
   simp+contextual (disch:=first|omega|simp only[go_sem,false_implies]) only[go_sem,wrap64,if_pos,and_self]
   have MI:∀r∈V.aw cj,r<n2+1+1:=fun r hr=>by have:=rp r hr;omega
   refine aW (k+1,(step s' x).1,o2,n2+1+1) ⟨h1,m2.mono (show n2<=n2+1+1 by omega),(show nx<=n2+1+1 by omega),fun id i1 i2=>(m3 id i1 (by omega)).trans (c0 id i1 i2),hf,ba x jk s' vY hb,by rw[AU];rfl⟩ (by dsimp only;omega) (cR.fE _ (show nx<=n2+1+1 by omega) (Nat.le_refl _) (m2.mono (show n2<=n2+1+1 by omega)).eH (fun _ _=>rfl) ?_)
   (repeat(first|exact aL|refine aK ?_|refine az rfl ?_|refine az (bT (bS (by omega))) ?_|refine aY rfl (by simp[V.refs,V.aw]<;>first|omega|assumption) ?_))
  |false=>
   rw[hb]at hf AU
   simp only[Bool.false_eq_true,if_false]at hf AU
   simp+contextual only[go_sem]
   rw[hf,AU]at hK
   exact hK _ _ (by omega) (m2.mono (by omega)) fun id i1 i2=>(m3 id i1 (by omega)).trans (c0 id i1 i2)
 ·simp at h1
  simp+contextual only[go_sem]
  rw[List.drop_eq_nil_of_le h1]at hf AU
  rw[hf,AU]at hK
  exact hK _ _ (by omega) (DE.mono (by omega)) c0
end Go.Proofs.YtpkobkdgcanmjaaGreat
namespace Go.Proofs.YtpkobkdgcanmjaaGreat
theorem uL{σ:Type}(l:List Tm)(hl:l.length<=9223372036854775807)(g:Nat)(cj:List V)(base:Nat)(H:σ->Nat->aa)(step:σ->Tm->σ×Bool)(hc:∀r∈V.aw cj,r<base)(ok:σ->Prop)(ba:∀x∈l,∀s,ok s->(step s x).2=true->ok (step s x).1)
 (h:∀x∈l,∀s,ok s->sM Tryz.prog g (.d x.d::cj) base (H s) (H (step s x).1) (.d (.bool (!(step s x).2)))) (s:σ) (rJ:ok s):
 sM Tryz.prog 91 [.d (.sl (l.map Tm.d)), .func (.func g) [] cj] base (H s) (H (cd step s l).1) (.d (.bool (!(cd step s l).2))):=by
 intro o nx hI K X hK
 have rp:∀r∈V.aw cj,r<nx:=fun r hr=>Nat.lt_of_lt_of_le (hc r hr) hI.le
 refine ft.bg mix Jg (by simp) ?_
 rw[Qo]
 simp+contextual (disch:=first|omega|simp only[go_sem,false_implies]) only[go_sem,wrap64,if_pos,Nat.add_assoc,Nat.left_eq_add,Nat.add_eq_left,Nat.add_left_cancel_iff]
 refine dc (Ft l hl g cj base H step hc ok ba h s rJ _ _ ?_ _ _ fun o2 n2 m1 m2 m3=> ?_)
 ·exact hI.mono (by omega)
 simp+contextual (disch:=first|omega|simp only[go_sem,false_implies]) only[go_sem,wrap64,if_pos,Nat.add_assoc,Nat.left_eq_add,Nat.add_eq_left,Nat.add_left_cancel_iff]
 have e:decide (0<=qh step s l 0)= !(cd step s l).2:=by
  have:=xj step l s 0 (by omega)
  rw[Bool.eq_iff_iff,decide_eq_true_eq,this]
  cases(cd step s l).2<;>simp
 rw[e]
 exact hK _ _ (by omega) (m2.mono (by omega)) fun id i1 i2=>m3 id i1 (by omega)
theorem QG{x:Tm}{g:Nat}{cj:List V}{base c bx:Nat}{h h2 O:Nat->aa}{r:Bool}(hS:sM Tryz.prog g (.d x.d::cj) base h h2 (.d (.bool r)))(hb:base<=bx)(TA:bx<c)(hO:O bx= .row [.func (.func g) [] cj])(hc:∀r∈V.aw cj,r<base):
 sM Tryz.prog 92 [.d x.d, .ptr bx 0] c (ext base h O) (ext base h2 O) (.d (.bool (!r))):=by
 intro o nx hI K X hK
 have hle:=hI.le
 have rp:∀r∈V.aw cj,r<nx:=fun r hr=>by have:=hc r hr;omega
 have ho:o bx= .row [.func (.func g) [] cj]:=by
  rw[hI.eq bx TA];unfold ext;rw[if_neg (by omega),hO]
 have y1:∀k,bx≠nx+k:=fun k=>by omega
 have y2:bx≠nx:=by omega
 refine ft.bg mix Jh (by simp) ?_
 rw[Qp]
 simp+contextual (disch:=first|omega|simp only[go_sem,false_implies]) only[go_sem,wrap64,if_pos,ho,y1,y2,Nat.add_assoc,Nat.left_eq_add,Nat.add_eq_left,Nat.add_left_cancel_iff]
 refine jM ((hS.ext (by omega:base<=c) O) _ _ ?_ _ _ fun o2 n2 m1 m2 m3=> ?_)
 ·exact hI.aQ (by omega) (by omega) (by omega) rfl
 simp+contextual (disch:=first|omega|simp only[go_sem,false_implies]) only[go_sem,wrap64,if_pos,Nat.add_assoc,Nat.left_eq_add,Nat.add_eq_left,Nat.add_left_cancel_iff]
 exact hK _ _ (by omega) (m2.mono (by omega)) fun id i1 i2=>by rw[m3 id i1 (by omega),ay _ _ _ _ (by omega)]
theorem ra{σ:Type}(l:List Tm)(hl:l.length<=9223372036854775807)(g:Nat)(cj:List V)(base:Nat)(H:σ->Nat->aa)(step:σ->Tm->σ×Bool)(hc:∀r∈V.aw cj,r<base)(ok:σ->Prop)(ba:∀x∈l,∀s,ok s->(step s x).2=true->ok (step s x).1)
 (h:∀x∈l,∀s,ok s->sM Tryz.prog g (.d x.d::cj) base (H s) (H (step s x).1) (.d (.bool (step s x).2))) (s:σ) (rJ:ok s):
 sM Tryz.prog 66 [.d (.sl (l.map Tm.d)), .func (.func g) [] cj] base (H s) (H (cd step s l).1) (.d (.bool (cd step s l).2)):=by
 intro o nx hI K X hK
 have hle:=hI.le
 have rp:∀r∈V.aw cj,r<nx:=fun r hr=>Nat.lt_of_lt_of_le (hc r hr) hI.le
 refine ft.bg mix I5 (by simp) ?_
 rw[P1]
 simp+contextual (disch:=first|omega|simp only[go_sem,false_implies]) only[go_sem,wrap64,if_pos,Nat.add_assoc,Nat.left_eq_add,Nat.add_eq_left,Nat.add_left_cancel_iff]
 refine dc (uL l hl 92 [.ptr nx 0] (nx+1) (fun s=>ext base (H s) (aQ o nx (.row [.func (.func g) [] cj]))) step (by simp[V.aw,V.refs]) ok ba (fun x hx s hs=>QG (h x hx s hs) hle (by omega) (aG _ _ _) hc) s rJ _ _ ?_ _ _ fun o2 n2 m1 m2 m3=> ?_)
 ·have hr:(aa.row [V.func (.func g) [] cj]).refs.all (fun r=>decide (r<nx+4))=true:=by
   rw[List.all_eq_true]
   intro r hr
   have h1:r∈V.aw cj:=by simpa[aa.refs,V.aw,V.refs]using hr
   have:=rp r h1
   simp;omega
  exact(hI.aQ (by omega) (by omega) (by omega) hr).ext (by omega) (by omega)
 simp+contextual (disch:=first|omega|simp only[go_sem,false_implies]) only[go_sem,wrap64,if_pos,Nat.add_assoc,Nat.left_eq_add,Nat.add_eq_left,Nat.add_left_cancel_iff]
 refine hK _ _ (by omega) ⟨(m2.mono (by omega)).eH,by have:=m2.le;omega,fun id ah=> ?_⟩ fun id i1 i2=> ?_
 ·rw[m2.eq id (by omega)];unfold ext;rw[if_pos ah]
 ·rw[m2.eq id (by omega)];unfold ext;rw[if_neg (by omega),ay _ _ _ _ (by omega)]
end Go.Proofs.YtpkobkdgcanmjaaGreat
namespace Go.Proofs.YtpkobkdgcanmjaaGreat
def xk(s:bX)(d:Int)(left:Int)(k:Tm):Int×Bool:=((p6 s k left d).2,(p6 s k left d).1)
theorem uM(s:bX)(d:Int):∀ (l:List Tm) (left:Int),cd (xk s d) left l=((m9 s l left d).2,(m9 s l left d).1)
 |[],_=>by simp[cd,m9]
 |k::l,left=>by
  have ih:=uM s d l (p6 s k left d).2
  by_cases h:(p6 s k left d).1=true
  ·simp only[cd,m9,xk,h,if_true];exact ih
  ·simp[cd,m9,xk,h]
def TC(s:bX)(t:Tm):Prop:=∀ (left d:Int), -1000000<=left/\left<=1000000-> -1000<=d/\d<=1000->∀ (base lp:Nat) (h:Nat->aa),lp<base->
    sM Tryz.prog 70 [.d s.d, .d t.d, .ptr lp 0, .d (.i d)] base (aQ h lp (.row [.d (.i left)])) (aQ h lp (.row [.d (.i (p6 s t left d).2)])) (.d (.bool (p6 s t left d).1))
theorem yD(s:bX)(hs:s.Fits):∀t:Tm,t.fits->TC s t:=by
 refine Tm.ja fun t ih ht=> ?_
 have tk:=(Tm.bF _).1 ht
 intro left d hl hd base lp h Si o nx hI K X hK
 have hle:=hI.le
 have ho:o lp= .row [.d (.i left)]:=by rw[hI.eq lp Si,aG]
 have y1:∀k,lp≠nx+k:=fun k=>by omega
 have y2:lp≠nx:=by omega
 rw[AH]at hK
 have fin:∀ (o':Nat->aa) (n':Nat) (v:Int),nx<=n'->Good o' n'->o' lp= .row [.d (.i v)]->(∀j,j<nx->j≠lp->o' j=o j)->jX base (aQ h lp (.row [.d (.i v)])) o' n'/\∀id,base<=id->id<nx->o' id=o id:=fun o' n' v k1 k2 k3 k4=>by
  refine⟨⟨k2,by omega,fun id ah=> ?_⟩,fun id i1 i2=>k4 id i2 (by omega)⟩
  by_cases e:id=lp
  ·subst e;rw[k3,aG]
  ·rw[k4 id (by omega) e,hI.eq id ah,ay _ _ _ _ e,ay _ _ _ _ e]
 have hg:=hI.eH
 refine ft.bg mix I9 (by simp) ?_
 rw[P5]
 simp+contextual (disch:=first|omega|simp only[go_sem,false_implies]) only[go_sem,wrap64,if_pos,ho,y1,y2,Nat.add_assoc,Nat.left_eq_add,Nat.add_eq_left,Nat.add_left_cancel_iff]
 by_cases h1:left - 1<0
 ·have jf:decide (0<=left - 1)=false:=by simp;omega
  rw[if_pos (.inl h1)]at hK
  simp+contextual (disch:=first|omega|simp only[go_sem,false_implies]) only[go_sem,wrap64,if_pos,jf,ho,y1,y2,Nat.add_assoc,Nat.left_eq_add,Nat.add_eq_left,Nat.add_left_cancel_iff]
  refine(fun q=>hK _ _ (by omega) (And.left q) (And.right q)) (fin _ (nx+31) (left - 1) (by omega) ?_ (aG _ _ _) fun j j1 j2=> ?_)
  ·exact(by repeat(first|exact hg.mono (by omega)|exact Good.nil|refine Good.aQ ?_ (by omega) rfl|refine Good.aQ ?_ (by omega) (uH _ _ _ (by omega))|refine Good.aQ ?_ (by omega) (by simp[aa.refs,V.aw,V.refs]<;>omega)))
  ·(repeat(first|rfl|rw[aG]|rw[ay _ _ _ _ (by omega)]))
 have jf:decide (0<=left - 1)=true:=by simp;omega
 by_cases h2:d<=0
 ·have tl:decide (0<d)=false:=by simpa using h2
  rw[if_pos (.inr (.inl h2))]at hK
  simp+contextual (disch:=first|omega|simp only[go_sem,false_implies]) only[go_sem,wrap64,if_pos,jf,tl,ho,y1,y2,Nat.add_assoc,Nat.left_eq_add,Nat.add_eq_left,Nat.add_left_cancel_iff]
  refine(fun q=>hK _ _ (by omega) (And.left q) (And.right q)) (fin _ (nx+31) (left - 1) (by omega) ?_ (aG _ _ _) fun j j1 j2=> ?_)
  ·exact(by repeat(first|exact hg.mono (by omega)|exact Good.nil|refine Good.aQ ?_ (by omega) rfl|refine Good.aQ ?_ (by omega) (uH _ _ _ (by omega))|refine Good.aQ ?_ (by omega) (by simp[aa.refs,V.aw,V.refs]<;>omega)))
  ·(repeat(first|rfl|rw[aG]|rw[ay _ _ _ _ (by omega)]))
 have tl:decide (0<d)=true:=by simp;omega
 simp+contextual (disch:=first|omega|simp only[go_sem,false_implies]) only[go_sem,wrap64,if_pos,jf,tl,ho,y1,y2,Nat.add_assoc,Nat.left_eq_add,Nat.add_eq_left,Nat.add_left_cancel_iff]
 refine ae (Cn s t hs tk.1) rfl ?_
 cases hn:jn s t with
 |false=>
  rw[if_pos (.inr (.inr hn))]at hK
  simp+contextual (disch:=first|omega|simp only[go_sem,false_implies]) only[go_sem,wrap64,if_pos,jf,tl,ho,y1,y2,Nat.add_assoc,Nat.left_eq_add,Nat.add_eq_left,Nat.add_left_cancel_iff]
  refine(fun q=>hK _ _ (by omega) (And.left q) (And.right q)) (fin _ (nx+31) (left - 1) (by omega) ?_ (aG _ _ _) fun j j1 j2=> ?_)
  ·exact(by repeat(first|exact hg.mono (by omega)|exact Good.nil|refine Good.aQ ?_ (by omega) rfl|refine Good.aQ ?_ (by omega) (uH _ _ _ (by omega))|refine Good.aQ ?_ (by omega) (by simp[aa.refs,V.aw,V.refs]<;>omega)))
  ·(repeat(first|rfl|rw[aG]|rw[ay _ _ _ _ (by omega)]))
 |true=>
  rw[if_neg (by rw[hn];simp;omega)]at hK
  simp+contextual (disch:=first|omega|simp only[go_sem,false_implies]) only[go_sem,wrap64,if_pos,jf,tl,ho,y1,y2,Nat.add_assoc,Nat.left_eq_add,Nat.add_eq_left,Nat.add_left_cancel_iff]
  have G7:=uM s (d - 1) t.kids (left - 1)
  have TD:∀ (O:Nat->aa) (k:Tm) (v:Int),k∈t.kids-> -1000000<=v/\v<=1000000->O nx= .row s.row->O (nx+2)= .row [.ptr lp 0]->O (nx+3)= .row [.d (.i d)]->
   sM Tryz.prog 94 [.d k.d, .ptr nx 0, .ptr (nx+2) 0, .ptr (nx+3) 0] (nx+4) (ext base (aQ h lp (.row [.d (.i v)])) O) (ext base (aQ h lp (.row [.d (.i (p6 s k v (d - 1)).2)])) O) (.d (.bool (p6 s k v (d - 1)).1)):=by
   intro O k v hk hv p0 p2 p3 o2 n2 DZ K2 X2 TE
   have Hb:=DZ.le
   have r0:o2 nx= .row s.row:=by rw[DZ.eq nx (by omega)];unfold ext;rw[if_neg (by omega),p0]
   have r2:o2 (nx+2)= .row [.ptr lp 0]:=by rw[DZ.eq _ (by omega)];unfold ext;rw[if_neg (by omega),p2]
   have r3:o2 (nx+3)= .row [.d (.i d)]:=by rw[DZ.eq _ (by omega)];unfold ext;rw[if_neg (by omega),p3]
   have z0:∀j,nx≠n2+j:=fun j=>by omega
   have z2:∀j,nx+2≠n2+j:=fun j=>by omega
   have z3:∀j,nx+3≠n2+j:=fun j=>by omega
   have z4:nx≠n2/\nx+2≠n2/\nx+3≠n2:=by omega
   refine ft.bg mix Jj (by simp) ?_
   rw[Qr]
   simp+contextual (disch:=first|omega|simp only[go_sem,false_implies]) only[go_sem,wrap64,if_pos,r0,r2,r3,z0,z2,z3,z4.1,z4.2.1,z4.2.2,Nat.add_assoc,Nat.left_eq_add,Nat.add_eq_left,Nat.add_left_cancel_iff]
   refine dc ((ih k hk (tk.2 k hk) v (d - 1) hv (by omega) base lp h Si).ext (by omega:base<=nx+4) O _ _ ?_ _ _ fun o3 n3 m1 m2 m3=> ?_)
   ·exact DZ.aQ (by omega) (by omega) (by omega) rfl
   simp+contextual (disch:=first|omega|simp only[go_sem,false_implies]) only[go_sem,wrap64,if_pos,Nat.add_assoc,Nat.left_eq_add,Nat.add_eq_left,Nat.add_left_cancel_iff]
   exact TE _ _ (by omega) (m2.mono (by omega)) fun id i1 i2=>by rw[m3 id i1 (by omega),ay _ _ _ _ (by omega)]
  refine dc (ft.gen fun O hO=> ?_)
  have p0:O nx= .row s.row:=by rw[hO];(repeat(first|rfl|rw[aG]|rw[ay _ _ _ _ (by omega)]))
  have p2:O (nx+2)= .row [.ptr lp 0]:=by rw[hO];(repeat(first|rfl|rw[aG]|rw[ay _ _ _ _ (by omega)]))
  have p3:O (nx+3)= .row [.d (.i d)]:=by rw[hO];(repeat(first|rfl|rw[aG]|rw[ay _ _ _ _ (by omega)]))
  obtain⟨TF,c0⟩:=fin O (nx+28) (left - 1) (by omega) (by rw[hO];exact(by repeat(first|exact hg.mono (by omega)|exact Good.nil|refine Good.aQ ?_ (by omega) rfl|refine Good.aQ ?_ (by omega) (uH _ _ _ (by omega))|refine Good.aQ ?_ (by omega) (by simp[aa.refs,V.aw,V.refs]<;>omega)))) (by rw[hO];exact aG _ _ _) (fun j j1 j2=>by rw[hO];(repeat(first|rfl|rw[aG]|rw[ay _ _ _ _ (by omega)])))
  refine ra t.kids tk.1 94 [.ptr nx 0, .ptr (nx+2) 0, .ptr (nx+3) 0] (nx+4) (fun v=>ext base (aQ h lp (.row [.d (.i v)])) O) (xk s (d - 1)) (by simp[V.aw,V.refs]) (fun v:Int=> -1000000<=v/\v<=1000000) (fun k hk v hv lB=> ?_) (fun k hk v hv=>TD O k v hk hv p0 p2 p3) (left - 1) (by omega) O (nx+28) (TF.ext (by omega) (by omega)) _ _ fun o2 n2 m1 m2 m3=> ?_
  ·obtain⟨h5,h6⟩:=AJ s k v (d - 1)
   have e:=h6 lB
   rw[show(p6 s k v (d - 1)).1=true from lB]at h5
   have h7:=h5.symm
   rw[Bool.and_eq_true,decide_eq_true_eq]at h7
   show -1000000<=(p6 s k v (d - 1)).2/\(p6 s k v (d - 1)).2<=1000000
   rw[e];omega
  ·rw[G7]at m2|-
   simp+contextual (disch:=first|omega|simp only[go_sem,false_implies]) only[go_sem,wrap64,if_pos,Nat.add_assoc,Nat.left_eq_add,Nat.add_eq_left,Nat.add_left_cancel_iff]
   refine hK _ _ (by omega) ⟨(m2.mono (by omega)).eH,by have:=m2.le;omega,fun id ah=> ?_⟩ fun id i1 i2=> ?_
   ·rw[m2.eq id (by omega)];unfold ext;rw[if_pos ah]
   ·rw[m2.eq id (by omega)];unfold ext;rw[if_neg (by omega),c0 id i1 i2]
end Go.Proofs.YtpkobkdgcanmjaaGreat
namespace Go.Proofs.YtpkobkdgcanmjaaGreat
theorem xl(s:bX)(hs:s.Fits)(t:Tm)(ht:t.fits):bJ Tryz.prog 44 [s.d,t.d] (.ret [.bool (qg s t)]):=by
 refine bJ.bg mix IV (by simp) ?_
 rw[PF]
 simp+contextual (disch:=first|omega|simp only[go_sem,false_implies]) only[go_sem,wrap64,if_pos,Nat.add_assoc,Nat.left_eq_add,Nat.add_eq_left,Nat.add_left_cancel_iff]
 refine dc ((yD s hs t ht) 80 30 (by omega) (by omega) 4 3 (aQ (aQ (fun _=> .no) 0 (.row s.row)) 1 (.row t.row)) (by omega) _ _ ⟨(by repeat(first|exact hg.mono (by omega)|exact Good.nil|refine Good.aQ ?_ (by omega) rfl|refine Good.aQ ?_ (by omega) (uH _ _ _ (by omega))|refine Good.aQ ?_ (by omega) (by simp[aa.refs,V.aw,V.refs]<;>omega))),by omega,fun id ah=> ?_⟩ _ _ fun o2 n2 m1 m2 m3=> ?_)
 ·exact(by simp only[aQ]<;>((repeat' split)<;>first|rfl|omega|(subst_vars;first|rfl|assumption|(symm;assumption)|omega|(simp_all;done))))
 simp+contextual (disch:=first|omega|simp only[go_sem,false_implies]) only[go_sem,wrap64,if_pos,Nat.add_assoc,Nat.left_eq_add,Nat.add_eq_left,Nat.add_left_cancel_iff]
 rw[ML]
theorem AV(s:bX)(hs:s.Fits)(x:Tm)(hx:x.fits)(base sp:Nat)(h:Nat->aa)(FB:h sp= .row s.row)(hb:sp<base):
 sM Tryz.prog 67 [.d x.d, .ptr sp 0] base h h (.d (.bool (qg s x))):=by
 intro o nx hI K X hK
 have hle:=hI.le
 have ho:o sp= .row s.row:=by rw[hI.eq sp hb,FB]
 have y1:∀k,sp≠nx+k:=fun k=>by omega
 have y2:sp≠nx:=by omega
 refine ft.bg mix I6 (by simp) ?_
 rw[P2]
 simp+contextual (disch:=first|omega|simp only[go_sem,false_implies]) only[go_sem,wrap64,if_pos,ho,y1,y2,Nat.add_assoc,Nat.left_eq_add,Nat.add_eq_left,Nat.add_left_cancel_iff]
 refine ae (xl s hs x hx) rfl ?_
 simp+contextual (disch:=first|omega|simp only[go_sem,false_implies]) only[go_sem,wrap64,if_pos,Nat.add_assoc,Nat.left_eq_add,Nat.add_eq_left,Nat.add_left_cancel_iff]
 exact hK _ _ (by omega) (hI.aQ (by omega) (by omega) (by omega) rfl) fun id i1 i2=>by rw[ay _ _ _ _ (by omega)]
theorem uN{α:Type}(f:α->Bool):∀l:List α,cd (fun(_:Unit) x=>((),f x)) () l=((),l.all f)
 |[]=>rfl
 |x::l=>by
  have ih:=uN f l
  cases h:f x<;>simp[cd,h,ih]
def bd(s:bX)(l:List Tm):Bool:=ml s&&l.all (qg s)
theorem na(s:bX)(hs:s.Fits)(l:List Tm)(hl:l.length<=1000000)(hf:∀t∈l,t.fits):bJ Tryz.prog 40 [s.d, .sl (l.map Tm.d)] (.ret [.bool (bd s l)]):=by
 refine bJ.bg mix IM (by simp) ?_
 rw[PB]
 simp+contextual (disch:=first|omega|simp only[go_sem,false_implies]) only[go_sem,wrap64,if_pos,and_self]
 refine ae (vZ s hs) rfl ?_
 cases h1:ml s with
 |false=>simp+contextual (disch:=first|omega|simp only[go_sem,false_implies]) only[go_sem,wrap64,if_pos,eT];simp[bd,h1]
 |true=>
  simp+contextual (disch:=first|omega|simp only[go_sem,false_implies]) only[go_sem,wrap64,if_pos,eT]
  refine dc (ra (σ:=Unit) l (by omega) 67 [.ptr 0 0] 1 (fun _=>aQ (fun _=> .no) 0 (.row s.row)) (fun _ x=>((),qg s x)) (by simp[V.aw,V.refs]) (fun _=>True) (fun _ _ _ _ _=>trivial) (fun x hx _ _=>AV s hs x (hf x hx) 1 0 _ (aG _ _ _) (by omega)) () trivial _ _ ⟨(by repeat(first|exact hg.mono (by omega)|exact Good.nil|refine Good.aQ ?_ (by omega) rfl|refine Good.aQ ?_ (by omega) (uH _ _ _ (by omega))|refine Good.aQ ?_ (by omega) (by simp[aa.refs,V.aw,V.refs]<;>omega))),by omega,fun id ah=> ?_⟩ _ _ fun o2 n2 m1 m2 m3=> ?_)
  ·exact(by simp only[aQ]<;>((repeat' split)<;>first|rfl|omega|(subst_vars;first|rfl|assumption|(symm;assumption)|omega|(simp_all;done))))
  rw[uN]
  simp+contextual (disch:=first|omega|simp only[go_sem,false_implies]) only[go_sem,wrap64,if_pos,Nat.add_assoc,Nat.left_eq_add,Nat.add_eq_left,Nat.add_left_cancel_iff]
  simp[bd,h1]
theorem v7(s:bX)(hs:s.Fits)(t:Tm)(ht:t.fits):bJ Tryz.prog 9 [s.d,t.d] (.ret [.bool (bd s [t]&&decide (1<=uI t)), .bool (bd s [t]&&uI t==2), .i (eT (bd s [t]))]):=by
 refine bJ.bg mix Ro (by simp) ?_
 rw[c9]
 simp+contextual (disch:=first|omega|simp only[go_sem,false_implies]) only[go_sem,wrap64,if_pos,and_self]
 refine ae (na s hs [t] (by simp) (fun x hx=>by simp at hx;subst hx;exact ht)) rfl ?_
 cases h1:bd s [t]with
 |false=>simp+contextual (disch:=first|omega|simp only[go_sem,false_implies]) only[go_sem,wrap64,if_pos,eT]
 |true=>
  have hp:Pn s t:=by
   simp[bd,qg]at h1
   exact h1.2.2
  simp+contextual (disch:=first|omega|simp only[go_sem,false_implies]) only[go_sem,wrap64,if_pos,eT]
  refine ej (uK t ht hp) rfl ?_
  simp+contextual (disch:=first|omega|simp only[go_sem,false_implies]) only[go_sem,wrap64,if_pos,eT]
  refine ej (uK t ht hp) rfl ?_
  simp+contextual (disch:=first|omega|simp only[go_sem,false_implies]) only[go_sem,wrap64,if_pos,eT]
  refine cc (by decide) ?_
  simp+contextual (disch:=first|omega|simp only[go_sem,false_implies]) only[go_sem,wrap64,if_pos,eT]
theorem Co(s:bX)(hs:s.Fits)(a b:Tm)(ha:a.fits)(hb:b.fits):bJ Tryz.prog 10 [s.d,a.d,b.d] (.ret [.bool (bd s [a,b]&&nG a b), .i (eT (bd s [a,b]))]):=by
 refine bJ.bg mix Iz (by simp) ?_
 rw[O3]
 simp+contextual (disch:=first|omega|simp only[go_sem,false_implies]) only[go_sem,wrap64,if_pos,and_self]
 refine ae (na s hs [a,b] (by simp) (fun x hx=>by simp at hx;rcases hx with rfl|rfl<;>assumption)) rfl ?_
 cases h1:bd s [a,b]with
 |false=>simp+contextual (disch:=first|omega|simp only[go_sem,false_implies]) only[go_sem,wrap64,if_pos,eT]
 |true=>
  have hp:Pn s a/\Pn s b:=by
   simp[bd,qg]at h1
   exact⟨h1.2.1.2,h1.2.2.2⟩
  simp+contextual (disch:=first|omega|simp only[go_sem,false_implies]) only[go_sem,wrap64,if_pos,eT]
  refine ae (pU a ha hp.1 b hb hp.2) rfl ?_
  simp+contextual (disch:=first|omega|simp only[go_sem,false_implies]) only[go_sem,wrap64,if_pos,eT]
end Go.Proofs.YtpkobkdgcanmjaaGreat
namespace Go.Proofs.YtpkobkdgcanmjaaGreat
theorem yE:bJ Tryz.prog 81 [.sl []] (.ret [.sl []]):=by
 refine bJ.bg mix Fe (by simp) ?_
 rw[Ny]
 have hu:Tryz.prog.underlying 26=some (.slice 28):=by kernel_rfl
 have heq:∀O,sT Tryz.prog O 26 true (.d (.sl [])) .aM=some .dB:=by
  intro O
  unfold sT
  rw[hu]
  rfl
 simp+contextual (disch:=first|omega|simp only[go_sem,false_implies]) only[go_sem,wrap64,if_pos,heq]
 simp only[List.isEmpty_nil,if_true]
 simp+contextual (disch:=first|omega|simp only[go_sem,false_implies]) only[go_sem,wrap64,if_pos,heq]
theorem AW(l:List Tm)(eW:l≠[])(hl:l.length<=1000000)(o:Nat->aa)(nx:Nat)(K X:V->(Nat->aa)->Nat->Prop)
 (hK:K (.osl (nx+3) 1) (aQ o (nx+3) (.arr 1 28 3 (l.map Tm.d))) (nx+7)):
 ft Tryz.prog 81 [.d (.sl (l.map Tm.d))] o nx K X:=by
 refine ft.bg mix Fe (by simp) ?_
 rw[Ny]
 have hu:Tryz.prog.underlying 26=some (.slice 28):=by kernel_rfl
 have heq:∀O,sT Tryz.prog O 26 true (.d (.sl (l.map Tm.d))) .aM=some (.d (.bool false)):=by
  intro O
  unfold sT
  rw[hu]
  cases l with
  |nil=>exact absurd rfl eW
  |cons a l=>rfl
 simp+contextual (disch:=first|omega|simp only[go_sem,false_implies]) only[go_sem,wrap64,if_pos,heq,Nat.add_assoc,Nat.left_eq_add,Nat.add_eq_left,Nat.add_left_cancel_iff]
 simp only[List.isEmpty_nil,if_true]
 simp+contextual (disch:=first|omega|simp only[go_sem,false_implies]) only[go_sem,wrap64,if_pos,heq,Nat.add_assoc,Nat.left_eq_add,Nat.add_eq_left,Nat.add_left_cancel_iff]
 rw[od]
 exact hK
theorem uO(l:List Tm)(hl:l.length<=1000000)(h:∀t∈l,bJ Tryz.prog 61 [.sl (t.kids.map Tm.d)] (.ret [.sl (t.kids.map Tm.d)])):bJ Tryz.prog 61 [.sl (l.map Tm.d)] (.ret [.sl (l.map Tm.d)]):=by
 refine bJ.bg mix I3 (by simp) ?_
 rw[PW]
 cases eW:l with
 |nil=>
  simp+contextual (disch:=first|omega|simp only[go_sem,false_implies]) only[go_sem,wrap64,if_pos,and_self]
  refine br yE ?_
  simp+contextual (disch:=first|omega|simp only[go_sem,false_implies]) only[go_sem,wrap64,if_pos,and_self]
  refine bN (fun _:Unit=>⟨bD [.ak, .ak, .ak, .d (.sl []), .ak, .ak, .ak, .ak, .d (.sl []), .d (.i 0), .d (.i 0)],fun _=> .no,1⟩) (fun _=>True) (fun _=>0) () trivial (cR.fE _ (by omega) (by omega) (by repeat(first|exact hg.mono (by omega)|exact Good.nil|refine Good.aQ ?_ (by omega) rfl|refine Good.aQ ?_ (by omega) (uH _ _ _ (by omega))|refine Good.aQ ?_ (by omega) (by simp[aa.refs,V.aw,V.refs]<;>omega))) (fun _ _=>rfl) ?_) (fun _ _=> ?_)
  ·(repeat(first|exact aL|refine aK ?_|refine az rfl ?_|refine az (bT (bS (by omega))) ?_|refine aY rfl (by simp[V.refs,V.aw]<;>first|omega|assumption) ?_))
  simp+contextual (disch:=first|omega|simp only[go_sem,false_implies]) only[go_sem,wrap64,if_pos,and_self]
 |cons a r=>
  rw[<- eW]
  have QH:l≠[]:=by rw[eW];simp
  simp+contextual (disch:=first|omega|simp only[go_sem,false_implies]) only[go_sem,wrap64,if_pos,and_self]
  refine yh (AW l QH hl _ _ _ _ ?_)
  simp+contextual (disch:=first|omega|simp only[go_sem,false_implies]) only[go_sem,wrap64,if_pos,and_self]
  refine bN (fun i:Nat=>⟨bD [.ak, .ak, .ak, .osl 5 1, .ak, .ak, .ak, .ak, .osl 5 1, .d (.i l.length), .d (.i i)],aQ (fun _=> .no) 5 (.arr 1 28 3 (l.map Tm.d)),6⟩)
   (fun k=>k<=l.length) (fun k=>l.length - k) 0 (Nat.zero_le _) (cR.fE _ (by omega) (by omega) (by repeat(first|exact hg.mono (by omega)|exact Good.nil|refine Good.aQ ?_ (by omega) rfl|refine Good.aQ ?_ (by omega) (uH _ _ _ (by omega))|refine Good.aQ ?_ (by omega) (by simp[aa.refs,V.aw,V.refs]<;>omega))) (fun j hj=>by(repeat(first|rfl|rw[aG]|rw[ay _ _ _ _ (by omega)]))) ?_) (fun k hk=> ?_)
  ·(repeat(first|exact aL|refine aK ?_|refine az rfl ?_|refine az (bT (bS (by omega))) ?_|refine aY rfl (by simp[V.refs,V.aw]<;>first|omega|assumption) ?_))
  replace hk:k<=l.length:=hk
  simp+contextual (disch:=first|omega|simp only[go_sem,false_implies]) only[go_sem,wrap64,if_pos,and_self]
  refine aH (fun h2=> ?_) (fun h2=> ?_)
  ·simp at h2
   obtain⟨x,hx⟩:=bt h2
   have jk:=List.mem_of_getElem? hx
   simp+contextual (disch:=first|omega|simp only[go_sem,false_implies]) only[go_sem,wrap64,if_pos,hx]
   refine br (h x jk) ?_
   simp+contextual (disch:=first|omega|simp only[go_sem,false_implies]) only[go_sem,wrap64,if_pos,hx]
   have TG:x.d= .agg [.i x.op, .i x.n, .sl (x.kids.map Tm.d)]:=by cases x;rw[Tm.zX];rfl
   have lB:(l.map Tm.d).set k x.d=l.map Tm.d:=by
    apply List.ext_getElem?
    intro i
    rw[List.getElem?_set]
    by_cases e:k=i
    ·subst e
     rw[if_pos rfl,if_pos (by simpa using h2),List.getElem?_map,hx];rfl
    ·rw[if_neg e]
   simp only[TG,List.length_cons,List.length_nil,List.take,List.drop,List.append_nil,List.cons_append,List.nil_append]
   rw[if_pos (by omega)]
   simp+contextual (disch:=first|omega|simp only[go_sem,false_implies]) only[go_sem,wrap64,if_pos,lB]
   refine aW (k+1) h2 (by omega) (cR.fE _ (by omega) (by omega) (by repeat(first|exact hg.mono (by omega)|exact Good.nil|refine Good.aQ ?_ (by omega) rfl|refine Good.aQ ?_ (by omega) (uH _ _ _ (by omega))|refine Good.aQ ?_ (by omega) (by simp[aa.refs,V.aw,V.refs]<;>omega))) (fun j hj=> ?_) ?_)
   ·skip
    by_cases e:j=5
    ·subst e;(repeat(first|rfl|rw[aG]|rw[ay _ _ _ _ (by omega)]))
    ·rw[ay _ _ _ _ e,ay _ _ _ _ (by omega),ay _ _ _ _ (by omega)]
   ·(repeat(first|exact aL|refine aK ?_|refine az rfl ?_|refine az (bT (bS (by omega))) ?_|refine aY rfl (by simp[V.refs,V.aw]<;>first|omega|assumption) ?_))
  ·simp at h2
   simp+contextual (disch:=first|omega|simp only[go_sem,false_implies]) only[go_sem,wrap64,if_pos,and_self]
theorem oh{l:List Tm}{k:Tm}(h:k∈l):k.sz<=sN l:=by
 induction l with
 |nil=>cases h
 |cons x l ih=>
  rw[mA]
  rcases List.mem_cons.1 h with rfl|h
  ·omega
  ·have:=ih h;omega
theorem oi:∀l:List Tm,l.length<=sN l
 |[]=>Nat.zero_le _
 |x::l=>by
  have:=oi l
  have:=Tm.AF x
  rw[mA,List.length_cons];omega
theorem uP:∀t:Tm,t.sz<=1000000->bJ Tryz.prog 61 [.sl (t.kids.map Tm.d)] (.ret [.sl (t.kids.map Tm.d)]):=by
 refine Tm.ja fun t ih hz=> ?_
 rw[Tm.pP]at hz
 have h1:=oi t.kids
 exact uO t.kids (by omega) fun k hk=>ih k hk (by have:=oh hk;omega)
theorem uQ(l:List Tm)(hl:l.length<=1000000)(h:∀t∈l,t.sz<=1000000):bJ Tryz.prog 61 [.sl (l.map Tm.d)] (.ret [.sl (l.map Tm.d)]):=
 uO l hl fun t ht=>uP t (h t ht)
end Go.Proofs.YtpkobkdgcanmjaaGreat
