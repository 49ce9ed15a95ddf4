/-
  A PART OF THE PROOF. Conditions: none.
-/
import Derived.Shelf.Sort.Plain
import Derived.Shelf.Slices.In.SortNone
import Derived.Test.YtealblliddhgiaaGreatMt15
set_option linter.unusedSimpArgs false
set_option linter.unusedVariables false
namespace Go.Proofs.YtealblliddhgiaaGreat
def bO(s:aW)(l:List Tm):Bool:=n6 s l&&l.all qe
theorem tx(s:aW)(hs:s.Fits)(l:List Tm)(hl:l.length<=9223372036854775807)(hf:∀t∈l,t.Fin):bC Tryz.prog 60 [s.d, .sl (l.map Tm.d)] (.ret [.bool (bO s l)]):=by
 refine bC.aV mix QS (by simp) ?_
 rw[VO]
 simp+contextual (disch:=first|omega|simp only[go_sem,false_implies]) only[go_sem,wrap64,if_pos,and_self]
 refine ay (I9 s hs l hl hf) rfl ?_
 cases h1:n6 s l with
 |false=>
  simp+contextual (disch:=first|omega|simp only[go_sem,false_implies]) only[go_sem,wrap64,if_pos,and_self]
  simp[bO,h1]
 |true=>
  simp+contextual (disch:=first|omega|simp only[go_sem,false_implies]) only[go_sem,wrap64,if_pos,and_self]
  refine dP (tw l hl 82 [] 1 (ax (fun _=> .no) 0 (.row s.row)) qe (by simp[V.ah,V.refs]) (fun x hx=>xK.Bj (Ee x (hf x hx)) _ _) _ _ ⟨(by repeat(first|exact hg.mono (by omega)|exact Good.nil|refine Good.ax ?_ (by omega) rfl|refine Good.ax ?_ (by omega) (cX _ _ _ (by omega))|refine Good.ax ?_ (by omega) (by simp[ab.refs,V.ah,V.refs]<;>omega))),by omega,fun id aw=>rfl⟩ _ _ fun o2 n2 m1 m2 m3=> ?_)
  simp+contextual (disch:=first|omega|simp only[go_sem,false_implies]) only[go_sem,wrap64,if_pos,and_self]
  simp[bO,h1]
theorem zM{α:Type}(J:Int->Option jQ)(hJ:∀n,J n=none):∀ (l:List (Tm×Int)) (n:Int),0<=n->n+l.length<=9223372036854775807->(aZ (uc J (fun n _=>IntKind.i64.wrap (n+1))) n l).1=n+l.length
 |[],n,_,_=>by simp[aZ]
 |x::l,n,h,h2=>by
  simp only[aZ,uc,hJ,Option.isNone_none,if_true]
  rw[wrap64 (by omega) (by simp at h2;omega)]
  have:=zM (α:=α) J hJ l (n+1) (by omega) (by simp at h2|-;omega)
  rw[this];simp;omega
def Tm.jt (t:Tm):Int:=(pre t 1).length
theorem Nr(t:Tm)(ht:t.Fin)(hs:t.jt<=1000000):bC Tryz.prog 130 [t.d] (.ret [.i t.jt]):=by
 refine bC.aV mix K0 (by simp) ?_
 rw[M8]
 simp+contextual (disch:=first|omega|simp only[go_sem,false_implies]) only[go_sem,wrap64,if_pos,and_self]
 refine cB (tt t _ _ _ _ ?_)
 simp+contextual (disch:=first|omega|simp only[go_sem,false_implies]) only[go_sem,wrap64,if_pos,and_self]
 refine mC (σ:=Int) t ht.fits ht.eB [.af, .ptr 0 0, .af, .ptr 2 0] ?_ (by decide) rfl (by repeat(first|exact hg.mono (by omega)|exact Good.nil|refine Good.ax ?_ (by omega) rfl|refine Good.ax ?_ (by omega) (cX _ _ _ (by omega))|refine Good.ax ?_ (by omega) (by simp[ab.refs,V.ah,V.refs]<;>omega))) (by simp[V.ah,V.refs]) (aa _ _ _)
  (fun n=>ax (ax (ax (fun _=> .no) 0 (.row t.row)) 2 (.row [.d (.i n)])) 5 (.row t.row)) (fun _=>none) (fun n _=>IntKind.i64.wrap (n+1)) (fun _=>True) 0 trivial rfl (fun id aw=>by rw[rK]) (fun _ _ _ _ _ _=>trivial) ?_ ?_
 ·(repeat(first|exact qc|refine nV ?_|refine wW rfl ?_))
 ·intro L hL cX x hx s' h1 h2 o3 n3 hI hn ho K X fX
  simp only[rq]
  have hg:=hI.df
  have q1:o3 2= .row [.d (.i s')]:=hI.eq 2 (by omega)
  simp+contextual (disch:=first|omega|simp only[go_sem,false_implies]) only[go_sem,wrap64,if_pos,and_self]
  refine tq hL (pd:=none) ?_ ?_
  ·exact ho
  simp+contextual (disch:=first|omega|simp only[go_sem,false_implies]) only[go_sem,wrap64,if_pos,q1]
  refine fX _ _ _ .busy none (by omega) ⟨(by repeat(first|exact hg.mono (by omega)|exact Good.nil|refine Good.ax ?_ (by omega) rfl|refine Good.ax ?_ (by omega) (cX _ _ _ (by omega))|refine Good.ax ?_ (by omega) (by simp[ab.refs,V.ah,V.refs]<;>omega))),by omega,fun id aw=> ?_⟩ (by(repeat(first|rfl|rw[aa]|rw[ae _ _ _ _ (by omega)]))) (fun id h3 h4=>by(repeat(first|rfl|rw[aa]|rw[ae _ _ _ _ (by omega)])))
  by_cases e:id=2
  ·subst e;(repeat(first|rfl|rw[aa]|rw[ae _ _ _ _ (by omega)]))
  ·rw[ae _ _ _ _ e];(repeat(first|rfl|rw[aa]|rw[ae _ _ _ _ (by omega)]))
   rw[hI.eq id aw]
   simp only[aK,e,if_false]
 ·intro o' n' hI
  have hf:=zM (α:=Unit) (fun _=>none) (fun _=>rfl) (pre t 1) 0 (by omega) (by simp only[Tm.jt]at hs;omega)
  rw[hf]at hI
  have q1:o' 2= .row [.d (.i (0+(pre t 1).length))]:=hI.eq 2 (by omega)
  simp only[uk]
  simp+contextual (disch:=first|omega|simp only[go_sem,false_implies]) only[go_sem,wrap64,if_pos,q1]
  simp[Tm.jt]
theorem CF(n:Int):bC Tryz.prog 129 [.i n] (.ret [.bool false]):=by
 refine bC.aV mix KZ (by simp) ?_
 rw[M7]
 simp+contextual (disch:=first|omega|simp only[go_sem,false_implies]) only[go_sem,wrap64,if_pos,and_self]
 simp
def kJ(a b:Int):Int:=if a<b then -1 else if b<a then 1 else 0
theorem xa(a b:Int):bC Tryz.prog 102 [.i a, .i b] (.ret [.i (kJ a b)]):=by
 refine bC.aV mix Kx (by simp) ?_
 rw[MK]
 simp+contextual (disch:=first|omega|simp only[go_sem,false_implies]) only[go_sem,wrap64,if_pos,and_self]
 refine ay (CF _) rfl ?_
 simp+contextual (disch:=first|omega|simp only[go_sem,false_implies]) only[go_sem,wrap64,if_pos,and_self]
 refine ay (CF _) rfl ?_
 simp+contextual (disch:=first|omega|simp only[go_sem,false_implies]) only[go_sem,wrap64,if_pos,and_self]
 refine ak (fun h1=> ?_) (fun h1=> ?_)
 ·simp+contextual (disch:=first|omega|simp only[go_sem,false_implies]) only[go_sem,wrap64,if_pos,and_self]
  simp at h1
  simp[kJ,h1]
 ·simp+contextual (disch:=first|omega|simp only[go_sem,false_implies]) only[go_sem,wrap64,if_pos,and_self]
  simp at h1
  refine ak (fun h2=> ?_) (fun h2=> ?_)
  ·simp+contextual (disch:=first|omega|simp only[go_sem,false_implies]) only[go_sem,wrap64,if_pos,and_self]
   simp at h2
   simp[kJ,h2];omega
  ·simp+contextual (disch:=first|omega|simp only[go_sem,false_implies]) only[go_sem,wrap64,if_pos,and_self]
   simp at h2
   simp[kJ,show ¬ (a<b) by omega,show ¬ (b<a) by omega]
def ju(t:Tm)(k:Nat):Int:=if k=0 then t.jt else if k=1 then t.op else t.n
theorem GC(t:Tm)(ht:t.Fin)(hs:t.jt<=1000000)(k:Nat):bC Tryz.prog 103 [t.d, .i k] (.ret [.i (ju t k)]):=by
 refine bC.aV mix Ky (by simp) ?_
 rw[ML]
 by_cases h0:k=0
 ·subst h0
  simp+contextual (disch:=first|omega|simp only[go_sem,false_implies]) only[go_sem,wrap64,if_pos,and_self]
  refine ay (Nr t ht hs) rfl ?_
  simp+contextual (disch:=first|omega|simp only[go_sem,false_implies]) only[go_sem,wrap64,if_pos,and_self]
  simp[ju]
 ·by_cases h1:k=1
  ·subst h1
   simp+contextual (disch:=first|omega|simp only[go_sem,false_implies]) only[go_sem,wrap64,if_pos,and_self]
   simp[ju]
  ·have e0:((k:Int)==0)=false:=by simp;omega
   have e1:((k:Int)==1)=false:=by simp;omega
   simp+contextual (disch:=first|omega|simp only[go_sem,false_implies]) only[go_sem,wrap64,if_pos,e0,e1]
   simp[ju,h0,h1]
mutual
def ec:Tm->Tm->Int
 | .mk op n kids, .mk op' n' ve=>
   if kJ (Tm.jt (.mk op n kids)) (Tm.jt (.mk op' n' ve))≠0 then kJ (Tm.jt (.mk op n kids)) (Tm.jt (.mk op' n' ve))
   else if kJ op op'≠0 then kJ op op' else if kJ n n'≠0 then kJ n n' else fD kids ve
def fD:List Tm->List Tm->Int
 |[],_=>0
 |_::_,[]=>0
 |a::l,b::l'=>if ec a b≠0 then ec a b else fD l l'
end
def rk(a b:Tm)(k:Nat):Int:=kJ (ju a k) (ju b k)
theorem jv(a b:Tm):ec a b=if rk a b 0≠0 then rk a b 0 else if rk a b 1≠0 then rk a b 1 else if rk a b 2≠0 then rk a b 2 else fD a.kids b.kids:=by
 cases a;cases b;simp[ec,rk,ju,Tm.op,Tm.n,Tm.kids]
theorem qR{l l':List Tm}{i:Nat}{x y:Tm}(hx:l[i]? =some x)(hy:l'[i]? =some y):fD (l.drop i) (l'.drop i)=if ec x y≠0 then ec x y else fD (l.drop (i+1)) (l'.drop (i+1)):=by
 obtain⟨h1,e1⟩:=List.getElem?_eq_some_iff.1 hx
 obtain⟨h2,e2⟩:=List.getElem?_eq_some_iff.1 hy
 rw[List.drop_eq_getElem_cons h1,List.drop_eq_getElem_cons h2,e1,e2,fD]
theorem tz{l l':List Tm}{i:Nat}(h:l.length<=i\/l'.length<=i):fD (l.drop i) (l'.drop i)=0:=by
 rcases h with h|h
 ·rw[List.drop_eq_nil_of_le h];rfl
 ·rw[List.drop_eq_nil_of_le h];cases l.drop i<;>rfl
structure Tm.GD (t:Tm):Prop extends t.Fin where
 size:t.jt<=1000000
theorem Tm.Fin.lU {t k:Tm}(h:t.Fin)(hk:k∈t.kids):k.Fin:=⟨((Tm.bD _).1 h.fits).2 k hk,by have:=Tm.gR hk;have:=h.eB;omega⟩
theorem qS:∀ (t:Tm) (d d':Int),(pre t d).length=(pre t d').length:=by
 refine Tm.ej fun t ih d d'=> ?_
 rw[mo,mo]
 simp only[List.length_cons,List.length_flatMap]
 congr 2
 exact List.map_congr_left fun k hk=>ih k hk _ _
theorem Tm.vw {t k:Tm}(hk:k∈t.kids):k.jt+1<=t.jt:=by
 simp only[Tm.jt]
 rw[mo t,qS k 1 (1+1)]
 simp only[List.length_cons,List.length_flatMap]
 have:∀ (l:List Tm),k∈l->(pre k (1+1)).length<=(l.map fun k=>(pre k (1+1)).length).sum:=by
  intro l
  induction l with
  |nil=>intro h;cases h
  |cons x l ih=>
   intro h
   rcases List.mem_cons.1 h with rfl|h
   ·simp only[List.map_cons,List.sum_cons];omega
   ·have:=ih h;simp only[List.map_cons,List.sum_cons];omega
 have:=this _ hk
 omega
theorem Tm.GD.lU {t k:Tm}(h:t.GD)(hk:k∈t.kids):k.GD:=⟨h.toFin.lU hk,by have:=Tm.vw hk;have:=h.size;omega⟩
theorem Eg:∀a:Tm,a.GD->∀b:Tm,b.GD->bC Tryz.prog 66 [a.d,b.d] (.ret [.i (ec a b)]):=by
 refine Tm.ej fun a ih ha b hb=> ?_
 have Ja:=(Tm.bD _).1 ha.fits
 have Ez:=(Tm.bD _).1 hb.fits
 refine bC.aV mix QX (by simp) ?_
 rw[VU]
 simp+contextual (disch:=first|omega|simp only[go_sem,false_implies]) only[go_sem,wrap64,if_pos,and_self]
 refine aT (fun _:Unit=>⟨bq [.af, .af, .ptr 0 0, .ptr 1 0, .af, .d (.i 0)],nX a.row b.row,2⟩) (fun _=>True) (fun _=>0) () trivial (bP.d2 _ (cz rfl rfl) (by omega) rfl rfl ?_) (fun _ _=> ?_)
 ·(repeat(first|exact ao|refine ai ?_|refine ag rfl ?_|refine ag (aR (aQ (by omega))) ?_|refine aD rfl (by simp[V.refs,V.ah]<;>first|omega|assumption) ?_))
 simp+contextual (disch:=first|omega|simp only[go_sem,false_implies]) only[go_sem,wrap64,if_pos,and_self]
 refine aT (fun k:Nat=>⟨bq [.af, .af, .ptr 0 0, .ptr 1 0, .af, .d (.i 0), .af, .af, .d (.i k)],nX a.row b.row,2⟩) (fun k=>k<=3/\∀j,j<k->rk a b j=0) (fun k=>3 - k) 0 ⟨by omega,fun j h=>by omega⟩ (bP.d2 _ (cz rfl rfl) (by omega) rfl rfl ?_) (fun k hk=> ?_)
 ·(repeat(first|exact ao|refine ai ?_|refine ag rfl ?_|refine ag (aR (aQ (by omega))) ?_|refine aD rfl (by simp[V.refs,V.ah]<;>first|omega|assumption) ?_))
 simp+contextual (disch:=first|omega|simp only[go_sem,false_implies]) only[go_sem,wrap64,if_pos,and_self]
 refine ak (fun h1=> ?_) (fun h1=> ?_)
 ·simp at h1
  simp+contextual (disch:=first|omega|simp only[go_sem,false_implies]) only[go_sem,wrap64,if_pos,and_self]
  refine bp (GC a ha.toFin ha.size k) rfl ?_
  simp+contextual (disch:=first|omega|simp only[go_sem,false_implies]) only[go_sem,wrap64,if_pos,and_self]
  refine bp (GC b hb.toFin hb.size k) rfl ?_
  simp+contextual (disch:=first|omega|simp only[go_sem,false_implies]) only[go_sem,wrap64,if_pos,and_self]
  refine bp (xa _ _) rfl ?_
  simp+contextual (disch:=first|omega|simp only[go_sem,false_implies]) only[go_sem,wrap64,if_pos,and_self]
  refine aP (aY rfl) ?_
  simp+contextual (disch:=first|omega|simp only[go_sem,false_implies]) only[go_sem,wrap64,if_pos,and_self]
  refine ak (fun h2=> ?_) (fun h2=> ?_)
  ·simp+contextual (disch:=first|omega|simp only[go_sem,false_implies]) only[go_sem,wrap64,if_pos,and_self]
   have ir:rk a b k≠0:=by simpa[rk]using h2
   have:ec a b=rk a b k:=by
    rw[jv]
    rcases(by omega:k=0\/k=1\/k=2)with rfl|rfl|rfl
    ·rw[if_pos ir]
    ·rw[if_neg (by simp[hk.2 0 (by omega)]),if_pos ir]
    ·rw[if_neg (by simp[hk.2 0 (by omega)]),if_neg (by simp[hk.2 1 (by omega)]),if_pos ir]
   rw[this];rfl
  ·have ir:rk a b k=0:=by simpa[rk]using h2
   have WA:kJ (ju a k) (ju b k)=0:=ir
   simp+contextual (disch:=first|omega|simp only[go_sem,false_implies]) only[go_sem,wrap64,if_pos,and_self]
   rw[WA]
   refine aA (k+1) ⟨by omega,fun j hj=> ?_⟩ (by omega) (bP.d2 _ (cz rfl rfl) (by omega) rfl rfl ?_)
   ·by_cases e:j=k
    ·subst e;exact ir
    ·exact hk.2 j (by omega)
   ·(repeat(first|exact ao|refine ai ?_|refine ag rfl ?_|refine ag (aR (aQ (by omega))) ?_|refine aD rfl (by simp[V.refs,V.ah]<;>first|omega|assumption) ?_))
 ·simp at h1
  have WB:ec a b=fD (a.kids.drop 0) (b.kids.drop 0):=by
   rw[jv,if_neg (by simp[hk.2 0 (by omega)]),if_neg (by simp[hk.2 1 (by omega)]),if_neg (by simp[hk.2 2 (by omega)])]
   simp
  simp+contextual (disch:=first|omega|simp only[go_sem,false_implies]) only[go_sem,wrap64,if_pos,and_self]
  refine aT (fun i:Nat=>⟨bq [.af, .af, .ptr 0 0, .ptr 1 0, .af, .d (.i 0), .af, .d (.i i)],nX a.row b.row,2⟩) (fun i=>i<=a.kids.length/\ec a b=fD (a.kids.drop i) (b.kids.drop i)) (fun i=>a.kids.length - i) 0 ⟨Nat.zero_le _,WB⟩ (bP.d2 _ (cz rfl rfl) (by omega) rfl rfl ?_) (fun i hi=> ?_)
  ·(repeat(first|exact ao|refine ai ?_|refine ag rfl ?_|refine ag (aR (aQ (by omega))) ?_|refine aD rfl (by simp[V.refs,V.ah]<;>first|omega|assumption) ?_))
  simp+contextual (disch:=first|omega|simp only[go_sem,false_implies]) only[go_sem,wrap64,if_pos,and_self]
  refine ak (fun h3=> ?_) (fun h3=> ?_)
  ·simp at h3
   obtain⟨x,hx⟩:=aM h3.1
   obtain⟨y,hy⟩:=aM h3.2
   have gS:=List.mem_of_getElem? hx
   have EI:=List.mem_of_getElem? hy
   simp+contextual (disch:=first|omega|simp only[go_sem,false_implies]) only[go_sem,wrap64,if_pos,hx,hy]
   refine bp (ih x gS (ha.lU gS) y (hb.lU EI)) rfl ?_
   simp+contextual (disch:=first|omega|simp only[go_sem,false_implies]) only[go_sem,wrap64,if_pos,and_self]
   refine aP (aY rfl) ?_
   simp+contextual (disch:=first|omega|simp only[go_sem,false_implies]) only[go_sem,wrap64,if_pos,and_self]
   have Br:=qR hx hy
   rw[<- hi.2]at Br
   refine ak (fun h4=> ?_) (fun h4=> ?_)
   ·simp+contextual (disch:=first|omega|simp only[go_sem,false_implies]) only[go_sem,wrap64,if_pos,and_self]
    have Hu:ec x y≠0:=by simpa using h4
    rw[Br,if_pos Hu]
   ·have Hu:ec x y=0:=by simpa using h4
    simp+contextual (disch:=first|omega|simp only[go_sem,false_implies]) only[go_sem,wrap64,if_pos,and_self]
    rw[Hu]
    rw[if_neg (by simp[Hu])]at Br
    refine aA (i+1) ⟨h3.1,Br⟩ (by omega) (bP.d2 _ (cz rfl rfl) (by omega) rfl rfl ?_)
    (repeat(first|exact ao|refine ai ?_|refine ag rfl ?_|refine ag (aR (aQ (by omega))) ?_|refine aD rfl (by simp[V.refs,V.ah]<;>first|omega|assumption) ?_))
  ·simp+contextual (disch:=first|omega|simp only[go_sem,false_implies]) only[go_sem,wrap64,if_pos,and_self]
   simp only[Bool.and_eq_false_iff,decide_eq_false_iff_not]at h3
   rw[hi.2,tz (by omega)]
theorem Bs(s:aW)(hs:s.Fits)(a b:Tm)(ha:a.GD)(hb:b.GD):bC Tryz.prog 24 [s.d,a.d,b.d] (.ret [.i (if bO s [a,b]=true then ec a b else 0), .i (lQ (bO s [a,b]))]):=by
 refine bC.aV mix Qy (by simp) ?_
 rw[Ve]
 simp+contextual (disch:=first|omega|simp only[go_sem,false_implies]) only[go_sem,wrap64,if_pos,and_self]
 refine ay (tx s hs [a,b] (by simp) (fun x hx=>by simp at hx;rcases hx with rfl|rfl<;>first|exact ha.toFin|exact hb.toFin)) rfl ?_
 cases h1:bO s [a,b]with
 |false=>simp+contextual (disch:=first|omega|simp only[go_sem,false_implies]) only[go_sem,wrap64,if_pos,and_self];simp[lQ]
 |true=>
  simp+contextual (disch:=first|omega|simp only[go_sem,false_implies]) only[go_sem,wrap64,if_pos,and_self]
  refine ay (Eg a ha b hb) rfl ?_
  simp+contextual (disch:=first|omega|simp only[go_sem,false_implies]) only[go_sem,wrap64,if_pos,and_self]
  simp[lQ]
end Go.Proofs.YtealblliddhgiaaGreat
namespace Go.Proofs.YtealblliddhgiaaGreat
def pq(s:aW)(l:List Tm):Bool:=l.all iz&&kE s
theorem GF(s:aW)(hs:s.Fits)(l:List Tm)(hl:l.length<=1000000)(hf:∀t∈l,t.fits):bC Tryz.prog 11 [s.d, .sl (l.map Tm.d)] (.ret [.bool (pq s l)]):=by
 refine bC.aV mix Qp (by simp) ?_
 rw[U1]
 simp+contextual (disch:=first|omega|simp only[go_sem,false_implies]) only[go_sem,wrap64,if_pos,and_self]
 refine aT (fun k:Nat=>⟨bq [.af, .d (.sl (l.map Tm.d)), .ptr 0 0, .af, .af, .d (.i k)],js s.row,1⟩)
  (fun k=>k<=l.length/\(l.take k).all iz=true) (fun k=>l.length - k) 0 ⟨Nat.zero_le _,by simp⟩ (bP.d1 _ (bw rfl) (by omega) rfl ?_) (fun k hk=> ?_)
 ·(repeat(first|exact ao|refine ai ?_|refine ag rfl ?_|refine ag (aR (aQ (by omega))) ?_|refine aD rfl (by simp[V.refs,V.ah]<;>first|omega|assumption) ?_))
 simp+contextual (disch:=first|omega|simp only[go_sem,false_implies]) only[go_sem,wrap64,if_pos,and_self]
 refine ak (fun h2=> ?_) (fun h2=> ?_)
 ·simp at h2
  obtain⟨x,hx⟩:=aM h2
  simp+contextual (disch:=first|omega|simp only[go_sem,false_implies]) only[go_sem,wrap64,if_pos,hx]
  refine ay (CB x (hf x (List.mem_of_getElem? hx))) rfl ?_
  simp+contextual (disch:=first|omega|simp only[go_sem,false_implies]) only[go_sem,wrap64,if_pos,and_self]
  refine ak (fun h3=> ?_) (fun h3=> ?_)
  ·simp+contextual (disch:=first|omega|simp only[go_sem,false_implies]) only[go_sem,wrap64,if_pos,and_self]
   simp at h3
   simp[pq,gh hx h3]
  ·simp+contextual (disch:=first|omega|simp only[go_sem,false_implies]) only[go_sem,wrap64,if_pos,and_self]
   simp at h3
   refine aA (k+1) ⟨h2,ij hx hk.2 h3⟩ (by omega) (bP.d1 _ (bw rfl) (by omega) rfl ?_)
   (repeat(first|exact ao|refine ai ?_|refine ag rfl ?_|refine ag (aR (aQ (by omega))) ?_|refine aD rfl (by simp[V.refs,V.ah]<;>first|omega|assumption) ?_))
 ·simp at h2
  simp+contextual (disch:=first|omega|simp only[go_sem,false_implies]) only[go_sem,wrap64,if_pos,and_self]
  refine ay (Bl s hs) rfl ?_
  simp+contextual (disch:=first|omega|simp only[go_sem,false_implies]) only[go_sem,wrap64,if_pos,and_self]
  rw[pq,ik hk.2 h2,Bool.true_and]
def lF(s:aW)(l:List Tm):Bool:=pb s&&l.all (et s)
theorem Jb(s:aW)(hs:s.Fits)(l:List Tm)(hl:l.length<=1000000)(hf:∀t∈l,t.fits):bC Tryz.prog 15 [s.d, .sl (l.map Tm.d)] (.ret [.bool (lF s l)]):=by
 refine bC.aV mix Qr (by simp) ?_
 rw[U5]
 simp+contextual (disch:=first|omega|simp only[go_sem,false_implies]) only[go_sem,wrap64,if_pos,and_self]
 refine ay (Sc s hs) rfl ?_
 cases h1:pb s with
 |false=>simp+contextual (disch:=first|omega|simp only[go_sem,false_implies]) only[go_sem,wrap64,if_pos,and_self];simp[lF,h1]
 |true=>
  simp+contextual (disch:=first|omega|simp only[go_sem,false_implies]) only[go_sem,wrap64,if_pos,and_self]
  refine aT (fun k:Nat=>⟨bq [.af, .d (.sl (l.map Tm.d)), .ptr 0 0, .af, .af, .d (.i k)],js s.row,1⟩)
   (fun k=>k<=l.length/\(l.take k).all (et s)=true) (fun k=>l.length - k) 0 ⟨Nat.zero_le _,by simp⟩ (bP.d1 _ (bw rfl) (by omega) rfl ?_) (fun k hk=> ?_)
  ·(repeat(first|exact ao|refine ai ?_|refine ag rfl ?_|refine ag (aR (aQ (by omega))) ?_|refine aD rfl (by simp[V.refs,V.ah]<;>first|omega|assumption) ?_))
  simp+contextual (disch:=first|omega|simp only[go_sem,false_implies]) only[go_sem,wrap64,if_pos,and_self]
  refine ak (fun h2=> ?_) (fun h2=> ?_)
  ·simp at h2
   obtain⟨x,hx⟩:=aM h2
   simp+contextual (disch:=first|omega|simp only[go_sem,false_implies]) only[go_sem,wrap64,if_pos,hx]
   refine bp (Gq s hs x (hf x (List.mem_of_getElem? hx))) rfl ?_
   simp+contextual (disch:=first|omega|simp only[go_sem,false_implies]) only[go_sem,wrap64,if_pos,and_self]
   refine aP (aY rfl) ?_
   simp+contextual (disch:=first|omega|simp only[go_sem,false_implies]) only[go_sem,wrap64,if_pos,and_self]
   refine ak (fun h3=> ?_) (fun h3=> ?_)
   ·simp+contextual (disch:=first|omega|simp only[go_sem,false_implies]) only[go_sem,wrap64,if_pos,and_self]
    simp at h3
    simp[lF,gh hx h3]
   ·simp+contextual (disch:=first|omega|simp only[go_sem,false_implies]) only[go_sem,wrap64,if_pos,and_self]
    simp at h3
    refine aA (k+1) ⟨h2,ij hx hk.2 h3⟩ (by omega) (bP.d1 _ (bw rfl) (by omega) rfl ?_)
    (repeat(first|exact ao|refine ai ?_|refine ag rfl ?_|refine ag (aR (aQ (by omega))) ?_|refine aD rfl (by simp[V.refs,V.ah]<;>first|omega|assumption) ?_))
  ·simp at h2
   simp+contextual (disch:=first|omega|simp only[go_sem,false_implies]) only[go_sem,wrap64,if_pos,and_self]
   simp[lF,h1,ik hk.2 h2]
def kK(s:aW)(a b:Tm):Bool:=lF s [a,b]&&gf a&&gf b
theorem Eh(s:aW)(hs:s.Fits)(a b:Tm)(ha:a.fits)(hb:b.fits):bC Tryz.prog 25 [s.d,a.d,b.d] (.ret [.bool (kK s a b)]):=by
 refine bC.aV mix Qz (by simp) ?_
 rw[Vf]
 simp+contextual (disch:=first|omega|simp only[go_sem,false_implies]) only[go_sem,wrap64,if_pos,and_self]
 refine ay (Jb s hs [a,b] (by simp) (fun t ht=>by simp at ht;rcases ht with rfl|rfl<;>assumption)) rfl ?_
 simp+contextual (disch:=first|omega|simp only[go_sem,false_implies]) only[go_sem,wrap64,if_pos,and_self]
 refine eF (dE [.bool (gf a)] ?_ ?_)
 ·simp+contextual (disch:=first|omega|simp only[go_sem,false_implies]) only[go_sem,wrap64,if_pos,and_self]
  exact fun _=>CA a ha
 simp+contextual (disch:=first|omega|simp only[go_sem,false_implies]) only[go_sem,wrap64,if_pos,and_self]
 refine eF (dE [.bool (gf b)] ?_ ?_)
 ·simp+contextual (disch:=first|omega|simp only[go_sem,false_implies]) only[go_sem,wrap64,if_pos,and_self]
  exact fun _=>CA b hb
 simp+contextual (disch:=first|omega|simp only[go_sem,false_implies]) only[go_sem,wrap64,if_pos,and_self]
 rfl
end Go.Proofs.YtealblliddhgiaaGreat
namespace Go.Proofs.YtealblliddhgiaaGreat
def Tm.sz (t:Tm):Nat:=(pre t 1).length
def jO(l:List Tm):Nat:=(l.map Tm.sz).sum
theorem Tm.kL (t:Tm):t.jt=(t.sz:Int):=rfl
theorem Tm.iH (t:Tm):t.sz=1+jO t.kids:=by
 unfold Tm.sz jO
 rw[mo,List.length_cons,List.length_flatMap,Nat.add_comm]
 congr 2
 exact List.map_congr_left fun k hk=>qS k _ _
theorem eH(k:Tm)(l:List Tm):jO (k::l)=k.sz+jO l:=by simp[jO]
theorem Tm.mD (t:Tm):1<=t.sz:=by rw[Tm.iH];omega
theorem kM(k:Tm)(l:List Tm):Tm.eV (k::l)=Nat.max k.eB (Tm.eV l):=by simp[Tm.eV]
theorem xb:∀ (l:List Tm) (n:Nat),Tm.eV l<=n↔∀k∈l,k.eB<=n
 |[],n=>by simp[Tm.eV]
 |x::l,n=>by
  rw[kM]
  simp only[List.mem_cons,forall_eq_or_imp, <- xb l n]
  exact Nat.max_le
theorem Tm.j7 (t:Tm):t.eB=1+Tm.eV t.kids:=by cases t;simp[Tm.eB,Tm.kids]
theorem Ei:∀t:Tm,∀left depth:Int,hU t left depth=if(t.sz:Int)<=left/\(t.eB:Int)<=depth then left - t.sz else -1:=by
 refine Tm.ej fun t ih left depth=> ?_
 have hs:∀ (l:List Tm) (left d:Int),(∀k∈l,k∈t.kids)->0<=left->0<=d->cf l left d=if(jO l:Int)<=left/\(Tm.eV l:Int)<=d then left - jO l else -1:=by
  intro l
  induction l with
  |nil=>intro left d _ h1 h2;simp[cf,jO,Tm.eV,h1,h2]
  |cons k l Gp=>
   intro left d hk h1 h2
   simp only[cf,if_pos h1]
   rw[ih k (hk k (by simp))]
   have hm:(Tm.eV (k::l):Int)<=d↔(k.eB:Int)<=d/\(Tm.eV l:Int)<=d:=by
    have:= @Nat.max_le k.eB (Tm.eV l) d.toNat
    have e:Tm.eV (k::l)=max k.eB (Tm.eV l):=kM k l
    rw[e];omega
   simp only[eH,hm]
   by_cases hc:(k.sz:Int)<=left/\(k.eB:Int)<=d
   ·rw[if_pos hc,Gp _ _ (fun x hx=>hk x (by simp[hx])) (by omega) h2]
    by_cases sn:(jO l:Int)<=left - k.sz/\(Tm.eV l:Int)<=d
    ·rw[if_pos sn,if_pos (by omega)];omega
    ·rw[if_neg sn,if_neg (by omega)]
   ·rw[if_neg hc,nW (by omega),if_neg (by omega)]
 rw[zG,Tm.iH,Tm.j7]
 by_cases h:left<1\/depth<1
 ·rw[if_pos h,if_neg (by omega)]
 ·rw[if_neg h,hs _ _ _ (fun _ h=>h) (by omega) (by omega)]
  by_cases hc:(jO t.kids:Int)<=left - 1/\(Tm.eV t.kids:Int)<=depth - 1
  ·rw[if_pos hc,if_pos (by omega)];omega
  ·rw[if_neg hc,if_neg (by omega)]
theorem pt(t:Tm)(left depth:Int):0<=hU t left depth↔(t.sz:Int)<=left/\(t.eB:Int)<=depth:=by
 rw[Ei];split<;>omega
theorem lG(t:Tm):iz t=true↔t.sz<=50/\t.eB<=14:=by
 simp only[iz,decide_eq_true_eq,pt];omega
theorem Tm.GD.zN {t:Tm}(hf:t.fits)(h:iz t=true):t.GD:=by
 rw[lG]at h
 exact⟨⟨hf,by omega⟩,by rw[Tm.kL];omega⟩
theorem Ej:∀ (t:Tm) (d m:Int),(∀x∈pre t d,x.2<=m)↔d+t.eB - 1<=m:=by
 refine Tm.ej fun t ih d m=> ?_
 rw[mo,Tm.j7]
 simp only[List.mem_cons,forall_eq_or_imp,List.mem_flatMap]
 have h1:(∀x:Tm×Int,(∃k,k∈t.kids/\x∈pre k (d+1))->x.2<=m)↔∀k∈t.kids,d+1+k.eB - 1<=m:=by
  constructor
  ·intro h k hk
   exact(ih k hk _ _).1 fun x hx=>h x ⟨k,hk,hx⟩
  ·rintro h x ⟨k,hk,hx⟩
   exact(ih k hk _ _).2 (h k hk) x hx
 rw[h1]
 constructor
 ·rintro⟨h2,h3⟩
  have:=(xb t.kids (m - d).toNat).2 fun k hk=>by have:=h3 k hk;omega
  omega
 ·intro h
  have:=(xb t.kids (m - d).toNat).1 (by omega)
  exact⟨by omega,fun k hk=>by have:=this k hk;omega⟩
theorem CG(p:Tm->Bool):∀ (t:Tm) (d:Int),(pre t d).all (fun x=>p x.1)=(p t&&t.kids.all fun k=>(pre k (d+1)).all fun x=>p x.1):=by
 intro t d
 rw[mo,List.all_cons,List.all_flatMap]
theorem tA(s:aW):∀ (t:Tm) (d:Int),gI s t=(pre t d).all fun x=>bA s x.1:=by
 refine Tm.ej fun t ih d=> ?_
 rw[CG (bA s),kI]
 congr 1
 rw[Bool.eq_iff_iff]
 simp only[List.all_eq_true (l:=t.kids)]
 exact forall_congr' fun k=>forall_congr' fun hk=>by rw[ih k hk (d+1)]
theorem Bt:∀ (t:Tm) (d:Int),gf t=(pre t d).all fun x=>(decide (1<=x.1.op)&&decide (x.1.op<=3))||x.1.op==5:=by
 refine Tm.ej fun t ih d=> ?_
 rw[CG (fun t=>(decide (1<=t.op)&&decide (t.op<=3))||t.op==5),qd,Bool.and_comm]
 congr 1
 rw[Bool.eq_iff_iff]
 simp only[List.all_eq_true (l:=t.kids)]
 exact forall_congr' fun k=>forall_congr' fun hk=>by rw[ih k hk (d+1)]
theorem zO{s:aW}{t:Tm}(h:bA s t=true):e8 t.op 1 15=true:=by
 rw[show e8 t.op 1 15=true↔1<=t.op/\t.op<=15 by simp[e8]]
 by_cases h6:e8 t.op 6 15=true
 ·simp[e8]at h6;omega
 ·simp only[bA,if_neg h6]at h
  by_cases h1:t.op=1
  ·omega
  by_cases h2:t.op=2
  ·omega
  by_cases h3:t.op=3
  ·omega
  by_cases h4:t.op=4
  ·omega
  by_cases h5:t.op=5
  ·omega
  by_cases h8:t.op=8
  ·omega
  rw[if_neg h1,if_neg h2,if_neg h3,if_neg h4,if_neg h5,if_neg h8]at h
  cases h
def tC(s:aW)(x:Tm×Int):Bool:= !(decide (12<x.2)|| !e8 x.1.op 1 15|| !bA s x.1)
theorem qT(s:aW):∀ (l:List (Tm×Int)) (n:Int) (b:Bool),(aZ (uc fJ (gk s)) (n,b) l).2=(decide (l=[]\/n+l.length<=40)&&l.all (tC s))
 |[],n,b=>by simp[aZ]
 |x::l,n,b=>by
  have e1:∀c,ng s n x=c->uc fJ (gk s) (n,b) x=((n+1, !c), !c):=fun c hc=>by show((n+1, !ng s n x),(fJ (n+1, !ng s n x)).isNone)=_;rw[hc];cases c<;>rfl
  have hb:ng s n x=(decide (40<n+1)|| !tC s x):=by simp[ng,tC,Bool.or_assoc]
  rw[List.all_cons]
  cases hg:tC s x with
  |false=>
   have e:ng s n x=true:=by rw[hb,hg];simp
   rw[aZ,e1 _ e];simp
  |true=>
   by_cases ZP:40<n+1
   ·have:decide (x::l=[]\/n+(x::l).length<=40)=false:=by simp;omega
    have e:ng s n x=true:=by rw[hb];simp[ZP]
    rw[this,Bool.false_and,aZ,e1 _ e];simp
   ·have e:ng s n x=false:=by rw[hb,hg];simp;omega
    rw[aZ,e1 _ e]
    simp only[Bool.not_false,if_true,qT s l,Bool.true_and]
    congr 1
    cases l with
    |nil=>simp;omega
    |cons y l=>simp;omega
theorem Bu(s:aW)(t:Tm):lE s t=et s t:=by
 rw[lE,qT,et,tA s t 1,Bool.eq_iff_iff]
 have hn:pre t 1≠[]:=by rw[mo];simp
 simp only[Bool.and_eq_true,decide_eq_true_eq,hn,false_or,pt,List.all_eq_true]
 have hd:=Ej t 1 12
 constructor
 ·rintro⟨h1,h2⟩
  have h3:∀x∈pre t 1,x.2<=12:=fun x hx=>by have:=h2 x hx;simp[tC]at this;omega
  have:=hd.1 h3
  exact⟨⟨by unfold Tm.sz;omega,by omega⟩,fun x hx=>by have:=h2 x hx;simp[tC]at this;exact this.2⟩
 ·rintro⟨⟨h1,h2⟩,h3⟩
  have h4:=hd.2 (by omega)
  refine⟨by unfold Tm.sz at h1;omega,fun x hx=> ?_⟩
  have h5:=h4 x hx
  have h6:=h3 x hx
  have h7:=zO h6
  simp[tC,h6,h7];omega
theorem tD:∀ (l:List (Tm×Int)) (b:Bool),(aZ (uc vJ (fun _ x=> !pn x)) b l).2=l.all fun x=> !pn x
 |[],b=>rfl
 |x::l,b=>by
  have e1:∀c,pn x=c->uc vJ (fun _ x=> !pn x) b x=(!c, !c):=fun c hc=>by show(!pn x,(vJ (!pn x)).isNone)=_;rw[hc];cases c<;>rfl
  rw[aZ,List.all_cons]
  cases hv:pn x with
  |false=>rw[e1 _ hv];simp[tD l]
  |true=>rw[e1 _ hv];simp
theorem mY{s:aW}{t:Tm}(h:et s t=true):qe t=gf t:=by
 rw[qe,tD,Bt t 1,Bool.eq_iff_iff]
 simp only[et,Bool.and_eq_true,tA s t 1,List.all_eq_true]at h
 simp only[List.all_eq_true]
 refine forall_congr' fun x=>forall_congr' fun hx=> ?_
 have:=zO (h.2 x hx)
 simp[e8]at this
 simp[pn]
 omega
theorem qf(s:aW)(l:List Tm):n6 s l=lF s l:=by
 unfold n6 lF;congr 2;funext t;exact Bu s t
theorem mZ{a b:Int}:kJ a b=0↔a=b:=by simp only[kJ];split<;>(try split)<;>omega
theorem zP(a b:Tm):ec a b=0↔(a.sz=b.sz/\a.op=b.op/\a.n=b.n/\fD a.kids b.kids=0):=by
 have h0:rk a b 0=0↔a.sz=b.sz:=by simp only[rk,mZ,ju,if_pos];rw[Tm.kL,Tm.kL];omega
 have h1:rk a b 1=0↔a.op=b.op:=by simp[rk,mZ,ju]
 have h2:rk a b 2=0↔a.n=b.n:=by simp[rk,mZ,ju]
 rw[jv, <- h0, <- h1, <- h2]
 split
 ·simp_all
 ·split
  ·simp_all
  ·split<;>simp_all
theorem Bv:∀a b:Tm,ec a b=0↔a=b:=by
 refine Tm.ej fun a ih b=> ?_
 have hs:∀l l':List Tm,(∀x∈l,x∈a.kids)->jO l=jO l'->(fD l l'=0↔l=l'):=by
  intro l
  induction l with
  |nil=>
   intro l' _ hz
   cases l' with
   |nil=>simp[fD]
   |cons y l'=>rw[eH]at hz;have:=Tm.mD y;simp[jO]at hz;omega
  |cons x l Gp=>
   intro l' hx hz
   cases l' with
   |nil=>rw[eH]at hz;have:=Tm.mD x;simp[jO]at hz;omega
   |cons y l'=>
    simp only[fD]
    have h1:=ih x (hx x (by simp)) y
    by_cases h:ec x y=0
    ·have e:=h1.1 h
     subst e
     rw[eH,eH]at hz
     simp only[h,ne_eq,not_true_eq_false,if_false]
     rw[Gp l' (fun z hz=>hx z (by simp[hz])) (by omega)]
     simp
    ·rw[if_pos h]
     constructor
     ·intro h2;exact absurd h2 h
     ·intro h2;injection h2 with h2 h3;exact absurd (h1.2 h2) h
 rw[zP]
 constructor
 ·rintro⟨h0,h1,h2,h3⟩
  rw[Tm.iH,Tm.iH]at h0
  have:=(hs a.kids b.kids (fun _ h=>h) (by omega)).1 h3
  rw[<- Tm.eta a, <- Tm.eta b,h1,h2,this]
 ·intro e;subst e
  exact⟨rfl,rfl,rfl,(hs a.kids a.kids (fun _ h=>h) rfl).2 rfl⟩
theorem tE:∀a:Tm,hY a a=true:=by
 refine Tm.ej fun a ih=> ?_
 rw[pj]
 have:gJ a.kids a.kids=true:=(gM _ _ rfl).2 fun i x y hx hy=>by
  rw[hx]at hy;injection hy with hy;subst hy;exact ih x (List.mem_of_getElem? hx)
 simp[this]
theorem qg:∀a b:Tm,hY a b=true↔a=b:=by
 refine Tm.ej fun a ih b=>⟨fun h=> ?_,fun e=>e ▸ tE _⟩
 rw[pj]at h
 simp only[Bool.and_eq_true,beq_iff_eq]at h
 obtain⟨⟨⟨h1,h2⟩,h3⟩,h4⟩:=h
 have h5:=(gM _ _ h3).1 h4
 have:a.kids=b.kids:=by
  apply List.ext_getElem?
  intro i
  cases hx:a.kids[i]? with
  |none=>simp at hx;symm;simp;omega
  |some x=>
   have hi:=(List.getElem?_eq_some_iff.1 hx).1
   obtain⟨y,hy⟩:=aM (l:=b.kids) (k:=i) (by omega)
   rw[hy,(ih x (List.mem_of_getElem? hx) y).1 (h5 i x y hx hy)]
 rw[<- Tm.eta a, <- Tm.eta b,h1,h2,this]
end Go.Proofs.YtealblliddhgiaaGreat
namespace Go.Proofs.YtealblliddhgiaaGreat
def Ek(l:List (D×D)):List (Int×D):=l.map fun p=>((match p.1 with| .int _ n=>n|_=>0),p.2)
def Ns(l:List (D×D)):Bool:=l.all fun p=>match p.1 with| .int .i64 _=>true|_=>false
@[go_sem] theorem Tu (m:List (Int×D)):Ek (enc (D.int .i64) m)=m:=by
  unfold Ek enc;rw[List.map_map];simp[Function.comp_def]
@[go_sem] theorem Tv (m:List (Int×D)):Ns (enc (D.int .i64) m)=true:=by simp[Ns,enc]
@[go_sem] theorem Tw:Ns []=true:=rfl
@[go_sem] theorem Tx:Ek []=[]:=rfl
theorem xc:∀ {l:List (D×D)},Ns l=true->enc (D.int .i64) (Ek l)=l
 |[],_=>rfl
 |(k,x)::l,h=>by
  simp only[Ns,List.all_cons,Bool.and_eq_true]at h
  have ih:=xc (l:=l) h.2
  obtain⟨n,h1⟩:∃n,k= .int .i64 n:=by
   have h1:=h.1
   split at h1
   ·exact⟨_,rfl⟩
   ·cases h1
  subst h1
  simp only[enc,Ek,List.map_cons]at ih|-
  rw[ih]
def mE(l:List Int):List (Int×D):=l.map fun n=>(n, .bool true)
@[go_sem] theorem Sm:mE []=[]:=rfl
def zQ(l:List Int)(n:Int):List Int:=if l.contains n=true then l else l++[n]
theorem pv{l:List Int}{n k:Int}:k∈zQ l n↔k∈l\/k=n:=by
 unfold zQ
 split
 ·rename_i h
  have:n∈l:=by simpa using h
  constructor
  ·exact .inl
  ·rintro(h|rfl)<;>assumption
 ·simp
theorem pw:∀ (l:List Int) (n:Int) (i:Nat),iN n (mE l) i=(l.findIdx? (· ==n)).map fun j=>(i+j,D.bool true)
 |[],n,i=>rfl
 |x::l,n,i=>by
  have ih:=pw l n (i+1)
  simp only[mE,List.map_cons,iN,List.findIdx?_cons]at ih|-
  by_cases h:n=x
  ·subst h;simp
  ·have h2: ¬x=n:=fun e=>h e.symm
   simp only[beq_iff_eq,h,h2,if_false,ih,Option.map_map,Function.comp_def]
   congr 1;funext j;congr 1;omega
@[go_sem] theorem OC (l:List Int) (n:Int):D7 n (.bool true) (mE l)=mE (zQ l n):=by
  unfold D7 zQ
  rw[pw]
  cases h:l.findIdx? (· ==n)with
  |none=>
   have:l.contains n=false:=by
    rw[List.findIdx?_eq_none_iff]at h
    rw[Bool.eq_false_iff];intro hc
    have:=h n (by simpa using hc)
    simp at this
   simp only[Option.map_none,this,Bool.false_eq_true,if_false]
   simp[mE]
  |some j=>
   rw[List.findIdx?_eq_some_iff_getElem]at h
   obtain⟨hj,he,_⟩:=h
   have e:l[j]=n:=by simpa using he
   have:l.contains n=true:=by rw[List.contains_iff_mem, <- e];exact List.getElem_mem hj
   simp only[Option.map_some,this,if_true,Nat.zero_add]
   apply List.ext_getElem?
   intro k
   rw[List.getElem?_set]
   split
   ·rename_i hk;subst hk;simp[mE,hj,e]
   ·rfl
def Sn(l:List Int)(n:Int):List Int:=match l.findIdx? (· ==n)with|some j=>l.eraseIdx j|none=>l
theorem lH{α β:Type}(f:α->β):∀ (l:List α) (j:Nat),(l.map f).eraseIdx j=(l.eraseIdx j).map f
 |[],_=>rfl
 |_::_,0=>rfl
 |x::l,j+1=>by simp[lH f l j]
@[go_sem] theorem OD (l:List Int) (n:Int):Sj n (mE l)=mE (Sn l n):=by
  unfold Sj Sn
  rw[pw]
  cases h:l.findIdx? (· ==n)with
  |none=>simp
  |some j=>simp only[Option.map_some,Nat.zero_add];exact lH _ _ _
section
variable {P:Program}{o:Nat->ab}{t:TypeId}{id:Nat}{n:Int}{v:V}
def qh(P:Program)(kt:TypeId):Bool:=match bn P kt with|some .int=>true|_=>false
theorem vy{kt:TypeId}(h:qh P kt=true):bn P kt=some .int:=by
 unfold qh at h;split at h
 ·assumption
 ·cases h
@[go_sem] theorem OE {kt:TypeId} (h:bn P kt=some .int):qh P kt=true:=by unfold qh;rw[h]
def Nt(P:Program)(o:Nat->ab)(t:TypeId)(id:Nat)(n:Int)(v:V):Option fS:=
 match nH P t,dI o v,o id with
 |some (kt,_),some vd, .map Ae Af l=>match qh P kt&&Ns l&&v.ids.all (· !=id)with
  |true=>some (.bU [],cH o v.ids++[(id, .map Ae Af (enc (D.int .i64) (D7 n vd (Ek l))))],id::v.ids)
  |false=>pk P o t (.mp id) (.d (.int .i64 n)) v
 |_,_,_=>pk P o t (.mp id) (.d (.int .i64 n)) v
@[go_sem high] theorem Nu:fk P o t (.mp id) (.d (.int .i64 n)) v=Nt P o t id n v:=by
  unfold Nt
  split
  ·rename_i kt vt vd Ae Af l h1 h2 h3
   split
   ·rename_i hc
    simp only[Bool.and_eq_true]at hc
    obtain⟨⟨c1,c2⟩,c3⟩:=hc
    have c4:=vy c1
    have c5:dI o (.d (.int .i64 n))=some (.int .i64 n):=rfl
    have hl:=xc c2
    unfold fk
    simp only[h1,c5,h2,nm,h3]
    rw[if_pos ⟨rfl,CD c4 n,rfl,c3⟩]
    conv=>lhs;rw[<- hl]
    rw[zJ c4]
    unfold D7
    cases iN n (Ek l) 0 with
    |none=>simp[uq,enc]
    |some p=>simp[uq,CE,D.same,nk]
   ·exact vr ..
  ·exact vr ..
attribute [go_sem] Nt
def OG(l:List (D×D)):Bool:=l.all fun p=>match p.2 with| .bool true=>true|_=>false
@[go_sem] theorem Ty (l:List Int):OG (enc (D.int .i64) (mE l))=true:=by simp[OG,enc,mE]
@[go_sem] theorem Tz:OG []=true:=rfl
theorem CH:∀ {m:List (Int×D)},OG (enc (D.int .i64) m)=true->mE (m.map (·.1))=m
 |[],_=>rfl
 |(k,x)::m,h=>by
  simp only[OG,enc,List.map_cons,List.all_cons,Bool.and_eq_true]at h
  have ih:=CH (m:=m) h.2
  have h1:x= .bool true:=by
   have h1:=h.1
   split at h1
   ·rfl
   ·cases h1
  simp only[mE,List.map_cons]at ih|-
  rw[ih,h1]
def GG(P:Program)(o:Nat->ab)(t:TypeId)(m:V)(n:Int)(ok:Bool):Option fS:=
 match nH P t with
 |some (kt,vt)=>match zeroV P vt with
  |some (.d (.bool false))=>match oA o m with
   |some (rd,l)=>match qh P kt&&Ns l&&OG l with
    |true=>some (match ok with|true=> .bU [.d (.bool (((Ek l).map (·.1)).contains n)), .d (.bool (((Ek l).map (·.1)).contains n))]|false=> .d (.bool (((Ek l).map (·.1)).contains n)),[],rd)
    |false=>tv P o t m (.d (.int .i64 n)) ok
   |none=>tv P o t m (.d (.int .i64 n)) ok
  |_=>tv P o t m (.d (.int .i64 n)) ok
 |none=>tv P o t m (.d (.int .i64 n)) ok
@[go_sem] theorem GH (l:List Int):((mE l).map (·.1))=l:=by simp[mE,Function.comp_def]
@[go_sem high] theorem Sp {m:V} {ok:Bool}:gQ P o t m (.d (.int .i64 n)) ok=GG P o t m n ok:=by
  unfold GG
  split
  ·rename_i kt vt h1
   split
   ·rename_i hz
    split
    ·rename_i rd l h
     split
     ·rename_i hc
      simp only[Bool.and_eq_true]at hc
      have c4:=vy hc.1.1
      have hl:=xc hc.1.2
      have hs:mE ((Ek l).map (·.1))=Ek l:=CH (by rw[hl];exact hc.2)
      have c5:dI o (.d (.int .i64 n))=some (.int .i64 n):=rfl
      unfold gQ
      simp only[h1,c5,h]
      rw[if_pos ⟨rfl,CD c4 n⟩]
      conv=>lhs;rw[<- hl]
      rw[zJ c4, <- hs,pw,GH]
      generalize (Ek l).map (·.1)=l'
      cases hf:l'.findIdx? (· ==n)with
      |none=>
       have:l'.contains n=false:=by
        rw[List.findIdx?_eq_none_iff]at hf
        rw[Bool.eq_false_iff];intro hc
        have:=hf n (by simpa using hc)
        simp at this
       cases ok<;>simp only[Option.map_none,uq,hz,this,if_true,Bool.false_eq_true,if_false]
      |some j=>
       rw[List.findIdx?_eq_some_iff_getElem]at hf
       obtain⟨hj,he,_⟩:=hf
       have e:l'[j]=n:=by simpa using he
       have:l'.contains n=true:=by rw[List.contains_iff_mem, <- e];exact List.getElem_mem hj
       cases ok<;>simp only[Option.map_some,uq,this,if_true,Bool.false_eq_true,if_false]
     ·exact mX ..
    ·exact mX ..
   ·exact mX ..
  ·exact mX ..
attribute [go_sem] GG
end
attribute [go_sem] List.head?_cons
end Go.Proofs.YtealblliddhgiaaGreat
namespace Go.Proofs.YtealblliddhgiaaGreat
mutual
def il(v:Int):Tm->Bool
 | .mk op n kids=>if op=1 then n==v else xd v op n kids 0
def xd(v op n:Int):List Tm->Nat->Bool
 |[],_=>false
 |k::l,i=>(il v k&& !(op==8&&i==1&&n==v))||xd v op n l (i+1)
end
theorem qi(v:Int)(t:Tm):il v t=if t.op=1 then t.n==v else xd v t.op t.n t.kids 0:=by cases t;rfl
@[reducible] def GI (l:List Int):ab:= .map 3 4 (enc (D.int .i64) (mE l))
end Go.Proofs.YtealblliddhgiaaGreat
section
namespace Go.Proofs.YtealblliddhgiaaGreat
open Go.Sort Go.RowKit
end Go.Proofs.YtealblliddhgiaaGreat
end
section
namespace Go.Proofs.YtealblliddhgiaaGreat
open Go.Shelf
end Go.Proofs.YtealblliddhgiaaGreat
end
namespace Go.Proofs.YtealblliddhgiaaGreat
def nh:List Int->Int->List Int
 |[],n=>[n]
 |x::l,n=>if x<n then x::nh l n else if x=n then x::l else n::x::l
def n7(op n:Int)(i:Nat)(l out:List Int):List Int:=l.foldl (fun out v=>if(op !=8||(i:Int)!=1||v !=n)=true then nh out v else out) out
mutual
def dF:Tm->List Int
 | .mk op n kids=>if op=1 then [n]else lI op n kids 0 []
def lI(op n:Int):List Tm->Nat->List Int->List Int
 |[],_,out=>out
 |k::l,i,out=>lI op n l (i+1) (n7 op n i (dF k) out)
end
theorem px(t:Tm):dF t=if t.op=1 then [t.n]else lI t.op t.n t.kids 0 []:=by cases t;rfl
theorem tF:∀ (l:List Int) (n v:Int),v∈nh l n↔v∈l\/v=n
 |[],n,v=>by simp[nh]
 |x::l,n,v=>by
  simp only[nh]
  split
  ·simp only[List.mem_cons,tF l n v];constructor
   ·rintro(h|h|h)
    ·exact .inl (.inl h)
    ·exact .inl (.inr h)
    ·exact .inr h
   ·rintro((h|h)|h)
    ·exact .inl h
    ·exact .inr (.inl h)
    ·exact .inr (.inr h)
  ·split
   ·rename_i h;subst h;simp only[List.mem_cons];constructor
    ·exact .inl
    ·rintro(h|h)
     ·exact h
     ·exact .inl h
   ·simp only[List.mem_cons];constructor
    ·rintro(h|h)
     ·exact .inr h
     ·exact .inl h
    ·rintro(h|h)
     ·exact .inr h
     ·exact .inl h
abbrev EK(l:List Int):Prop:=l.Pairwise (· <·)
theorem zR:∀ {l:List Int} (n:Int),EK l->EK (nh l n)
 |[],n,_=>by simp[nh]
 |x::l,n,h=>by
  have h1:=List.pairwise_cons.1 h
  simp only[nh]
  split
  ·rename_i hx
   refine List.pairwise_cons.2 ⟨fun y hy=> ?_,zR n h1.2⟩
   rcases(tF l n y).1 hy with hy|hy
   ·exact h1.1 y hy
   ·omega
  ·split
   ·exact h
   ·refine List.pairwise_cons.2 ⟨fun y hy=> ?_,h⟩
    rcases List.mem_cons.1 hy with hy|hy
    ·omega
    ·have:=h1.1 y hy;omega
theorem m4(op n:Int)(i:Nat):∀ (l out:List Int),EK out->EK (n7 op n i l out)/\∀v,v∈n7 op n i l out↔v∈out\/(v∈l/\ ¬ (op=8/\i=1/\n=v))
 |[],out,h=>⟨h,fun v=>by simp[n7]⟩
 |x::l,out,h=>by
  have hk:n7 op n i (x::l) out=n7 op n i l (if(op !=8||(i:Int)!=1||x !=n)=true then nh out x else out):=rfl
  rw[hk]
  by_cases hc:(op !=8||(i:Int)!=1||x !=n)=true
  ·rw[if_pos hc]
   have ih:=m4 op n i l (nh out x) (zR x h)
   refine⟨ih.1,fun v=> ?_⟩
   rw[ih.2 v,tF,List.mem_cons]
   have sn: ¬ (op=8/\i=1/\n=x):=by
    rintro⟨h1,h2,h3⟩;subst h1;subst h2;subst h3;simp at hc
   constructor
   ·rintro((h|h)|h)
    ·exact .inl h
    ·subst h;exact .inr ⟨.inl rfl,sn⟩
    ·exact .inr ⟨.inr h.1,h.2⟩
   ·rintro(h|⟨h|h,h2⟩)
    ·exact .inl (.inl h)
    ·exact .inl (.inr h)
    ·exact .inr ⟨h,h2⟩
  ·rw[if_neg hc]
   have ih:=m4 op n i l out h
   refine⟨ih.1,fun v=> ?_⟩
   rw[ih.2 v,List.mem_cons]
   have sn:op=8/\i=1/\n=x:=by simp at hc;exact⟨hc.1.1,by omega,hc.2.symm⟩
   constructor
   ·rintro(h|h)
    ·exact .inl h
    ·exact .inr ⟨.inr h.1,h.2⟩
   ·rintro(h|⟨h|h,h2⟩)
    ·exact .inl h
    ·subst h;exact absurd sn h2
    ·exact .inr ⟨h,h2⟩
theorem gO:∀t:Tm,EK (dF t)/\∀v,v∈dF t↔il v t=true:=by
 refine Tm.ej fun t ih=> ?_
 have hs:∀ (l:List Tm) (i:Nat) (out:List Int),(∀k∈l,k∈t.kids)->EK out->EK (lI t.op t.n l i out)/\∀v,v∈lI t.op t.n l i out↔v∈out\/xd v t.op t.n l i=true:=by
  intro l
  induction l with
  |nil=>intro i out _ h;exact⟨h,fun v=>by simp[lI,xd]⟩
  |cons k l Gp=>
   intro i out hk h
   have h1:=ih k (hk k (by simp))
   have h2:=m4 t.op t.n i (dF k) out h
   have h3:=Gp (i+1) _ (fun x hx=>hk x (by simp[hx])) h2.1
   refine⟨h3.1,fun v=> ?_⟩
   show v∈lI t.op t.n l (i+1) (n7 t.op t.n i (dF k) out)↔_
   rw[h3.2 v,h2.2 v,h1.2 v,xd]
   simp only[Bool.or_eq_true,Bool.and_eq_true,Bool.not_eq_true',Bool.and_eq_false_iff,beq_eq_false_iff_ne,ne_eq,not_and]
   have:(∀ (_:t.op=8) (_:i=1), ¬t.n=v)↔((¬t.op=8\/ ¬i=1)\/ ¬t.n=v):=by
    constructor
    ·intro h
     by_cases c1:t.op=8
     ·by_cases c2:i=1
      ·exact .inr (h c1 c2)
      ·exact .inl (.inr c2)
     ·exact .inl (.inl c1)
    ·rintro((h|h)|h) c1 c2
     ·exact absurd c1 h
     ·exact absurd c2 h
     ·exact h
   rw[this]
   constructor
   ·rintro((h|h)|h)
    ·exact .inl h
    ·exact .inr (.inl h)
    ·exact .inr (.inr h)
   ·rintro(h|h|h)
    ·exact .inl (.inl h)
    ·exact .inl (.inr h)
    ·exact .inr h
 by_cases h1:t.op=1
 ·rw[px,if_pos h1]
  refine⟨by simp,fun v=> ?_⟩
  rw[qi,if_pos h1]
  simp only[List.mem_singleton,beq_iff_eq]
  exact eq_comm
 ·rw[px,if_neg h1]
  have:=hs t.kids 0 [] (fun _ h=>h) (by simp)
  refine⟨this.1,fun v=> ?_⟩
  rw[this.2 v,qi,if_neg h1]
  simp
theorem Bw{α:Type}{l:List α}{i:Nat}{n:α}(h:l[i]? =some n):(n::l.eraseIdx i).Perm l:=by
 obtain⟨hi,e⟩:=List.getElem?_eq_some_iff.1 h
 have Jy:l=l.take i++n::l.drop (i+1):=by rw[<- e,List.getElem_cons_drop,List.take_append_drop]
 rw[List.eraseIdx_eq_take_drop_succ]
 conv=>rhs;rw[Jy]
 exact List.perm_middle.symm
end Go.Proofs.YtealblliddhgiaaGreat
namespace Go.Proofs.YtealblliddhgiaaGreat
end Go.Proofs.YtealblliddhgiaaGreat
namespace Go.Proofs.YtealblliddhgiaaGreat
section
variable {B:Nat->Prop}{w:World}
end
end Go.Proofs.YtealblliddhgiaaGreat
namespace Go.Proofs.YtealblliddhgiaaGreat
@[reducible] def ZQ (m:List (Int×D)):D:= .mp ((enc (D.int .i64) m).map (·.1)) ((enc (D.int .i64) m).map (·.2))
theorem CI(m:List (Int×D)):(((enc (D.int .i64) m).map (·.1)).zip ((enc (D.int .i64) m).map (·.2)))=enc (D.int .i64) m:=I6 _ m
end Go.Proofs.YtealblliddhgiaaGreat
namespace Go.Proofs.YtealblliddhgiaaGreat
theorem GJ(a b:List Tm)(ha:a.length<=9223372036854775807)(hb:b.length<=9223372036854775807)(g:Nat)(h:∀x∈a,∀y∈b,bC Tryz.prog g [x.d,y.d] (.ret [.bool (hY x y)]))(o:Nat->ab)(nx:Nat)(hg:Good o nx)(K X:V->(Nat->ab)->Nat->Prop)
 (hK:∀o' nx',nx<=nx'->Good o' nx'->(∀j,j<nx->o' j=o j)->K (.d (.bool (a.length==b.length&&gJ a b))) o' nx'):
 eR Tryz.prog 111 [.d (.sl (a.map Tm.d)), .d (.sl (b.map Tm.d)), .func (.func g) [] []] o nx K X:=by
 refine eR.aV mix KF (by simp) ?_
 rw[MP]
 simp+contextual (disch:=first|omega|simp only[go_sem,false_implies]) only[go_sem,wrap64,if_pos,Nat.add_assoc,Nat.left_eq_add,Nat.add_eq_left,Nat.add_left_cancel_iff]
 refine ak (fun h1=> ?_) (fun h1=> ?_)
 ·simp+contextual (disch:=first|omega|simp only[go_sem,false_implies]) only[go_sem,wrap64,if_pos,and_self]
  have:(a.length==b.length&&gJ a b)=false:=by
   have:(a.length==b.length)=false:=by
    rw[Bool.eq_false_iff];intro h
    simp at h;simp[h]at h1
   rw[this];rfl
  rw[this]at hK
  exact hK _ _ (by omega) (hg.mono (by omega)) (fun _ _=>rfl)
 ·have hl:a.length=b.length:=by simp at h1;omega
  have HW:(a.length==b.length)=true:=by simpa using hl
  rw[HW,Bool.true_and]at hK
  simp+contextual (disch:=first|omega|simp only[go_sem,false_implies]) only[go_sem,wrap64,if_pos,Nat.add_assoc,Nat.left_eq_add,Nat.add_eq_left,Nat.add_left_cancel_iff]
  refine aT (fun k:Nat=>⟨bq [.d (.sl (a.map Tm.d)), .d (.sl (b.map Tm.d)), .func (.func g) [] [], .af, .af, .af, .af, .af, .af, .af, .af, .af, .af, .af, .af, .d (.sl (a.map Tm.d)), .d (.i a.length), .d (.i k)],o,nx⟩)
   (fun k=>k<=a.length/\∀i,i<k->∀x y,a[i]? =some x->b[i]? =some y->hY x y=true) (fun k=>a.length - k) 0 ⟨Nat.zero_le _,fun i h=>by omega⟩ (bP.cF _ (Nat.le_refl _) (by omega) hg (fun _ _=>rfl) ?_) (fun k hk=> ?_)
  ·(repeat(first|exact ao|refine ai ?_|refine ag rfl ?_|refine ag (aR (aQ (by omega))) ?_|refine aD rfl (by simp[V.refs,V.ah]<;>first|omega|assumption) ?_))
  simp+contextual (disch:=first|omega|simp only[go_sem,false_implies]) only[go_sem,wrap64,if_pos,and_self]
  refine ak (fun h2=> ?_) (fun h2=> ?_)
  ·simp at h2
   obtain⟨x,hx⟩:=aM h2
   obtain⟨y,hy⟩:=aM (l:=b) (k:=k) (by omega)
   simp+contextual (disch:=first|omega|simp only[go_sem,false_implies]) only[go_sem,wrap64,if_pos,hx,hy,Nat.add_assoc,Nat.left_eq_add,Nat.add_eq_left,Nat.add_left_cancel_iff]
   refine ay (h x (List.mem_of_getElem? hx) y (List.mem_of_getElem? hy)) rfl ?_
   simp+contextual (disch:=first|omega|simp only[go_sem,false_implies]) only[go_sem,wrap64,if_pos,and_self]
   refine ak (fun h3=> ?_) (fun h3=> ?_)
   ·simp+contextual (disch:=first|omega|simp only[go_sem,false_implies]) only[go_sem,wrap64,if_pos,and_self]
    simp at h3
    have:gJ a b=false:=by
     rw[Bool.eq_false_iff];intro h4
     have:=(gM _ _ hl).1 h4 k x y hx hy
     rw[h3]at this;cases this
    rw[this]at hK
    refine hK _ _ (by omega) ?_ (fun j hj=>by(repeat(first|rfl|rw[aa]|rw[ae _ _ _ _ (by omega)])))
    exact(by repeat(first|exact hg.mono (by omega)|exact Good.nil|refine Good.ax ?_ (by omega) rfl|refine Good.ax ?_ (by omega) (cX _ _ _ (by omega))|refine Good.ax ?_ (by omega) (by simp[ab.refs,V.ah,V.refs]<;>omega)))
   ·simp+contextual (disch:=first|omega|simp only[go_sem,false_implies]) only[go_sem,wrap64,if_pos,and_self]
    simp at h3
    refine aA (k+1) ⟨h2,fun i hi u v hu hv=> ?_⟩ (by omega) (bP.cF _ (Nat.le_refl _) (by omega) hg (fun j hj=>by(repeat(first|rfl|rw[aa]|rw[ae _ _ _ _ (by omega)]))) ?_)
    ·by_cases e:i=k
     ·subst e
      rw[hx]at hu;rw[hy]at hv
      injection hu with hu;injection hv with hv;subst hu;subst hv;exact h3
     ·exact hk.2 i (by omega) u v hu hv
    ·(repeat(first|exact ao|refine ai ?_|refine ag rfl ?_|refine ag (aR (aQ (by omega))) ?_|refine aD rfl (by simp[V.refs,V.ah]<;>first|omega|assumption) ?_))
  ·simp+contextual (disch:=first|omega|simp only[go_sem,false_implies]) only[go_sem,wrap64,if_pos,and_self]
   simp at h2
   have:gJ a b=true:=(gM _ _ hl).2 fun i x y hx hy=>hk.2 i (by have:=(List.getElem?_eq_some_iff.1 hx).1;omega) x y hx hy
   rw[this]at hK
   exact hK _ _ (by omega) (hg.mono (by omega)) (fun _ _=>rfl)
theorem Jc:∀a:Tm,a.fits->∀b:Tm,b.fits->bC Tryz.prog 75 [a.d,b.d] (.ret [.bool (hY a b)]):=by
 refine Tm.ej fun a ih ha b hb=> ?_
 have Ja:=(Tm.bD _).1 ha
 have Ez:=(Tm.bD _).1 hb
 refine bC.aV mix Q3 (by simp) ?_
 rw[V3,pj]
 simp+contextual (disch:=first|omega|simp only[go_sem,false_implies]) only[go_sem,wrap64,if_pos,and_self]
 refine y0 (ak (fun h1=> ?_) (fun h1=> ?_))
 ·rw[h1]
  simp+contextual (disch:=first|omega|simp only[go_sem,false_implies]) only[go_sem,wrap64,if_pos,h1]
  refine dP (GJ a.kids b.kids Ja.1 Ez.1 75 (fun x hx y hy=>ih x hx (Ja.2 x hx) y (Ez.2 y hy)) _ _ (by repeat(first|exact hg.mono (by omega)|exact Good.nil|refine Good.ax ?_ (by omega) rfl|refine Good.ax ?_ (by omega) (cX _ _ _ (by omega))|refine Good.ax ?_ (by omega) (by simp[ab.refs,V.ah,V.refs]<;>omega))) _ _ fun o2 n2 m1 m2 m3=> ?_)
  simp+contextual (disch:=first|omega|simp only[go_sem,false_implies]) only[go_sem,wrap64,if_pos,h1]
 ·rw[h1]
  simp+contextual (disch:=first|omega|simp only[go_sem,false_implies]) only[go_sem,wrap64,if_pos,h1]
theorem qU(n:Int):bC Tryz.prog 65 [.i n] (.ret [(Tm.mk 1 n []).d]):=by
 refine bC.aV mix QW (by simp) ?_
 rw[VT]
 simp+contextual (disch:=first|omega|simp only[go_sem,false_implies]) only[go_sem,wrap64,if_pos,and_self]
 rw[Tm.DV]
 rfl
theorem Nv(n:Int):bC Tryz.prog 73 [.i n] (.ret [(Tm.mk 1 n []).d]):=by
 refine bC.aV mix Q2 (by simp) ?_
 rw[V1]
 simp+contextual (disch:=first|omega|simp only[go_sem,false_implies]) only[go_sem,wrap64,if_pos,and_self]
 rw[Tm.DV]
 rfl
end Go.Proofs.YtealblliddhgiaaGreat
namespace Go.Proofs.YtealblliddhgiaaGreat
def lk:List (Int×Int)->Int->Option Int
 |[],_=>none
 |p::m,v=>if p.1=v then some p.2 else lk m v
abbrev WC(m:List (Int×Int)):Prop:=(m.map (·.1)).Nodup
def ints(m:List (Int×Int)):List (Int×D):=m.map fun p=>(p.1,D.i p.2)
end Go.Proofs.YtealblliddhgiaaGreat
namespace Go.Proofs.YtealblliddhgiaaGreat
def bL:List (Int×Tm)->Int->Option Tm
 |[],_=>none
 |p::l,v=>if p.1=v then some p.2 else bL l v
mutual
def WD:Tm->List Int
 | .mk op n kids=>(if op=1\/op=8 then [n]else [])++Sq kids
def Sq:List Tm->List Int
 |[]=>[]
 |k::l=>WD k++Sq l
end
def xe(b:List (Int×Tm))(t:Tm):List Int:=WD t++b.flatMap fun p=>p.1::WD p.2
def GK(l:List Int):Nat->Int->Int
 |0,n=>n
 |f+1,n=>if n∈l then GK l f (n+1)else n
def xf(l:List Int):Int:=GK l (l.length+1) 0
def Sr(inner:List (Int×Tm))(body:Tm)(n:Int):Bool:=inner.any fun p=>il p.1 body&&il n p.2
def Bx(b:List (Int×Tm))(n:Int):List (Int×Tm):=b.filter fun p=>p.1!=n
def fi:Nat->List (Int×Tm)->Tm->Tm
 |0,_,t=>t
 |f+1,b,t=>if t.op=1 then(match bL b t.n with|some x=>x|none=>t)
  else if t.op=8 then(match t.kids with
   |[a,body]=>if Sr (Bx b t.n) body t.n=true then .mk 8 (xf (xe b t)) [fi f b a,fi f (Bx b t.n) (fi f [(t.n, .mk 1 (xf (xe b t)) [])] body)]
    else .mk 8 t.n [fi f b a,fi f (Bx b t.n) body]
   |_=>t)
  else .mk t.op t.n (t.kids.map (fi f b))
mutual
def Tm.wf:Tm->Prop
 | .mk op _ kids=>(op=1->kids=[])/\(op=8->kids.length=2)/\Tm.Nw kids
def Tm.Nw:List Tm->Prop
 |[]=>True
 |k::l=>k.wf/\Tm.Nw l
end
theorem Tm.CJ:∀l:List Tm,Tm.Nw l↔∀k∈l,k.wf
 |[]=>by simp[Tm.Nw]
 |k::l=>by simp[Tm.Nw,Tm.CJ l]
theorem Tm.j8 (t:Tm):t.wf↔(t.op=1->t.kids=[])/\(t.op=8->t.kids.length=2)/\∀k∈t.kids,k.wf:=by cases t;simp[Tm.wf,Tm.CJ,Tm.op,Tm.kids]
theorem xg{t:Tm}(h:t.kids.length=2):∃a b,t.kids=[a,b]:=by
 match hk:t.kids with
 |[a,b]=>exact⟨a,b,rfl⟩
 |[]=>rw[hk]at h;cases h
 |[_]=>rw[hk]at h;cases h
 |_::_::_::_=>rw[hk]at h;simp at h
theorem kN{b:List (Int×Tm)}{v:Int}:bL b v=none↔v∉b.map (·.1):=by
 induction b with
 |nil=>simp[bL]
 |cons p l ih=>
  simp only[bL,List.map_cons,List.mem_cons,not_or]
  split
  ·rename_i h;simp[h]
  ·rename_i h;rw[ih];exact⟨fun h2=>⟨fun e=>h e.symm,h2⟩,fun h2=>h2.2⟩
theorem gU{b:List (Int×Tm)}{v:Int}{x:Tm}(h:bL b v=some x):(v,x)∈b:=by
 induction b with
 |nil=>cases h
 |cons p l ih=>
  simp only[bL]at h
  split at h
  ·rename_i e;injection h with h;subst h;subst e;exact List.mem_cons_self ..
  ·exact List.mem_cons_of_mem _ (ih h)
theorem m5:∀ (f:Nat) (t:Tm) (b:List (Int×Tm)),t.wf->t.eB<=f->(∀p∈b,p.2.op=1/\p.2.kids=[])->(fi f b t).eB=t.eB/\(fi f b t).wf/\(fi f b t).sz=t.sz
 |0,t,_,_,h,_=>by cases t;simp only[Tm.eB]at h;omega
 |f+1,t,b,hw,hf,hb=>by
  have rv:=(Tm.j8 t).1 hw
  have leaf:∀x:Tm,x.op=1->x.kids=[]->x.eB=1/\x.wf/\x.sz=1:=by
   intro x h1 h2
   obtain⟨op,n,kids⟩:=x
   simp only[Tm.op,Tm.kids]at h1 h2
   subst h1;subst h2
   refine⟨by simp[Tm.eB,Tm.eV],by simp[Tm.wf,Tm.Nw],by rw[Tm.iH];rfl⟩
  have Ss:∀p∈Bx b t.n,p.2.op=1/\p.2.kids=[]:=fun p hp=>hb p (List.mem_filter.1 hp).1
  have one:∀m:Int,∀p∈[(t.n,Tm.mk 1 m [])],p.2.op=1/\p.2.kids=[]:=by intro m p hp;simp at hp;subst hp;exact⟨rfl,rfl⟩
  simp only[fi]
  split
  ·rename_i h1
   have l1:=leaf t h1 (rv.1 h1)
   split
   ·rename_i x hx
    have:=hb _ (gU hx)
    have l2:=leaf x this.1 this.2
    exact⟨l2.1.trans l1.1.symm,l2.2.1,l2.2.2.trans l1.2.2.symm⟩
   ·exact⟨rfl,hw,rfl⟩
  ·split
   ·rename_i h8
    obtain⟨a,body,hk⟩:=xg (rv.2.1 h8)
    have ha:a∈t.kids:=by rw[hk];simp
    have K4:body∈t.kids:=by rw[hk];simp
    have g1:=Tm.gR ha
    have g2:=Tm.gR K4
    have e1:=m5 f a b (rv.2.2 a ha) (by omega) hb
    have e2:=m5 f body _ (rv.2.2 body K4) (by omega) Ss
    have e3:=fun m=>m5 f body _ (rv.2.2 body K4) (by omega) (one m)
    have e4:=fun m=>m5 f (fi f [(t.n, .mk 1 m [])] body) _ (e3 m).2.1 (by rw[(e3 m).1];omega) Ss
    have fin:∀ (n:Int) (x y:Tm),x.eB=a.eB->x.wf->x.sz=a.sz->y.eB=body.eB->y.wf->y.sz=body.sz->(Tm.mk 8 n [x,y]).eB=t.eB/\(Tm.mk 8 n [x,y]).wf/\(Tm.mk 8 n [x,y]).sz=t.sz:=by
     intro n x y q1 q2 q3 q4 q5 q6
     rw[Tm.j7,Tm.j7 t,Tm.iH,Tm.iH t,hk]
     simp only[Tm.kids,kM,eH,q1,q3,q4,q6]
     exact⟨trivial,by simp[Tm.wf,Tm.Nw,q2,q5],trivial⟩
    rw[hk]
    simp only
    split
    ·exact fin _ _ _ e1.1 e1.2.1 e1.2.2 ((e4 _).1.trans (e3 _).1) (e4 _).2.1 ((e4 _).2.2.trans (e3 _).2.2)
    ·exact fin _ _ _ e1.1 e1.2.1 e1.2.2 e2.1 e2.2.1 e2.2.2
   ·rename_i h1 h8
    have ih:∀k∈t.kids,(fi f b k).eB=k.eB/\(fi f b k).wf/\(fi f b k).sz=k.sz:=fun k hk=>by
     have:=Tm.gR hk
     exact m5 f k b (rv.2.2 k hk) (by omega) hb
    have hl:∀l:List Tm,(∀k∈l,k∈t.kids)->Tm.eV (l.map (fi f b))=Tm.eV l/\jO (l.map (fi f b))=jO l:=by
     intro l
     induction l with
     |nil=>intro _;exact⟨rfl,rfl⟩
     |cons k l Gp=>
      intro h
      have i1:=ih k (h k (by simp))
      have i2:=Gp fun x hx=>h x (by simp[hx])
      simp only[List.map_cons,kM,eH,i1.1,i1.2.2,i2.1,i2.2]
      exact⟨trivial,trivial⟩
    have:=hl t.kids fun _ h=>h
    rw[Tm.j7,Tm.j7 t,Tm.iH,Tm.iH t,Tm.j8]
    refine⟨by show 1+Tm.eV (t.kids.map (fi f b))=_;rw[this.1],⟨fun h=>absurd h h1,fun h=>absurd h h8,fun k hk=> ?_⟩,by show 1+jO (t.kids.map (fi f b))=_;rw[this.2]⟩
    obtain⟨x,hx,rfl⟩:=List.mem_map.1 hk
    exact(ih x hx).2.1
theorem iV:∀ (f f':Nat) (t:Tm) (b:List (Int×Tm)),t.wf->t.eB<=f->t.eB<=f'->fi f b t=fi f' b t
 |0,_,t,_,_,h,_=>by cases t;simp only[Tm.eB]at h;omega
 |_,0,t,_,_,_,h=>by cases t;simp only[Tm.eB]at h;omega
 |f+1,f'+1,t,b,hw,h1,h2=>by
  have rv:=(Tm.j8 t).1 hw
  simp only[fi]
  split
  ·rfl
  ·split
   ·rename_i h8
    obtain⟨a,body,hk⟩:=xg (rv.2.1 h8)
    have ha:a∈t.kids:=by rw[hk];simp
    have K4:body∈t.kids:=by rw[hk];simp
    have g1:=Tm.gR ha
    have g2:=Tm.gR K4
    rw[hk]
    simp only
    have e0:=fun m=>m5 f' body [(t.n, .mk 1 m [])] (rv.2.2 body K4) (by omega) (by intro p hp;simp at hp;subst hp;exact⟨rfl,rfl⟩)
    rw[iV f f' a b (rv.2.2 a ha) (by omega) (by omega),iV f f' body (Bx b t.n) (rv.2.2 body K4) (by omega) (by omega),
     iV f f' body [(t.n, .mk 1 (xf (xe b t)) [])] (rv.2.2 body K4) (by omega) (by omega),
     iV f f' (fi f' [(t.n, .mk 1 (xf (xe b t)) [])] body) (Bx b t.n) (e0 _).2.1 (by rw[(e0 _).1];omega) (by rw[(e0 _).1];omega)]
   ·rw[List.map_congr_left fun k hk=>iV f f' k b (rv.2.2 k hk) (by have:=Tm.gR hk;omega) (by have:=Tm.gR hk;omega)]
theorem py:∀ (f:Nat) (t:Tm),t.wf->fi f [] t=t
 |0,_,_=>rfl
 |f+1,t,hw=>by
  have rv:=(Tm.j8 t).1 hw
  simp only[fi]
  split
  ·rfl
  ·split
   ·rename_i h8
    obtain⟨a,body,hk⟩:=xg (rv.2.1 h8)
    rw[hk]
    simp only[Bx,List.filter_nil,Sr,List.any_nil,Bool.false_eq_true,if_false]
    rw[py f a (rv.2.2 a (by rw[hk];simp)),py f body (rv.2.2 body (by rw[hk];simp)), <- hk, <- h8]
    exact Tm.eta t
   ·rw[List.map_congr_left fun k hk=>py f k (rv.2.2 k hk),List.map_id']
    exact Tm.eta t
end Go.Proofs.YtealblliddhgiaaGreat
namespace Go.Proofs.YtealblliddhgiaaGreat
end Go.Proofs.YtealblliddhgiaaGreat
namespace Go.Proofs.YtealblliddhgiaaGreat
end Go.Proofs.YtealblliddhgiaaGreat
namespace Go.Proofs.YtealblliddhgiaaGreat
theorem K5(l:List Int)(n:Int)(hl:l.length<=1000000):bC Tryz.prog 106 [.sl (l.map .i), .i n] (.ret [.bool (l.contains n)]):=by
 refine bC.aV mix KC (by simp) ?_
 rw[MO]
 simp+contextual (disch:=first|omega|simp only[go_sem,false_implies]) only[go_sem,wrap64,if_pos,and_self]
 refine aT (fun k:Nat=>⟨bq [.d (.sl (l.map .i)), .d (.i n), .af, .af, .af, .d (.i k)],fun _=> .no,0⟩)
  (fun k=>k<=l.length/\(l.take k).contains n=false) (fun k=>l.length - k) 0 ⟨Nat.zero_le _,by simp⟩ (bP.d0 _ ?_) (fun k hk=> ?_)
 ·(repeat(first|exact ao|refine ai ?_|refine ag rfl ?_|refine ag (aR (aQ (by omega))) ?_|refine aD rfl (by simp[V.refs,V.ah]<;>first|omega|assumption) ?_))
 simp+contextual (disch:=first|omega|simp only[go_sem,false_implies]) only[go_sem,wrap64,if_pos,and_self]
 refine ak (fun h2=> ?_) (fun h2=> ?_)
 ·simp at h2
  obtain⟨x,hx⟩:=aM h2
  simp+contextual (disch:=first|omega|simp only[go_sem,false_implies]) only[go_sem,wrap64,if_pos,hx]
  refine ak (fun h3=> ?_) (fun h3=> ?_)
  ·simp+contextual (disch:=first|omega|simp only[go_sem,false_implies]) only[go_sem,wrap64,if_pos,and_self]
   have:l.contains n=true:=by
    rw[List.contains_iff_mem, <- (by simpa using h3:x=n)];exact List.mem_of_getElem? hx
   rw[this]
  ·simp+contextual (disch:=first|omega|simp only[go_sem,false_implies]) only[go_sem,wrap64,if_pos,and_self]
   refine aA (k+1) ⟨h2, ?_⟩ (by omega) (bP.d0 _ ?_)
   ·have h4: ¬n=x:=fun e=>by subst e;simp at h3
    have h5:=hk.2
    rw[List.take_add_one,hx]
    rw[Bool.eq_false_iff]at h5|-
    intro hc;apply h5
    rw[List.contains_iff_mem]at hc|-
    rcases List.mem_append.1 hc with hc|hc
    ·exact hc
    ·simp at hc;exact absurd hc h4
   ·(repeat(first|exact ao|refine ai ?_|refine ag rfl ?_|refine ag (aR (aQ (by omega))) ?_|refine aD rfl (by simp[V.refs,V.ah]<;>first|omega|assumption) ?_))
 ·simp at h2
  simp+contextual (disch:=first|omega|simp only[go_sem,false_implies]) only[go_sem,wrap64,if_pos,and_self]
  have:=hk.2
  rw[List.take_of_length_le (by omega)]at this
  rw[this]
theorem tG:∀ (l:List Int) (n:Int),∃k,k<=l.length/\(∀x∈l.take k,x<n)/\(∀x,l[k]? =some x-> ¬x<n)/\nh l n=if l[k]? =some n then l else l.take k++n::l.drop k
 |[],n=>⟨0,Nat.zero_le _,by simp,by simp,by simp[nh]⟩
 |x::l,n=>by
  obtain⟨k,h1,h2,h3,h4⟩:=tG l n
  by_cases hx:x<n
  ·refine⟨k+1,by simp;omega, ?_,by simpa using h3, ?_⟩
   ·intro y hy
    simp only[List.take_succ_cons,List.mem_cons]at hy
    rcases hy with rfl|hy
    ·exact hx
    ·exact h2 y hy
   ·simp only[nh,if_pos hx,h4,List.getElem?_cons_succ,List.take_succ_cons,List.drop_succ_cons]
    split<;>simp
  ·refine⟨0,Nat.zero_le _,by simp,by simpa using hx, ?_⟩
   simp only[nh,if_neg hx]
   by_cases e:x=n
   ·subst e;simp
   ·simp[e]
theorem Su(l:List Int)(n:Int)(hl:l.length<=1000000):bC Tryz.prog 86 [.sl (l.map .i), .i n] (.ret [.sl ((nh l n).map .i)]):=by
 obtain⟨j,j1,j2,j3,j4⟩:=tG l n
 have tk:∀ (i:Nat) (l:List Int),List.take i (l.map D.i)=(l.take i).map D.i:=fun i l=>List.map_take.symm
 have dr:∀ (i:Nat) (l:List Int),List.drop i (l.map D.i)=(l.drop i).map D.i:=fun i l=>List.map_drop.symm
 have ap:∀ (a b:List Int),a.map D.i++[D.i n]++b.map D.i=(a++n::b).map D.i:=fun a b=>by simp
 refine bC.aV mix Rb (by simp) ?_
 rw[We]
 simp+contextual (disch:=first|omega|simp only[go_sem,false_implies]) only[go_sem,wrap64,if_pos,and_self]
 refine aT (fun k:Nat=>⟨bq [.d (.sl (l.map .i)), .d (.i n), .af, .af, .af, .d (.i k)],fun _=> .no,0⟩)
  (fun k=>k<=j) (fun k=>l.length - k) 0 (Nat.zero_le _) (bP.d0 _ ?_) (fun k hk=> ?_)
 ·(repeat(first|exact ao|refine ai ?_|refine ag rfl ?_|refine ag (aR (aQ (by omega))) ?_|refine aD rfl (by simp[V.refs,V.ah]<;>first|omega|assumption) ?_))
 by_cases WE:k=j
 ·subst WE
  by_cases h5:k<l.length
  ·obtain⟨x,hx⟩:=aM h5
   have h6:=j3 x hx
   have oj:(k:Int)<l.length:=by omega
   simp+contextual (disch:=first|omega|simp only[go_sem,false_implies]) only[go_sem,wrap64,if_pos,hx,oj,h6]
   refine ak (fun h3=> ?_) (fun h3=> ?_)
   ·simp+contextual (disch:=first|omega|simp only[go_sem,false_implies]) only[go_sem,wrap64,if_pos,and_self]
    have e:x=n:=by simpa using h3
    rw[j4,if_pos (by rw[hx,e])]
   ·have e: ¬x=n:=by simpa using h3
    rw[j4,if_neg (by rw[hx];simpa using e)]
    simp+contextual (disch:=first|omega|simp only[go_sem,false_implies]) only[go_sem,wrap64,if_pos,hx,oj,h6,tk,dr,List.take_length,List.length_map,List.length_take,List.length_drop,List.length_append,List.length_cons,List.length_nil]
    rw[ap]
    refine aP (by decide) ?_
    simp+contextual (disch:=first|omega|simp only[go_sem,false_implies]) only[go_sem,wrap64,if_pos,and_self]
  ·have oj: ¬ (k:Int)<l.length:=by omega
   have hx:l[k]? =none:=by simp;omega
   rw[j4,if_neg (by rw[hx];simp)]
   simp+contextual (disch:=first|omega|simp only[go_sem,false_implies]) only[go_sem,wrap64,if_pos,oj,tk,dr,List.take_length,List.length_map,List.length_take,List.length_drop,List.length_append,List.length_cons,List.length_nil]
   rw[ap]
   refine aP (by decide) ?_
   simp+contextual (disch:=first|omega|simp only[go_sem,false_implies]) only[go_sem,wrap64,if_pos,and_self]
 ·have bI:k<l.length:=by omega
  obtain⟨x,hx⟩:=aM bI
  have oj:(k:Int)<l.length:=by omega
  have h6:x<n:=j2 x (List.mem_of_getElem? (i:=k) (by rw[List.getElem?_take_of_lt (by omega)];exact hx))
  simp+contextual (disch:=first|omega|simp only[go_sem,false_implies]) only[go_sem,wrap64,if_pos,hx,oj,h6]
  refine aA (k+1) (by omega) (by omega) (bP.d0 _ ?_)
  (repeat(first|exact ao|refine ai ?_|refine ag rfl ?_|refine ag (aR (aQ (by omega))) ?_|refine aD rfl (by simp[V.refs,V.ah]<;>first|omega|assumption) ?_))
theorem El{op n:Int}{i:Nat}{l:List Int}{k:Nat}{v:Int}(h:l[k]? =some v)(out:List Int):n7 op n i (l.take (k+1)) out=if(op !=8||(i:Int)!=1||v !=n)=true then nh (n7 op n i (l.take k) out) v else n7 op n i (l.take k) out:=by
 unfold n7
 rw[List.take_add_one,h,List.foldl_append]
 rfl
end Go.Proofs.YtealblliddhgiaaGreat
namespace Go.Proofs.YtealblliddhgiaaGreat
theorem CK{v op n:Int}(h:op≠8):∀ (l:List Tm) (i:Nat),xd v op n l i=l.any (il v)
 |[],i=>rfl
 |k::l,i=>by
  have:(op==8)=false:=by simpa using h
  simp[xd,CK h l,this]
theorem GL{s:aW}{t:Tm}(h:bA s t=true)(h1:t.op=1):t.kids=[]:=by
 simp[bA,h1]at h
 exact h.1
end Go.Proofs.YtealblliddhgiaaGreat
namespace Go.Proofs.YtealblliddhgiaaGreat
theorem Nx{t a body:Tm}{v:Int}(h8:t.op=8)(hk:t.kids=[a,body]):il v t=(il v a||(il v body&& !(t.n==v))):=by
 rw[qi,hk,h8]
 simp[xd]
theorem n9{v n:Int}:il v (.mk 1 n [])=(n==v):=rfl
theorem GM{t:Tm}{v:Int}(h1:t.op≠1)(h8:t.op≠8):il v t=t.kids.any (il v):=by rw[qi,if_neg h1,CK h8]
end Go.Proofs.YtealblliddhgiaaGreat
namespace Go.Proofs.YtealblliddhgiaaGreat
def WG(R:Int->Int->Prop)(x y:Int):Int->Int->Prop:=fun v w=>(v=x/\w=y)\/(v≠x/\w≠y/\R v w)
inductive Al:(Int->Int->Prop)->Tm->Tm->Prop where
 |var {R:Int->Int->Prop} {v w:Int} (h:R v w):Al R (.mk 1 v []) (.mk 1 w [])
 |Bz {R:Int->Int->Prop} {n m:Int} {a a' b b':Tm} (ha:Al R a a') (hb:Al (WG R n m) b b'):Al R (.mk 8 n [a,b]) (.mk 8 m [a',b'])
 |node {R:Int->Int->Prop} {op n:Int} {l l':List Tm} (h1:op≠1) (h8:op≠8) (hl:l.length=l'.length) (h:∀ (i:Nat) (k k':Tm),l[i]? =some k->l'[i]? =some k'->Al R k k'):Al R (.mk op n l) (.mk op n l')
theorem Al.mono {R:Int->Int->Prop}{t t':Tm}(h:Al R t t'):∀ {S:Int->Int->Prop},(∀v w,R v w->S v w)->Al S t t':=by
 induction h with
 |var h=>exact fun hs=> .var (hs _ _ h)
 |Bz ha hb WH WI=>
  exact fun hs=> .Bz (WH hs) (WI fun v w h=>h.elim Or.inl fun h=>Or.inr ⟨h.1,h.2.1,hs _ _ h.2.2⟩)
 |node h1 h8 hl h ih=>exact fun hs=> .node h1 h8 hl fun i k k' g g'=>ih i k k' g g' hs
def Sv(R S:Int->Int->Prop):Int->Int->Prop:=fun v w=>∃u,R v u/\S u w
theorem Al.comp {R:Int->Int->Prop}{t t1:Tm}(h:Al R t t1):∀ {S:Int->Int->Prop} {t2:Tm},Al S t1 t2->Al (Sv R S) t t2:=by
 induction h with
 |var h=>
  intro S t2 h2
  generalize he:Tm.mk 1 _ []=x at h2
  cases h2 with
  |var h3=>injection he with _ e _;subst e;exact .var ⟨_,h,h3⟩
  |Bz _ _=>injection he with e;cases e
  |node g1 _ _ _=>injection he with e;exact absurd e.symm g1
 |Bz ha hb WH WI=>
  intro S t2 h2
  generalize he:Tm.mk 8 _ _=x at h2
  cases h2 with
  |var h3=>injection he with e;cases e
  |Bz g1 g2=>
   injection he with _ e1 e2
   injection e2 with e2 e3
   injection e3 with e3 _
   subst e1;subst e2;subst e3
   refine .Bz (WH g1) ((WI g2).mono ?_)
   rintro v w ⟨u,(⟨p1,p2⟩|⟨p1,p2,p3⟩),(⟨q1,q2⟩|⟨q1,q2,q3⟩)⟩
   ·exact Or.inl ⟨p1,q2⟩
   ·exact absurd p2 q1
   ·exact absurd q1 p2
   ·exact Or.inr ⟨p1,q2,u,p3,q3⟩
  |node g1 g8 _ _=>injection he with e;exact absurd e.symm g8
 |node h1 h8 hl h ih=>
  intro S t2 h2
  generalize he:Tm.mk _ _ _=x at h2
  cases h2 with
  |var h3=>injection he with e;exact absurd e h1
  |Bz _ _=>injection he with e;exact absurd e h8
  |node g1 g8 gl g3=>
   injection he with e1 e2 e3
   subst e1;subst e2;subst e3
   refine .node h1 h8 (hl.trans gl) fun i k k2 hk ZR=> ?_
   have bI:i<_:=(List.getElem?_eq_some_iff.1 hk).1
   have AK:=List.getElem?_eq_getElem (hl ▸ bI)
   exact ih i k _ hk AK (g3 i _ k2 AK ZR)
theorem xh{t:Tm}(hw:t.wf)(h:t.op=1):t= .mk 1 t.n []:=by
 obtain⟨op,n,kids⟩:=t
 rw[Tm.j8]at hw
 simp only[Tm.op,Tm.n,Tm.kids]at h hw|-
 rw[h,hw.1 h]
end Go.Proofs.YtealblliddhgiaaGreat
namespace Go.Proofs.YtealblliddhgiaaGreat
theorem kO{pr:List (List Nat)}{fp:List (List Nat×List Nat)}(h:((List.range fp.length).all fun j=>(List.range j).all fun i=>((dR pr []).getD j 0).testBit i||((fp.getD i ([],[])).2.isEmpty&&(fp.getD j ([],[])).2.isEmpty))=true):eg pr fp=true:=by
 unfold eg
 rw[List.all_eq_true]at h|-
 intro j hj
 have h:=h j hj
 rw[List.all_eq_true]at h|-
 intro i hi
 have h:=h i hi
 rw[Bool.or_eq_true]at h|-
 refine h.imp id fun h=> ?_
 simp only[Bool.and_eq_true,List.isEmpty_iff]at h
 rw[h.1,h.2]
 rfl
def IC.snd:IC->IC
 | .seq _ y=>y
 |c=>c
def IC.fst:IC->IC
 | .seq x _=>x
 | .block _ x=>x
 | .loop x=>x
 | .cond _ x _=>x
 |c=>c
@[reducible] def WJ (m:List (Int×Int)):ab:= .map 3 3 (enc (D.int .i64) (ints m))
@[reducible] def WK (m:List (Int×Int)):ab:= .eY (enc (D.int .i64) (ints m))
def ZS(o:Nat->ab)(bv:V)(m:List (Int×Int)):Prop:=(bv= .d .cU/\m=[])\/∃b,bv= .mp b/\o b=WK m
structure WL (o:Nat->ab) (nx ZT Yq:Nat) (bv:V) (mB bd fr:List (Int×Int)) (n:Int) (sz:Nat):Prop where
 df:Good o nx
 hc:o ZT= .row [.d (.i n), .mp Yq]
 hf:o Yq=WJ fr
 hb:ZS o bv mB
 kb:WC mB
 lk:∀v,lk mB v=lk bd v
 n0:0<=n
 n1:n+sz<=1000000
@[go_sem] theorem OH {P:Program} {kt:TypeId} {k:D} {i:Nat}:findD P kt k [] i=some none:=rfl
theorem xi{R:List Nat}{o:Nat->ab}{id:Nat}(h:id∈R):B2 R o id=o id:=by simp[B2,h]
theorem tH{R:List Nat}{o:Nat->ab}{nx:Nat}(bI:∀id∈R,id<nx)(lV:∀id∈R,∀j∈(o id).refs,j∈R):Good (B2 R o) nx:=by
 refine⟨fun id aw=> ?_,fun id r hr=> ?_⟩
 ·have:id∉R:=fun hm=>by have:=bI id hm;omega
  simp[B2,this]
 ·by_cases aw:id∈R
  ·rw[xi aw]at hr;exact bI r (lV id aw r hr)
  ·have:B2 R o id= .no:=by simp[B2,aw]
   rw[this]at hr;cases hr
end Go.Proofs.YtealblliddhgiaaGreat
namespace Go.Proofs.YtealblliddhgiaaGreat
theorem ez{c:Nat}{G:List Gr}{so:Nat->ab}{gone:Nat->Prop}{x x' y y':ab}(h:x=y)(h':x'=y')(hs:zB c G so gone y y'):zB c G so gone x x':=by rw[h,h'];exact hs
theorem vz{c:Nat}{G:List Gr}{so:Nat->ab}{gone:Nat->Prop}{e:Nat->V}:∀ {l:List V} {i:Nat},jl c e l i->mA c G so gone e l i
 |[],_,_=>trivial
 |v::l,i,h=>⟨h.1.elim .inl fun h=> .inr (.inl ⟨h.1,fun r hr=>h.2 r (by rw[h.1];exact hr)⟩),vz h.2⟩
theorem rL:∀l:List Tm,l.length<=jO l
 |[]=>by simp[jO]
 |k::l=>by have:=rL l;have:=Tm.mD k;rw[eH,List.length_cons];omega
end Go.Proofs.YtealblliddhgiaaGreat
namespace Go.Proofs.YtealblliddhgiaaGreat
theorem Tm.iD {t k:Tm}(hk:k∈t.kids):k.sz+1<=t.sz:=by
 have:=Tm.vw hk
 rw[Tm.kL,Tm.kL]at this
 omega
theorem Tm.Jd:∀t:Tm,t.sz<=1000000->t.fits:=by
 refine Tm.ej fun t ih h=> ?_
 rw[Tm.bD]
 refine⟨?_,fun k hk=>ih k hk (by have:=Tm.iD hk;omega)⟩
 have:=rL t.kids
 rw[Tm.iH]at h
 omega
def xL(b:List (Int×Tm)):List (Int×D):=b.map fun p=>(p.1,p.2.d)
@[reducible] def Je (b:List (Int×Tm)):D:=ZQ (xL b)
theorem tI:∀ (m:List (Int×Tm)) (v:Int) (i:Nat),(match iN v (xL m) i with|some (_,x)=>some x|none=>none)=(bL m v).map Tm.d
 |[],_,_=>rfl
 |p::m,v,i=>by
  have ih:=tI m v (i+1)
  simp only[xL,List.map_cons,iN,bL]at ih|-
  by_cases h:v=p.1
  ·subst h;simp
  ·have h2: ¬p.1=v:=fun e=>h e.symm
   simp only[beq_iff_eq,h,h2,if_false]
   exact ih
theorem ef{m:List (Int×Tm)}{v:Int}{x:Tm}(h:bL m v=some x):∃j,iN v (xL m) 0=some (j,x.d):=by
 have:=tI m v 0
 rw[h]at this
 cases h2:iN v (xL m) 0 with
 |none=>rw[h2]at this;cases this
 |some p=>obtain⟨j,y⟩:=p;rw[h2]at this;simp at this;subst this;exact⟨j,rfl⟩
theorem dk{m:List (Int×Tm)}{v:Int}(h:bL m v=none):iN v (xL m) 0=none:=by
 have:=tI m v 0
 rw[h]at this
 cases h2:iN v (xL m) 0 with
 |none=>rfl
 |some p=>rw[h2]at this;cases this
theorem CL(o:Nat->ab)(b:List (Int×Tm))(v:Int):gQ Tryz.prog o 78 (.d (Je b)) (.d (.int .i64 v)) true=some (match bL b v with|some x=> .bU [.d x.d, .d (.bool true)]|none=> .bU [.agg [.d (.i 0), .d (.i 0), .br], .d (.bool false)],[],[]):=by
 cases h:bL b v with
 |none=>
  simp+contextual (disch:=first|omega|simp only[go_sem,false_implies]) only[go_sem,wrap64,if_pos,CI,dk h]
 |some x=>
  obtain⟨j,hj⟩:=ef h
  simp+contextual (disch:=first|omega|simp only[go_sem,false_implies]) only[go_sem,wrap64,if_pos,CI,hj]
structure WM (b:List (Int×Tm)):Prop where
 keys:(b.map (·.1)).Nodup
 len:b.length<=1000
 sz:∀p∈b,p.2.sz<=1000
 cp:∀p∈b,bC Tryz.prog 53 [Je [],p.2.d] (.ret [p.2.d])
def Jf(t:Tm):Prop:=∀b,WM b->bC Tryz.prog 53 [Je b,t.d] (.ret [(fi t.eB b t).d])
def CM:IC:=QL.snd.snd.snd.snd.fst.snd.fst.fst
def GN(b:List (Int×Tm))(k:Tm):Tm:=fi k.eB b k
theorem CN{t:Tm}{b:List (Int×Tm)}(hz:t.sz<=1000)(ih:∀k∈t.kids,Jf k)(hb:WM b){o:Nat->ab}{c r:Nat}{op' N:Int}{e:Nat->V}{Q:fO->S->Prop}
 (hg:Good o c) (hc:r<c) (h1c:1<c) (oo:o r= .row [.d (.i op'), .d (.i N), .br])
 (he:jl c e [.d (Je b), .af, .af, .ptr 0 0, .ptr 1 0, .af, .af, .ptr r 0, .af, .af, .af, .af, .af, .af, .af, .af, .af, .af, .af, .af, .af, .af, .af, .af, .af, .af, .af, .af, .af, .af, .af, .af, .af, .af, .af, .af, .af, .af, .d (.sl (t.kids.map Tm.d)), .d (.i t.kids.length), .d (.i 0)] 0)
 (hQ:∀e' o' nx',e' 4= .ptr 1 0->e' 7= .ptr r 0->c<=nx'->Good o' nx'->o' r= .row [.d (.i op'), .d (.i N), .osl c 0]->o' c= .arr 0 28 3 ((t.kids.map (GN b)).map Tm.d)->(∀j,j<c->j≠r->o' j=o j)->Q (.exit 0) ⟨e',o',nx'⟩):
 yW 0 (fun Q s=>lA Tryz.prog 54 0 false CM Q s) Q ⟨e,o,c⟩:=by
 have hlen:=rL t.kids
 have dL:jO t.kids<=1000:=by rw[Tm.iH]at hz;omega
 refine aT (fun i:Nat=>⟨bq [.d (Je b), .af, .af, .ptr 0 0, .ptr 1 0, .af, .af, .ptr r 0, .af, .af, .af, .af, .af, .af, .af, .af, .af, .af, .af, .af, .af, .af, .af, .af, .af, .af, .af, .af, .af, .af, .af, .af, .af, .af, .af, .af, .af, .af, .d (.sl (t.kids.map Tm.d)), .d (.i t.kids.length), .d (.i i)],ax (ax o r (.row [.d (.i op'), .d (.i N), .osl c 0])) c (.arr 0 28 3 (((t.kids.take i).map (GN b)).map Tm.d)),c+1⟩)
  (fun i=>i<=t.kids.length) (fun i=>t.kids.length - i) 0 (Nat.zero_le _) (bP.tp (ty:=28) (sz:=3) (es:=[]) (fun _=>False) .br c _ (by omega) (fun j hj=> ?_) (by rw[aa];simp) (.inl ⟨rfl,rfl,by decide⟩) (fun j hj=> ?_) (fun _ h=>h.elim) (vz he)) ?_
 ·by_cases e1:j=r
  ·subst e1
   exact ez oo (by(repeat(first|rfl|rw[aa]|rw[ae _ _ _ _ (by omega)]))) (kH rfl (j6 (j6 (w6 0 rfl rfl rfl kG))))
  ·exact ez rfl (by(repeat(first|rfl|rw[aa]|rw[ae _ _ _ _ (by omega)]))) (dA rfl (fun r hr=>hg.refs j r hr))
 ·(repeat(first|rfl|rw[aa]|rw[ae _ _ _ _ (by omega)]))
  exact hg.fresh j (by omega)
 rintro k hk
 have hk:k<=t.kids.length:=hk
 have y1:r≠c:=by omega
 have y2:∀k,r≠c+k:=fun k=>by omega
 simp only[CM,QL,IC.snd,IC.fst]
 simp+contextual (disch:=first|omega|simp only[go_sem,false_implies]) only[go_sem,wrap64,if_pos,oo,y1,y2,Nat.add_assoc,Nat.left_eq_add,Nat.add_eq_left,Nat.add_left_cancel_iff,List.length_map]
 refine ak (fun h2=> ?_) (fun h2=> ?_)
 ·simp at h2
  obtain⟨x,hx⟩:=aM h2
  have gS:=List.mem_of_getElem? hx
  simp+contextual (disch:=first|omega|simp only[go_sem,false_implies]) only[go_sem,wrap64,if_pos,oo,y1,y2,Nat.add_assoc,Nat.left_eq_add,Nat.add_eq_left,Nat.add_left_cancel_iff,List.length_map,hx]
  refine cc (rs:=[(GN b x).d]) (ih x gS b hb) ?_
  have e0:(t.kids.take k).length=k:=by rw[List.length_take];omega
  simp+contextual (disch:=first|omega|simp only[go_sem,false_implies]) only[go_sem,wrap64,if_pos,oo,y1,y2,Nat.add_assoc,Nat.left_eq_add,Nat.add_eq_left,Nat.add_left_cancel_iff,List.length_map,e0]
  refine aP (zy (ids:=[r,c,c+4]) (nx:=c+10) (by simp;omega) (by simp;omega) [([0],[]),([0],[]),([],[]),([2],[]),([],[]),([],[4]),([1,4],[1]),([0],[]),([0,1],[0])] (by decide)) ?_
  simp+contextual (disch:=first|omega|simp only[go_sem,false_implies]) only[go_sem,wrap64,if_pos,Nat.add_assoc,Nat.left_eq_add,Nat.add_eq_left,Nat.add_left_cancel_iff]
  have Sw:t.kids.take (k+1)=t.kids.take k++[x]:=by rw[List.take_add_one,hx];rfl
  refine aA (k+1) h2 (by omega) (bP.tp (fun j=>j=c) (.osl c 1) c _ (by omega) (fun j hj=> ?_) (aa _ _ _) (.inr ⟨c,1,rfl,rfl,by(repeat(first|rfl|rw[aa]|rw[ae _ _ _ _ (by omega)]));rw[Sw,List.map_append,List.map_append];rfl⟩) (fun j hj=> ?_) (fun j h h2=>by omega) ?_)
  ·by_cases e1:j=r
   ·subst e1
    exact ez (y:= .row [.d (.i op'), .d (.i N), .osl c 1]) (by(repeat(first|rfl|rw[aa]|rw[ae _ _ _ _ (by omega)]))) (by(repeat(first|rfl|rw[aa]|rw[ae _ _ _ _ (by omega)]))) (kH rfl (j6 (j6 (w6 0 rfl rfl rfl kG))))
   ·exact ez (y:=o j) (by(repeat(first|rfl|rw[aa]|rw[ae _ _ _ _ (by omega)]))) (by(repeat(first|rfl|rw[aa]|rw[ae _ _ _ _ (by omega)]))) (dA rfl (fun r hr=>hg.refs j r hr))
  ·(repeat(first|rfl|rw[aa]|rw[ae _ _ _ _ (by omega)]))
   exact hg.fresh j (by omega)
  ·(repeat(first|exact dZ|refine cZ ?_|refine cJ rfl ?_|refine cJ (aR (aQ (by omega))) ?_|refine iB 0 rfl rfl rfl ?_|refine iA rfl (by simp[V.refs,V.ah]<;>first|omega|assumption) ?_|refine iC rfl (by simp[V.ids]<;>omega) ?_))
 ·simp at h2
  simp+contextual (disch:=first|omega|simp only[go_sem,false_implies]) only[go_sem,wrap64,if_pos,and_self]
  have NI:k=t.kids.length:=by omega
  subst NI
  refine hQ _ _ _ rfl rfl ?_ ?_ ?_ ?_ (fun j g1 g2=> ?_)
  ·omega
  ·exact(by repeat(first|exact hg.mono (by omega)|exact Good.nil|refine Good.ax ?_ (by omega) rfl|refine Good.ax ?_ (by omega) (cX _ _ _ (by omega))|refine Good.ax ?_ (by omega) (by simp[ab.refs,V.ah,V.refs]<;>omega)))
  ·(repeat(first|rfl|rw[aa]|rw[ae _ _ _ _ (by omega)]))
  ·(repeat(first|rfl|rw[aa]|rw[ae _ _ _ _ (by omega)]))
   rw[List.take_length]
  ·(repeat(first|rfl|rw[aa]|rw[ae _ _ _ _ (by omega)]))
end Go.Proofs.YtealblliddhgiaaGreat
