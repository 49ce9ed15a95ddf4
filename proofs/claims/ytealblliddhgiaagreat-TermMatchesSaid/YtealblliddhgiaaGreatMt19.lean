/-
  A PART OF THE PROOF. Conditions: none.
-/
import Derived.Test.YtealblliddhgiaaGreatMt18
set_option linter.unusedSimpArgs false
set_option linter.unusedVariables false
namespace Go.Proofs.YtealblliddhgiaaGreat
mutual
def Tm.ke:Tm->Prop
 | .mk _ _ kids=>kids.length<=1000/\Tm.Ha kids
def Tm.Ha:List Tm->Prop
 |[]=>True
 |k::l=>k.ke/\Tm.Ha l
end
theorem Tm.zZ:∀l:List Tm,Tm.Ha l↔∀k∈l,k.ke
 |[]=>by simp[Tm.Ha]
 |k::l=>by simp[Tm.Ha,Tm.zZ l]
theorem Tm.eX (t:Tm):t.ke↔t.kids.length<=1000/\∀k∈t.kids,k.ke:=by cases t;simp[Tm.ke,Tm.zZ,Tm.kids]
theorem Tm.xu:∀t:Tm,t.sz<=1000->t.ke:=by
 refine Tm.ej fun t ih h=> ?_
 rw[Tm.eX]
 have:=rL t.kids
 have h2:=Tm.iH t
 exact⟨by omega,fun k hk=>ih k hk (by have:=Tm.iD hk;omega)⟩
theorem Tm.tR {b:List (Int×Tm)}(hb:∀p∈b,p.2.ke):∀t:Tm,t.ke->(bf b t).ke:=by
 refine Tm.ej fun t ih h=> ?_
 have h':=(Tm.eX t).1 h
 rw[qj]
 split
 ·split
  ·rename_i x hx;exact hb _ (gU hx)
  ·exact h
 ·rw[Tm.eX]
  refine⟨by simp only[Tm.kids,List.length_map];exact h'.1,fun k hk=> ?_⟩
  obtain⟨y,hy,rfl⟩:=List.mem_map.1 hk
  exact ih y hy (h'.2 y hy)
theorem Tm.mM:∀t:Tm,t.ke->t.fits:=by
 refine Tm.ej fun t ih h=> ?_
 have h':=(Tm.eX t).1 h
 rw[Tm.bD]
 exact⟨by omega,fun k hk=>ih k hk (h'.2 k hk)⟩
theorem xw{s:aW}:∀t:Tm,Vs s t->t.ke->∀l:List TB,l.length<=100->bC Tryz.prog 18 [t.d, .sl (l.map TB.d)] (.ret [(bf (aq l) t).d]):=by
 refine Tm.ej fun t ih hv hw l hlen=> ?_
 have rv:=(Tm.eX t).1 hw
 refine bC.aV mix Qs (by simp) ?_
 rw[U8]
 by_cases h1:t.op=1
 ·have eI:(t.op==1)=true:=by simpa using h1
  simp+contextual (disch:=first|omega|simp only[go_sem,false_implies]) only[go_sem,wrap64,if_pos,eI]
  refine ay (GR l t.n (by omega)) rfl ?_
  rcases CO l t.n with⟨f1,f2⟩|⟨k,x,f1,f2,f3⟩
  ·have hs:bf (aq l) t=t:=by rw[qj,if_pos h1,f2]
   have f3:decide (0<=findF l t.n)=false:=by simpa using f1
   rw[hs]
   simp+contextual (disch:=first|omega|simp only[go_sem,false_implies]) only[go_sem,wrap64,if_pos,eI,f3]
  ·have hs:bf (aq l) t=x.term:=by rw[qj,if_pos h1,f3]
   rw[hs,f1]
   simp+contextual (disch:=first|omega|simp only[go_sem,false_implies]) only[go_sem,wrap64,if_pos,eI,f2]
 ·have eI:(t.op==1)=false:=by simpa using h1
  have Jg:(t.op==8)=false:=by simpa using hv.n8
  rw[mH h1]
  simp+contextual (disch:=first|omega|simp only[go_sem,false_implies]) only[go_sem,wrap64,if_pos,eI,Jg]
  refine aT (fun i:Nat=>⟨bq [.af, .d (.sl (l.map TB.d)), .ptr 0 0, .af, .ptr 1 0, .af, .osl 2 0, .d (.i i)],ax (ax (ax (fun _=> .no) 0 (.row t.row)) 1 (.row [.d (.i 0), .d (.i 0), .br])) 2 (.arr 0 28 3 (((t.kids.take i).map (bf (aq l))).map Tm.d)),3⟩)
   (fun i=>i<=t.kids.length) (fun i=>t.kids.length - i) 0 (Nat.zero_le _) (bP.tp (ty:=28) (sz:=3) (es:=[]) (fun _=>False) .br 2 _ (by omega) (Yg (dA rfl (by simp[ab.refs,V.ah,V.refs])) (dA rfl (by simp[ab.refs,V.ah,V.refs]))) (by rw[aa];simp) (.inl ⟨rfl,rfl,by decide⟩) (fun j hj=>by(repeat(first|rfl|rw[aa]|rw[ae _ _ _ _ (by omega)]))) (fun _ h=>h.elim) ?_) ?_
  ·(repeat(first|exact dZ|refine cZ ?_|refine cJ rfl ?_|refine cJ (aR (aQ (by omega))) ?_|refine iB 0 rfl rfl rfl ?_|refine iA rfl (by simp[V.refs,V.ah]<;>first|omega|assumption) ?_|refine iC rfl (by simp[V.ids]<;>omega) ?_))
  rintro k hk
  replace hk:k<=t.kids.length:=hk
  simp+contextual (disch:=first|omega|simp only[go_sem,false_implies]) only[go_sem,wrap64,if_pos,List.length_map]
  refine ak (fun h2=> ?_) (fun h2=> ?_)
  ·simp at h2
   obtain⟨x,hx⟩:=aM h2
   have gS:=List.mem_of_getElem? hx
   have Sw:t.kids.take (k+1)=t.kids.take k++[x]:=by rw[List.take_add_one,hx];rfl
   have e0:(t.kids.take k).length=k:=by rw[List.length_take];omega
   simp+contextual (disch:=first|omega|simp only[go_sem,false_implies]) only[go_sem,wrap64,if_pos,List.length_map,hx,e0]
   refine aU (rs:=[(bf (aq l) x).d]) (ih x gS (hv.lU gS) (rv.2 x gS) l hlen) ?_
   simp+contextual (disch:=first|omega|simp only[go_sem,false_implies]) only[go_sem,wrap64,if_pos,List.length_map,hx,e0]
   refine aA (k+1) h2 (by omega) (bP.tp (fun j=>j=2) (.osl 2 1) 2 _ (by omega) (Yg (ez (y:= .row t.row) (by(repeat(first|rfl|rw[aa]|rw[ae _ _ _ _ (by omega)]))) (by(repeat(first|rfl|rw[aa]|rw[ae _ _ _ _ (by omega)]))) (dA rfl (by simp[ab.refs,V.ah,V.refs]))) (ez (y:= .row [.d (.i 0), .d (.i 0), .br]) (by(repeat(first|rfl|rw[aa]|rw[ae _ _ _ _ (by omega)]))) (by(repeat(first|rfl|rw[aa]|rw[ae _ _ _ _ (by omega)]))) (dA rfl (by simp[ab.refs,V.ah,V.refs])))) (aa _ _ _) (.inr ⟨2,1,rfl,rfl,by(repeat(first|rfl|rw[aa]|rw[ae _ _ _ _ (by omega)]));rw[Sw,List.map_append,List.map_append];rfl⟩) (fun j hj=>by(repeat(first|rfl|rw[aa]|rw[ae _ _ _ _ (by omega)]))) (fun j h h2=>by omega) ?_)
   (repeat(first|exact dZ|refine cZ ?_|refine cJ rfl ?_|refine cJ (aR (aQ (by omega))) ?_|refine iB 0 rfl rfl rfl ?_|refine iA rfl (by simp[V.refs,V.ah]<;>first|omega|assumption) ?_|refine iC rfl (by simp[V.ids]<;>omega) ?_))
  ·simp at h2
   have TA:k=t.kids.length:=by omega
   subst TA
   rw[List.take_length]
   simp+contextual (disch:=first|omega|simp only[go_sem,false_implies]) only[go_sem,wrap64,if_pos,List.length_map]
   rw[Tm.DV]
theorem xy{s:aW}{t:Tm}(hv:Vs s t):(dF t).length<=20:=rM (fun n hn=>hv.range (((gO t).2 n).1 hn)) (gO t).1
theorem z7{s:aW}:∀t:Tm,Vs s t->t.ke->bC Tryz.prog 46 [t.d] (.ret [.sl ((dF t).map .i)]):=by
 refine Tm.ej fun t ih hv ht=> ?_
 have rv:=(Tm.eX t).1 ht
 refine bC.aV mix QI (by simp) ?_
 rw[VB]
 by_cases h1:t.op=1
 ·simp+contextual (disch:=first|omega|simp only[go_sem,false_implies]) only[go_sem,wrap64,if_pos,h1]
  rw[px,if_pos h1]
  rfl
 ·have eI:(t.op==1)=false:=by simpa using h1
  have b1:(t.op !=8)=true:=by simpa using hv.n8
  simp+contextual (disch:=first|omega|simp only[go_sem,false_implies]) only[go_sem,wrap64,if_pos,eI]
  rw[px,if_neg h1]
  refine aT (fun i:Nat×List Int=>⟨bq [.af, .ptr 0 0, .af, .d (.sl (i.2.map .i)), .d (.i i.1)],js t.row,1⟩)
   (fun i=>i.1<=t.kids.length/\lI t.op t.n t.kids 0 []=lI t.op t.n (t.kids.drop i.1) i.1 i.2/\EK i.2/\∀v∈i.2,0<=v/\v<20) (fun i=>t.kids.length - i.1) (0,[]) ⟨Nat.zero_le _,rfl,List.Pairwise.nil,fun _ h=>by cases h⟩
   (bP.R8 (fun _=>False) 1 _ (by omega) (Ws (dA rfl (by simp[ab.refs,V.ah,V.refs]))) (fun j hj=>ae _ _ _ _ (by omega)) (fun _ h=>h.elim) ?_) ?_
  ·try dsimp only
   (repeat(first|exact dZ|refine cZ ?_|refine cJ rfl ?_|refine cJ (aR (aQ (by omega))) ?_|refine iB 0 rfl rfl rfl ?_|refine iA rfl (by simp[V.refs,V.ah]<;>first|omega|assumption) ?_|refine iC rfl (by simp[V.ids]<;>omega) ?_))
  rintro⟨k,out⟩ ⟨hk,EG,SK,YC⟩
  simp only at hk EG SK YC
  simp+contextual (disch:=first|omega|simp only[go_sem,false_implies]) only[go_sem,wrap64,if_pos,and_self]
  refine ak (fun h2=> ?_) (fun h2=> ?_)
  ·simp at h2
   obtain⟨x,hx⟩:=aM h2
   have gS:=List.mem_of_getElem? hx
   have vx:=hv.lU gS
   have HK:=xy vx
   have Br:t.kids.drop k=x::t.kids.drop (k+1):=by
    obtain⟨h5,h6⟩:=List.getElem?_eq_some_iff.1 hx
    rw[List.drop_eq_getElem_cons h5,h6]
   have part:∀L:List Int,(∀v∈L,v∈dF x)->EK (n7 t.op t.n k L out)/\∀v∈n7 t.op t.n k L out,0<=v/\v<20:=fun L hL=>by
    obtain⟨q1,q2⟩:=m4 t.op t.n k L out SK
    refine⟨q1,fun v zU=> ?_⟩
    rcases(q2 v).1 zU with h|h
    ·exact YC v h
    ·exact vx.range (((gO x).2 v).1 (hL v h.1))
   simp+contextual (disch:=first|omega|simp only[go_sem,false_implies]) only[go_sem,wrap64,if_pos,hx]
   refine aU (ih x gS vx (rv.2 x gS)) ?_
   simp+contextual (disch:=first|omega|simp only[go_sem,false_implies]) only[go_sem,wrap64,if_pos,hx]
   refine aT (fun j:Nat=>⟨bq [.af, .ptr 0 0, .af, .d (.sl ((n7 t.op t.n k ((dF x).take j) out).map .i)), .d (.i k), .d (.sl ((dF x).map .i)), .d (.i j)],js t.row,1⟩)
    (fun j=>j<=(dF x).length) (fun j=>(dF x).length - j) 0 (Nat.zero_le _) (bP.d1 _ (bw rfl) (by omega) rfl ?_) (fun j hj=> ?_)
   ·(repeat(first|exact ao|refine ai ?_|refine ag rfl ?_|refine ag (aR (aQ (by omega))) ?_|refine aD rfl (by simp[V.refs,V.ah]<;>first|omega|assumption) ?_))
   simp+contextual (disch:=first|omega|simp only[go_sem,false_implies]) only[go_sem,wrap64,if_pos,and_self]
   refine ak (fun h3=> ?_) (fun h3=> ?_)
   ·simp at h3
    obtain⟨v,zU⟩:=aM h3
    have vO:=part ((dF x).take j) (fun v hv=>List.mem_of_mem_take hv)
    have TA:=rM vO.2 vO.1
    have hc:(t.op !=8||(k:Int)!=1||v !=t.n)=true:=by rw[b1];rfl
    simp+contextual (disch:=first|omega|simp only[go_sem,false_implies]) only[go_sem,wrap64,if_pos,zU,b1]
    refine aP (by decide) ?_
    simp+contextual (disch:=first|omega|simp only[go_sem,false_implies]) only[go_sem,wrap64,if_pos,zU]
    refine aU (Su _ v (by omega)) ?_
    simp+contextual (disch:=first|omega|simp only[go_sem,false_implies]) only[go_sem,wrap64,if_pos,and_self]
    refine aA (j+1) h3 (by omega) (bP.d1 _ (bw rfl) (by omega) rfl ?_)
    rw[El zU,if_pos hc]
    (repeat(first|exact ao|refine ai ?_|refine ag rfl ?_|refine ag (aR (aQ (by omega))) ?_|refine aD rfl (by simp[V.refs,V.ah]<;>first|omega|assumption) ?_))
   ·simp at h3
    simp+contextual (disch:=first|omega|simp only[go_sem,false_implies]) only[go_sem,wrap64,if_pos,and_self]
    rw[List.take_of_length_le (by omega)]
    obtain⟨p1,p2⟩:=part (dF x) (fun v hv=>hv)
    refine aA (k+1,n7 t.op t.n k (dF x) out) ⟨h2,by rw[EG,Br];rfl,p1,p2⟩ (by dsimp only;omega) (bP.d1 _ (bw rfl) (by omega) rfl ?_)
    (repeat(first|exact ao|refine ai ?_|refine ag rfl ?_|refine ag (aR (aQ (by omega))) ?_|refine aD rfl (by simp[V.refs,V.ah]<;>first|omega|assumption) ?_))
  ·simp at h2
   simp+contextual (disch:=first|omega|simp only[go_sem,false_implies]) only[go_sem,wrap64,if_pos,and_self]
   rw[EG,List.drop_eq_nil_of_le (by omega)]
   rfl
end Go.Proofs.YtealblliddhgiaaGreat
namespace Go.Proofs.YtealblliddhgiaaGreat
@[reducible] def Hb (m:List (Int×Tm)):ab:= .eY (enc (D.int .i64) (xL m))
def ND(b:List (Int×Tm))(x:ab):Prop:=x=dG b\/x=Hb b
theorem SL{m:ab}{b:List (Int×Tm)}{f:Nat}{t x:Tm}(h:ka f b t=some x){o:Nat->ab}{nx id:Nat}(hg:Good o nx)(hm:m=dG b\/m=Hb b)(ho:o id=m)(K X:V->(Nat->ab)->Nat->Prop)
 (hK:∀o' nx',nx<=nx'->Good o' nx'->(∀j,j<nx->o' j=o j)->K (.d (BB x)) o' nx'):eR Tryz.prog 101 [.mp id, .d t.d] o nx K X:=by
 rcases hm with rfl|rfl
 all_goals
  have bI:id<nx:=hg.lt (by rw[ho];exact ab.noConfusion)
  have y1:id≠nx:=by omega
  have y2:∀k,id≠nx+k:=fun k=>by omega
  refine eR.aV mix Gc (by simp) ?_
  rw[IV]
  simp+contextual (disch:=first|omega|simp only[go_sem,false_implies]) only[go_sem,wrap64,if_pos,ho,y1,y2,Nat.add_assoc,Nat.left_eq_add,Nat.add_eq_left,Nat.add_left_cancel_iff]
  refine aT (fun i:Nat×Tm=>⟨bq [.mp id, .af, .af, .ptr nx 0],ax o nx (.row i.2.row),nx+1⟩)
   (fun i=>ka i.1 b i.2=some x) (fun i=>i.1) (f,t) h ?_ ?_
  ·dsimp only
   refine bP.cF _ (by omega) (by omega) (by repeat(first|exact hg.mono (by omega)|exact Good.nil|refine Good.ax ?_ (by omega) rfl|refine Good.ax ?_ (by omega) (cX _ _ _ (by omega))|refine Good.ax ?_ (by omega) (by simp[ab.refs,V.ah,V.refs]<;>omega))) (fun j hj=> ?_) ?_
   ·(repeat(first|rfl|rw[aa]|rw[ae _ _ _ _ (by omega)]))
   ·(repeat(first|exact ao|refine ai ?_|refine ag rfl ?_|refine ag (aR (aQ (by omega))) ?_|refine aD rfl (by simp[V.refs,V.ah]<;>first|omega|assumption) ?_))
  rintro⟨f,t⟩ hf
  simp only at hf
  simp+contextual (disch:=first|omega|simp only[go_sem,false_implies]) only[go_sem,wrap64,if_pos,ho,y1,y2,Nat.add_assoc,Nat.left_eq_add,Nat.add_eq_left,Nat.add_left_cancel_iff]
  refine aU (lJ t) ?_
  cases f with
  |zero=>cases hf
  |succ f=>
  simp only[ka]at hf
  by_cases h1:t.op=1
  ·rw[if_pos h1]at hf
   rw[seeD_1 h1]
   cases hl:bL b t.n with
   |none=>
    rw[hl]at hf
    injection hf with hf
    subst hf
    simp+contextual (disch:=first|omega|simp only[go_sem,false_implies]) only[go_sem,wrap64,if_pos,ho,y1,y2,Nat.add_assoc,Nat.left_eq_add,Nat.add_eq_left,Nat.add_left_cancel_iff,dk hl]
    refine aU (lJ t) ?_
    rw[seeD_1 h1]at hK|-
    simp+contextual (disch:=first|omega|simp only[go_sem,false_implies]) only[go_sem,wrap64,if_pos,and_self]
    exact hK _ _ (by omega) (by repeat(first|exact hg.mono (by omega)|exact Good.nil|refine Good.ax ?_ (by omega) rfl|refine Good.ax ?_ (by omega) (cX _ _ _ (by omega))|refine Good.ax ?_ (by omega) (by simp[ab.refs,V.ah,V.refs]<;>omega))) (fun j hj=>by(repeat(first|rfl|rw[aa]|rw[ae _ _ _ _ (by omega)])))
   |some z=>
    rw[hl]at hf
    obtain⟨j,hj⟩:=ef hl
    simp+contextual (disch:=first|omega|simp only[go_sem,false_implies]) only[go_sem,wrap64,if_pos,ho,y1,y2,Nat.add_assoc,Nat.left_eq_add,Nat.add_eq_left,Nat.add_left_cancel_iff,hj]
    refine aA (f,z) hf (by dsimp only;omega) (bP.cF _ (by omega) (by omega) (by repeat(first|exact hg.mono (by omega)|exact Good.nil|refine Good.ax ?_ (by omega) rfl|refine Good.ax ?_ (by omega) (cX _ _ _ (by omega))|refine Good.ax ?_ (by omega) (by simp[ab.refs,V.ah,V.refs]<;>omega))) (fun j hj=> ?_) ?_)
    ·by_cases e:j=nx
     ·subst e;(repeat(first|rfl|rw[aa]|rw[ae _ _ _ _ (by omega)]))
     ·(repeat(first|rfl|rw[aa]|rw[ae _ _ _ _ (by omega)]))
    ·(repeat(first|exact ao|refine ai ?_|refine ag rfl ?_|refine ag (aR (aQ (by omega))) ?_|refine aD rfl (by simp[V.refs,V.ah]<;>first|omega|assumption) ?_))
  ·rw[if_neg h1]at hf
   injection hf with hf
   subst hf
   rw[seeD_2 h1]at hK|-
   cases hl:bL b 0 with
   |none=>
    simp+contextual (disch:=first|omega|simp only[go_sem,false_implies]) only[go_sem,wrap64,if_pos,ho,y1,y2,Nat.add_assoc,Nat.left_eq_add,Nat.add_eq_left,Nat.add_left_cancel_iff,dk hl]
    refine aU (lJ t) ?_
    rw[seeD_2 h1]
    simp+contextual (disch:=first|omega|simp only[go_sem,false_implies]) only[go_sem,wrap64,if_pos,and_self]
    exact hK _ _ (by omega) (by repeat(first|exact hg.mono (by omega)|exact Good.nil|refine Good.ax ?_ (by omega) rfl|refine Good.ax ?_ (by omega) (cX _ _ _ (by omega))|refine Good.ax ?_ (by omega) (by simp[ab.refs,V.ah,V.refs]<;>omega))) (fun j hj=>by(repeat(first|rfl|rw[aa]|rw[ae _ _ _ _ (by omega)])))
   |some z=>
    obtain⟨j,hj⟩:=ef hl
    simp+contextual (disch:=first|omega|simp only[go_sem,false_implies]) only[go_sem,wrap64,if_pos,ho,y1,y2,Nat.add_assoc,Nat.left_eq_add,Nat.add_eq_left,Nat.add_left_cancel_iff,hj]
    refine aU (lJ t) ?_
    rw[seeD_2 h1]
    simp+contextual (disch:=first|omega|simp only[go_sem,false_implies]) only[go_sem,wrap64,if_pos,and_self]
    exact hK _ _ (by omega) (by repeat(first|exact hg.mono (by omega)|exact Good.nil|refine Good.ax ?_ (by omega) rfl|refine Good.ax ?_ (by omega) (cX _ _ _ (by omega))|refine Good.ax ?_ (by omega) (by simp[ab.refs,V.ah,V.refs]<;>omega))) (fun j hj=>by(repeat(first|rfl|rw[aa]|rw[ae _ _ _ _ (by omega)])))
theorem SM{b:List (Int×Tm)}{f:Nat}{t x:Tm}(h:ka f b t=some x){o:Nat->ab}{nx id:Nat}(hg:Good o nx)(ho:ND b (o id))(K X:V->(Nat->ab)->Nat->Prop)
 (hK:∀o' nx',nx<=nx'->Good o' nx'->(∀j,j<nx->o' j=o j)->K (.d (BB x)) o' nx'):eR Tryz.prog 101 [.mp id, .d t.d] o nx K X:=SL h hg ho rfl K X hK
def WhK(lp:Nat)(r:Option Tm×Int)(o:Nat->ab)(nx:Nat)(K:V->(Nat->ab)->Nat->Prop):Prop:=
 ∀o' nx',nx<=nx'->Good o' nx'->(∀j,j<nx->j≠lp->o' j=o j)->o' lp= .row [.d (.i r.2)]->
  match r.1 with
  |none=>K (.bU [.agg [.d (.i 0), .d (.i 0), .br], .d (.bool false)]) o' nx'
  |some x=>∀c,nx<=c->o' c= .arr 0 28 3 (x.kids.map Tm.d)->K (.bU [.agg [.d (.i x.op), .d (.i x.n), .osl c 0], .d (.bool true)]) o' nx'
def WX(b:List (Int×Tm))(f:Nat):Prop:=∀ (t:Tm) (left d:Int) (r:Option Tm×Int),oh t/\t.ke->vC f b t left d=some r->(0<=left/\left<=1000)->(0<=d/\d<=1000)->∀ (o:Nat->ab) (nx id lp:Nat),Good o nx->ND b (o id)->o lp= .row [.d (.i left)]->∀ (K X:V->(Nat->ab)->Nat->Prop),
    WhK lp r o nx K->eR Tryz.prog 64 [.mp id, .d t.d, .ptr lp 0, .d (.i d)] o nx K X
theorem Hc{x:Tm}(hx:x.wf):∃g y,qD Tryz.prog "swingle/term.term" (.d (BB x))=some (g, .d y)/\bC Tryz.prog g [y] (.ret [x.d]):=by
 by_cases h1:x.op=1
 ·refine⟨125, .i x.n, ?_, ?_⟩
  ·rw[seeD_1 h1];kernel_rfl
  ·have:=xn x.n
   rwa [<- xh hx h1]at this
 ·refine⟨128,x.d, ?_,rN x⟩
  rw[seeD_2 h1];kernel_rfl
def Hd(C2:List Tm):Option (Option (List Tm)×Int)->Option (Option (List Tm)×Int)
 |some (some ys,l)=>some (some (C2++ys),l)
 |some (none,l)=>some (none,l)
 |none=>none
theorem He{F:Tm->Int->Option (Option Tm×Int)}(hF:∀k l y l1,F k l=some (some y,l1)->0<=l->0<=l1/\l1<=l):∀ (ks:List Tm) (l:Int) (ys:List Tm) (l1:Int),ud F ks l=some (some ys,l1)->0<=l->0<=l1/\l1<=l
 |[],l,ys,l1,h,h0=>by simp only[ud]at h;injection h with h;injection h with _ h;omega
 |k::ks,l,ys,l1,h,h0=>by
  simp only[ud]at h
  cases e:F k l with
  |none=>rw[e]at h;cases h
  |some r=>
   obtain⟨y,l2⟩:=r
   rw[e]at h
   cases y with
   |none=>simp only at h;injection h with h;injection h with h;cases h
   |some y=>
    simp only at h
    have h2:=hF k l y l2 e h0
    cases e2:ud F ks l2 with
    |none=>rw[e2]at h;cases h
    |some r2=>
     obtain⟨zs,l3⟩:=r2
     rw[e2]at h
     cases zs with
     |none=>simp only at h;injection h with h;injection h with h;cases h
     |some zs=>
      have:=He hF ks l2 zs l3 e2 h2.1
      simp only at h
      injection h with h
      injection h with _ h
      omega
theorem Ld{b:List (Int×Tm)}:∀ (f:Nat) (t:Tm) (left d:Int) (y:Tm) (l1:Int),vC f b t left d=some (some y,l1)->0<=left->0<=l1/\l1<=left
 |0,_,_,_,_,_,h,_=>by cases h
 |f+1,t,left,d,y,l1,h,h0=>by
  simp only[vC]at h
  cases e:ka f b t with
  |none=>rw[e]at h;cases h
  |some x=>
   rw[e]at h
   simp only at h
   split at h
   ·injection h with h;injection h with h;cases h
   ·rename_i h1
    cases e2:ud (fun k l=>vC f b k l (d - 1)) x.kids (left - 1)with
    |none=>rw[e2]at h;cases h
    |some r=>
     obtain⟨ys,l2⟩:=r
     rw[e2]at h
     cases ys with
     |none=>simp only at h;injection h with h;injection h with h;cases h
     |some ys=>
      have:=He (fun k l y l1 hk=>Ld f k l (d - 1) y l1 hk) x.kids (left - 1) ys l2 e2 (by omega)
      simp only at h
      injection h with h
      injection h with _ h
      omega
theorem BD{b:List (Int×Tm)}(hb:∀p∈b,oh p.2/\p.2.ke){f:Nat}(ih:WX b f):WX b (f+1):=by
 intro t left d r ht h hl hd o nx id lp hg ho hp K X hK
 have bI:id<nx:=hg.lt (by rcases ho with ho|ho<;>rw[ho]<;>exact ab.noConfusion)
 have hlp:lp<nx:=hg.lt (by rw[hp];exact ab.noConfusion)
 have TH:id≠lp:=fun e=>by subst e;rw[hp]at ho;rcases ho with ho|ho<;>cases ho
 have y1:id≠nx:=by omega
 have y2:∀k,id≠nx+k:=fun k=>by omega
 have y3:lp≠nx:=by omega
 have y4:∀k,lp≠nx+k:=fun k=>by omega
 simp only[vC]at h
 cases e1:ka f b t with
 |none=>rw[e1]at h;cases h
 |some x=>
 rw[e1]at h
 simp only at h
 have hx:=qo (P:=fun t=>oh t/\t.ke) hb f t x ht e1
 have nb:=(Tm.eX x).1 hx.2
 refine eR.aV mix QV (by simp) ?_
 rw[VS]
 simp+contextual (disch:=first|omega|simp only[go_sem,false_implies]) only[go_sem,wrap64,if_pos,hp,y1,y2,y3,y4,Nat.add_assoc,Nat.left_eq_add,Nat.add_eq_left,Nat.add_left_cancel_iff]
 refine jN (SM e1 (id:=id) ?_ ?_ _ _ fun o1 n1 g1 g2 g3=> ?_)
 ·exact(by repeat(first|exact hg.mono (by omega)|exact Good.nil|refine Good.ax ?_ (by omega) rfl|refine Good.ax ?_ (by omega) (cX _ _ _ (by omega))|refine Good.ax ?_ (by omega) (by simp[ab.refs,V.ah,V.refs]<;>omega)))
 ·(repeat(first|rfl|rw[aa]|rw[ae _ _ _ _ (by omega)]))
  exact ho
 have kU:ND b (o1 id):=by rw[g3 id (by omega)];(repeat(first|rfl|rw[aa]|rw[ae _ _ _ _ (by omega)]));exact ho
 have vU:o1 lp= .row [.d (.i left)]:=by rw[g3 lp (by omega)];(repeat(first|rfl|rw[aa]|rw[ae _ _ _ _ (by omega)]));exact hp
 clear hg
 have hg:=g2
 have z1:∀k,id≠n1+k:=fun k=>by omega
 have z2:∀k,lp≠n1+k:=fun k=>by omega
 obtain⟨gm,ym,WO,su⟩:=Hc hx.1.2
 have q8:o1 (nx+1)= .row [.d (.i 0), .d (.i 0), .br]:=by rw[g3 _ (by omega)];(repeat(first|rfl|rw[aa]|rw[ae _ _ _ _ (by omega)]))
 have z3:∀k,nx+1≠n1+k:=fun k=>by omega
 have z5:lp≠nx+1:=by omega
 have z6:nx+1≠lp:=by omega
 have cL:∀j,j<nx->o1 j=o j:=fun j hj=>by rw[g3 j (by omega)];(repeat(first|rfl|rw[aa]|rw[ae _ _ _ _ (by omega)]))
 simp+contextual (disch:=first|omega|simp only[go_sem,false_implies]) only[go_sem,wrap64,if_pos,vU,z1,z2,Nat.add_assoc,Nat.left_eq_add,Nat.add_eq_left,Nat.add_left_cancel_iff,WO]
 refine A7 su ?_
 simp+contextual (disch:=first|omega|simp only[go_sem,false_implies]) only[go_sem,wrap64,if_pos,vU,z1,z2,Nat.add_assoc,Nat.left_eq_add,Nat.add_eq_left,Nat.add_left_cancel_iff]
 by_cases h1:left - 1<0\/d=0
 ·rw[if_pos h1]at h
  injection h with h
  subst h
  have eI:(decide (left - 1<0)||d==0)=true:=by simpa using h1
  simp+contextual (disch:=first|omega|simp only[go_sem,false_implies]) only[go_sem,wrap64,if_pos,eI,vU,q8,z1,z2,z3,z5,z6,Nat.add_assoc,Nat.left_eq_add,Nat.add_eq_left,Nat.add_left_cancel_iff]
  refine hK _ _ (by omega) (by repeat(first|exact hg.mono (by omega)|exact Good.nil|refine Good.ax ?_ (by omega) rfl|refine Good.ax ?_ (by omega) (cX _ _ _ (by omega))|refine Good.ax ?_ (by omega) (by simp[ab.refs,V.ah,V.refs]<;>omega))) (fun j j1 j2=>by(repeat(first|rfl|rw[aa]|rw[ae _ _ _ _ (by omega)]));exact cL j j1) (by(repeat(first|rfl|rw[aa]|rw[ae _ _ _ _ (by omega)])))
 ·rw[if_neg h1]at h
  have eI:(decide (left - 1<0)||d==0)=false:=by simp at h1|-;omega
  simp+contextual (disch:=first|omega|simp only[go_sem,false_implies]) only[go_sem,wrap64,if_pos,eI,vU,z1,z2,Nat.add_assoc,Nat.left_eq_add,Nat.add_eq_left,Nat.add_left_cancel_iff]
  have hR:∃r0,ud (fun k l=>vC f b k l (d - 1)) x.kids (left - 1)=some r0:=by
   cases e:ud (fun k l=>vC f b k l (d - 1)) x.kids (left - 1)with
   |none=>rw[e]at h;cases h
   |some r0=>exact⟨r0,rfl⟩
  obtain⟨r0,F8⟩:=hR
  rw[F8]at h
  refine aT (fun i:Nat×List Tm×Int=>⟨bq [.mp id, .af, .ptr lp 0, .d (.i d), .af, .af, .af, .af, .ptr (nx+1) 0, .af, .af, .ptr (n1+22) 0, .af, .af, .af, .af, .af, .af, .af, .af, .af, .af, .af, .af, .af, .af, .af, .af, .af, .af, .af, .af, .af, .af, .af, .af, .af, .af, .af, .af, .d (.sl (x.kids.map Tm.d)), .d (.i x.kids.length), .d (.i i.1)],ax (ax (ax o1 lp (.row [.d (.i i.2.2)])) (n1+22) (.row [.d (.i x.op), .d (.i x.n), .osl (n1+28) 0])) (n1+28) (.arr 0 28 3 (i.2.1.map Tm.d)),n1+29⟩)
   (fun i=>i.1<=x.kids.length/\i.2.1.length=i.1/\(0<=i.2.2/\i.2.2<=1000)/\Hd i.2.1 (ud (fun k l=>vC f b k l (d - 1)) (x.kids.drop i.1) i.2.2)=some r0) (fun i=>x.kids.length - i.1) (0,[],left - 1) ⟨Nat.zero_le _,rfl,by dsimp only;omega, ?_⟩
   (bP.tp (ty:=28) (sz:=3) (es:=[]) (fun _=>False) .br (n1+28) _ (by omega) (fun j hj=> ?_) (by dsimp only;rw[aa];simp) (.inl ⟨rfl,rfl,by decide⟩) (fun j hj=> ?_) (fun _ h=>h.elim) ?_) ?_
  ·simp only[List.drop_zero]
   rw[F8]
   obtain⟨ys,l2⟩:=r0
   cases ys<;>rfl
  ·dsimp only
   by_cases e1:j=n1+22
   ·subst e1
    exact ez (y:= .row [.d (.i x.op), .d (.i x.n), .br]) (by(repeat(first|rfl|rw[aa]|rw[ae _ _ _ _ (by omega)]))) (by(repeat(first|rfl|rw[aa]|rw[ae _ _ _ _ (by omega)]))) (kH rfl (j6 (j6 (w6 0 rfl rfl rfl kG))))
   ·by_cases e2:j=lp
    ·subst e2
     exact ez (y:= .row [.d (.i (left - 1))]) (by(repeat(first|rfl|rw[aa]|rw[ae _ _ _ _ (by omega)]))) (by(repeat(first|rfl|rw[aa]|rw[ae _ _ _ _ (by omega)]))) (kH rfl (j6 kG))
    ·by_cases e3:j=n1+1
     ·subst e3
      exact ez rfl (by(repeat(first|rfl|rw[aa]|rw[ae _ _ _ _ (by omega)]));exact hg.fresh _ (by omega)) IY
     ·exact ez (y:=o1 j) (by(repeat(first|rfl|rw[aa]|rw[ae _ _ _ _ (by omega)]))) (by(repeat(first|rfl|rw[aa]|rw[ae _ _ _ _ (by omega)]))) (dA rfl (fun r hr=>by have:=hg.refs j r hr;omega))
  ·dsimp only
   (repeat(first|rfl|rw[aa]|rw[ae _ _ _ _ (by omega)]))
   exact hg.fresh j (by omega)
  ·dsimp only
   (repeat(first|exact dZ|refine cZ ?_|refine cJ rfl ?_|refine cJ (aR (aQ (by omega))) ?_|refine iB 0 rfl rfl rfl ?_|refine iA rfl (by simp[V.refs,V.ah]<;>first|omega|assumption) ?_|refine iC rfl (by simp[V.ids]<;>omega) ?_))
  rintro⟨k,C2,l1⟩ ⟨hk,Ln,BN,aH⟩
  simp only at hk Ln BN aH
  simp+contextual (disch:=first|omega|simp only[go_sem,false_implies]) only[go_sem,wrap64,if_pos,z1,z2,Nat.add_assoc,Nat.left_eq_add,Nat.add_eq_left,Nat.add_left_cancel_iff]
  refine ak (fun h5=> ?_) (fun h5=> ?_)
  ·simp at h5
   obtain⟨y,hy⟩:=aM h5
   have EI:=List.mem_of_getElem? hy
   have Br:x.kids.drop k=y::x.kids.drop (k+1):=by
    obtain⟨h5,h6⟩:=List.getElem?_eq_some_iff.1 hy
    rw[List.drop_eq_getElem_cons h5,h6]
   rw[Br]at aH
   simp only[ud]at aH
   cases e:vC f b y l1 (d - 1)with
   |none=>rw[e]at aH;cases aH
   |some r1=>
   have Xc:1<=d:=by omega
   simp+contextual (disch:=first|omega|simp only[go_sem,false_implies]) only[go_sem,wrap64,if_pos,z1,z2,Nat.add_assoc,Nat.left_eq_add,Nat.add_eq_left,Nat.add_left_cancel_iff,hy]
   refine jN (ih y l1 (d - 1) r1 ⟨oh.lU x y hx.1 EI,nb.2 y EI⟩ e BN (by omega) _ _ id lp ?_ ?_ ?_ _ _ ?_)
   ·exact(by repeat(first|exact hg.mono (by omega)|exact Good.nil|refine Good.ax ?_ (by omega) rfl|refine Good.ax ?_ (by omega) (cX _ _ _ (by omega))|refine Good.ax ?_ (by omega) (by simp[ab.refs,V.ah,V.refs]<;>omega)))
   ·(repeat(first|rfl|rw[aa]|rw[ae _ _ _ _ (by omega)]))
    exact kU
   ·(repeat(first|rfl|rw[aa]|rw[ae _ _ _ _ (by omega)]))
   intro o3 n3 w1 w2 w3 w4
   have u11:o3 (n1+22)= .row [.d (.i x.op), .d (.i x.n), .osl (n1+28) 0]:=by rw[w3 _ (by omega) (by omega)];(repeat(first|rfl|rw[aa]|rw[ae _ _ _ _ (by omega)]))
   have u28:o3 (n1+28)= .arr 0 28 3 (C2.map Tm.d):=by rw[w3 _ (by omega) (by omega)];(repeat(first|rfl|rw[aa]|rw[ae _ _ _ _ (by omega)]))
   have u8:o3 (nx+1)= .row [.d (.i 0), .d (.i 0), .br]:=by rw[w3 _ (by omega) (by omega)];(repeat(first|rfl|rw[aa]|rw[ae _ _ _ _ (by omega)]));exact q8
   have v1:∀k,lp≠n3+k:=fun k=>by omega
   have v2:∀k,n1+22≠n3+k:=fun k=>by omega
   have v3:∀k,n1+28≠n3+k:=fun k=>by omega
   have v4:∀k,nx+1≠n3+k:=fun k=>by omega
   obtain⟨ry,l2⟩:=r1
   simp only at w4
   cases ry with
   |none=>
    rw[e]at aH
    simp only[Hd]at aH
    injection aH with aH
    subst aH
    simp only at h
    injection h with h
    subst h
    simp only
    simp+contextual (disch:=first|omega|simp only[go_sem,false_implies]) only[go_sem,wrap64,if_pos,w4,u8,v1,v4,Nat.add_assoc,Nat.left_eq_add,Nat.add_eq_left,Nat.add_left_cancel_iff]
    clear hg
    have hg:=w2
    refine hK _ _ (by omega) (by repeat(first|exact hg.mono (by omega)|exact Good.nil|refine Good.ax ?_ (by omega) rfl|refine Good.ax ?_ (by omega) (cX _ _ _ (by omega))|refine Good.ax ?_ (by omega) (by simp[ab.refs,V.ah,V.refs]<;>omega))) (fun j j1 j2=>by(repeat(first|rfl|rw[aa]|rw[ae _ _ _ _ (by omega)]));rw[w3 j (by omega) j2];(repeat(first|rfl|rw[aa]|rw[ae _ _ _ _ (by omega)]));exact cL j j1) (by(repeat(first|rfl|rw[aa]|rw[ae _ _ _ _ (by omega)]))<;>exact w4)
   |some w=>
    simp only
    intro c hc qL
    rw[e]at aH
    simp only at aH
    have hb2:=Ld f y l1 (d - 1) w l2 e BN.1
    have v5:n1+22≠c:=by omega
    have v6:n1+28≠c:=by omega
    have v7:c≠n1+28:=by omega
    have hcn:c<n3:=w2.lt (by rw[qL];exact ab.noConfusion)
    have v8:∀k,c≠n3+k:=fun k=>by omega
    simp+contextual (disch:=first|omega|simp only[go_sem,false_implies]) only[go_sem,wrap64,if_pos,w4,u11,u28,qL,v1,v2,v3,v5,v6,v7,v8,Nat.add_assoc,Nat.left_eq_add,Nat.add_eq_left,Nat.add_left_cancel_iff,List.length_map,Ln]
    have SN:Hd (C2++[w]) (ud (fun k l=>vC f b k l (d - 1)) (x.kids.drop (k+1)) l2)=some r0:=by
     rw[<- aH]
     cases ud (fun k l=>vC f b k l (d - 1)) (x.kids.drop (k+1)) l2 with
     |none=>rfl
     |some r2=>
      obtain⟨ys,l3⟩:=r2
      cases ys with
      |none=>rfl
      |some ys=>simp[Hd]
    have SO:∀j,j<n1+28->j≠lp->j≠n1+22->o3 j=o1 j:=fun j j1 j2 j3=>by rw[w3 j (by omega) j2];(repeat(first|rfl|rw[aa]|rw[ae _ _ _ _ (by omega)]))
    refine aA (k+1,C2++[w],l2) ⟨h5,by dsimp only;simp[Ln],by dsimp only;omega,SN⟩ (by dsimp only;omega) (bP.tp (fun j=>j=n1+28) (.osl (n1+28) 1) (n1+28) _ (by omega) (fun j hj=> ?_) (by dsimp only;exact aa _ _ _) (.inr ⟨n1+28,1,rfl,rfl,by(repeat(first|rfl|rw[aa]|rw[ae _ _ _ _ (by omega)]));rw[List.map_append];rfl⟩) (fun j hj=> ?_) (fun j h h2=>by omega) ?_)
    ·dsimp only
     by_cases e1:j=n1+22
     ·subst e1
      exact ez (y:= .row [.d (.i x.op), .d (.i x.n), .osl (n1+28) 1]) (by(repeat(first|rfl|rw[aa]|rw[ae _ _ _ _ (by omega)]))) (by(repeat(first|rfl|rw[aa]|rw[ae _ _ _ _ (by omega)]))) (kH rfl (j6 (j6 (w6 0 rfl rfl rfl kG))))
     ·by_cases e2:j=lp
      ·subst e2
       exact ez (y:= .row [.d (.i l2)]) (by(repeat(first|rfl|rw[aa]|rw[ae _ _ _ _ (by omega)]));exact w4) (by(repeat(first|rfl|rw[aa]|rw[ae _ _ _ _ (by omega)]))) (kH rfl (j6 kG))
      ·exact ez (y:=o1 j) (by(repeat(first|rfl|rw[aa]|rw[ae _ _ _ _ (by omega)]));exact SO j hj e2 e1) (by(repeat(first|rfl|rw[aa]|rw[ae _ _ _ _ (by omega)]))) (dA rfl (fun r hr=>by
        by_cases Xp:j<n1
        ·have:=g2.refs j r hr;omega
        ·rw[g2.fresh j (by omega)]at hr;cases hr))
    ·dsimp only
     (repeat(first|rfl|rw[aa]|rw[ae _ _ _ _ (by omega)]))
     exact g2.fresh j (by omega)
    ·dsimp only
     (repeat(first|exact dZ|refine cZ ?_|refine cJ rfl ?_|refine cJ (aR (aQ (by omega))) ?_|refine iB 0 rfl rfl rfl ?_|refine iA rfl (by simp[V.refs,V.ah]<;>first|omega|assumption) ?_|refine iC rfl (by simp[V.ids]<;>omega) ?_))
  ·simp at h5
   rw[List.drop_eq_nil_of_le h5]at aH
   simp only[ud,Hd,List.append_nil]at aH
   injection aH with aH
   subst aH
   simp only at h
   injection h with h
   subst h
   simp+contextual (disch:=first|omega|simp only[go_sem,false_implies]) only[go_sem,wrap64,if_pos,q8,z1,z2,z3,z5,z6,Nat.add_assoc,Nat.left_eq_add,Nat.add_eq_left,Nat.add_left_cancel_iff]
   exact hK _ _ (by omega) (by repeat(first|exact hg.mono (by omega)|exact Good.nil|refine Good.ax ?_ (by omega) rfl|refine Good.ax ?_ (by omega) (cX _ _ _ (by omega))|refine Good.ax ?_ (by omega) (by simp[ab.refs,V.ah,V.refs]<;>omega))) (fun j j1 j2=>by(repeat(first|rfl|rw[aa]|rw[ae _ _ _ _ (by omega)]));exact cL j j1) (by(repeat(first|rfl|rw[aa]|rw[ae _ _ _ _ (by omega)]))) (n1+28) (by omega) (by(repeat(first|rfl|rw[aa]|rw[ae _ _ _ _ (by omega)])))
theorem C3{b:List (Int×Tm)}(hb:∀p∈b,oh p.2/\p.2.ke):∀f,WX b f
 |0=>fun t left d r _ h=>by cases h
 |f+1=>BD hb (C3 hb f)
end Go.Proofs.YtealblliddhgiaaGreat
namespace Go.Proofs.YtealblliddhgiaaGreat
theorem NF{s:aW}:∀t:Tm,Vs s t->t.sz<=1000->Jf t:=by
 refine Tm.ej fun t ih hv hz=> ?_
 exact GP (im s t hv.1) hz (fun k hk=>ih k hk (hv.lU hk) (by have:=Tm.iD hk;omega)) (fun h8=>absurd h8 hv.n8)
theorem Jr{s:aW}{t:Tm}(hv:Vs s t)(hz:t.sz<=1000):bC Tryz.prog 53 [Je [],t.d] (.ret [t.d]):=by
 have:=NF t hv hz [] ⟨List.nodup_nil,by simp,by simp,by simp⟩
 rwa [py _ _ (im s t hv.1)]at this
theorem Hf{s:aW}{b:List (Int×Tm)}(hb:∀p∈b,Vs s p.2/\p.2.sz<=1000):bC Tryz.prog 62 [Je b] (.ret [.sl ((jx b 20).map TB.d)]):=by
 refine bC.aV mix QU (by simp) ?_
 rw[VQ]
 simp+contextual (disch:=first|omega|simp only[go_sem,false_implies]) only[go_sem,wrap64,if_pos,and_self]
 refine aT (fun i:Nat=>⟨bq [.d (Je b), .af, .af, .osl 0 0, .af, .af, .af, .d (.i i)],ax (fun _=> .no) 0 (.arr 0 52 4 ((jx b i).map TB.d)),1⟩)
  (fun i=>i<=20) (fun i=>20 - i) 0 (Nat.zero_le _) (bP.tp (ty:=52) (sz:=4) (es:=[]) (fun _=>False) .br 0 _ (by omega) (fun j hj=>absurd hj (by omega)) (by rw[aa];simp[jx]) (.inl ⟨rfl,rfl,by decide⟩) (fun j hj=>by(repeat(first|rfl|rw[aa]|rw[ae _ _ _ _ (by omega)]))) (fun _ h=>h.elim) ?_) ?_
 ·(repeat(first|exact dZ|refine cZ ?_|refine cJ rfl ?_|refine cJ (aR (aQ (by omega))) ?_|refine iB 0 rfl rfl rfl ?_|refine iA rfl (by simp[V.refs,V.ah]<;>first|omega|assumption) ?_|refine iC rfl (by simp[V.ids]<;>omega) ?_))
 rintro i hi
 replace hi:i<=20:=hi
 have hln:=Er b i
 simp+contextual (disch:=first|omega|simp only[go_sem,false_implies]) only[go_sem,wrap64,if_pos,and_self]
 refine ak (fun h5=> ?_) (fun h5=> ?_)
 ·simp at h5
  have TI:=og b i
  cases hl:bL b (i:Int)with
  |none=>
   rw[hl]at TI
   simp+contextual (disch:=first|omega|simp only[go_sem,false_implies]) only[go_sem,wrap64,if_pos,CL,hl]
   refine aA (i+1) (by omega) (by omega) (bP.tp (fun j=>j=0) (.osl 0 0) 0 _ (by omega) (fun j hj=>absurd hj (by omega)) (aa _ _ _) (.inr ⟨0,0,rfl,rfl,by(repeat(first|rfl|rw[aa]|rw[ae _ _ _ _ (by omega)]));rw[TI,List.append_nil]⟩) (fun j hj=>by(repeat(first|rfl|rw[aa]|rw[ae _ _ _ _ (by omega)]))) (fun j h h2=>by omega) ?_)
   (repeat(first|exact dZ|refine cZ ?_|refine cJ rfl ?_|refine cJ (aR (aQ (by omega))) ?_|refine iB 0 rfl rfl rfl ?_|refine iA rfl (by simp[V.refs,V.ah]<;>first|omega|assumption) ?_|refine iC rfl (by simp[V.ids]<;>omega) ?_))
  |some x=>
   rw[hl]at TI
   obtain⟨x1,x2⟩:=hb _ (gU hl)
   simp+contextual (disch:=first|omega|simp only[go_sem,false_implies]) only[go_sem,wrap64,if_pos,CL,hl]
   refine aU (Jr x1 x2) ?_
   simp+contextual (disch:=first|omega|simp only[go_sem,false_implies]) only[go_sem,wrap64,if_pos,List.length_map]
   refine aA (i+1) (by omega) (by omega) (bP.tp (fun j=>j=0) (.osl 0 1) 0 _ (by omega) (fun j hj=>absurd hj (by omega)) (aa _ _ _) (.inr ⟨0,1,rfl,rfl,by(repeat(first|rfl|rw[aa]|rw[ae _ _ _ _ (by omega)]));rw[TI,List.map_append,List.map_cons,List.map_nil]⟩) (fun j hj=>by(repeat(first|rfl|rw[aa]|rw[ae _ _ _ _ (by omega)]))) (fun j h h2=>by omega) ?_)
   (repeat(first|exact dZ|refine cZ ?_|refine cJ rfl ?_|refine cJ (aR (aQ (by omega))) ?_|refine iB 0 rfl rfl rfl ?_|refine iA rfl (by simp[V.refs,V.ah]<;>first|omega|assumption) ?_|refine iC rfl (by simp[V.ids]<;>omega) ?_))
 ·simp at h5
  have TH:i=20:=by omega
  subst TH
  simp+contextual (disch:=first|omega|simp only[go_sem,false_implies]) only[go_sem,wrap64,if_pos,and_self]
end Go.Proofs.YtealblliddhgiaaGreat
namespace Go.Proofs.YtealblliddhgiaaGreat
theorem C4{s:aW}{a b:Tm}(h:bO s [a,b]=true):(Vs s a/\Vs s b)/\(et s a=true/\et s b=true):=by
 simp only[bO,qf,lF,Bool.and_eq_true,List.all_cons,List.all_nil,Bool.and_true]at h
 obtain⟨⟨_,h1,h2⟩,h3,h4⟩:=h
 rw[mY h1]at h3
 rw[mY h2]at h4
 have g1:=h1
 have g2:=h2
 simp only[et,Bool.and_eq_true]at g1 g2
 exact⟨⟨⟨g1.2,h3⟩,g2.2,h4⟩,h1,h2⟩
def mN(s:aW)(a b:Tm):List TB×Int:=if bO s [a,b]=true then(if(dB a b []).2=true then((dB a b []).1,0)else([],5))else([],2)
theorem Js(s:aW)(hs:s.Fits)(a b:Tm)(ha:a.Fin)(hb:b.Fin):bC Tryz.prog 22 [s.d,a.d,b.d] (.ret [.sl ((mN s a b).1.map TB.d), .i (mN s a b).2]):=by
 refine bC.aV mix Qw (by simp) ?_
 rw[Vc]
 simp+contextual (disch:=first|omega|simp only[go_sem,false_implies]) only[go_sem,wrap64,if_pos,and_self]
 refine ay (tx s hs [a,b] (by simp) (fun t ht=>by simp at ht;rcases ht with rfl|rfl<;>assumption)) rfl ?_
 unfold mN
 cases h1:bO s [a,b]with
 |false=>
  simp+contextual (disch:=first|omega|simp only[go_sem,false_implies]) only[go_sem,wrap64,if_pos,and_self]
 |true=>
  obtain⟨⟨va,vb⟩,ta,tb⟩:=C4 h1
  obtain⟨e1,e2⟩:=CW a b [] [] va vb ⟨List.nodup_nil,fun _=>rfl⟩ ⟨List.Pairwise.nil,fun _ h=>(by cases h)⟩
  have aN:=xo (P:=fun t=>Vs s t/\t.sz<=1000) (fun t k h hk=>⟨h.1.lU hk,by have:=Tm.iD hk;omega⟩) a b [] ⟨vb,by have:=(gV tb).2.1;omega⟩ (fun _ h=>by cases h)
  simp+contextual (disch:=first|omega|simp only[go_sem,false_implies]) only[go_sem,wrap64,if_pos,and_self]
  refine cB (Jp a ha.fits b hb.fits [] (fun _ h=>by cases h) _ _ 11 ?_ ?_ _ _ fun o' nx' g1 g2 g3 g4=> ?_)
  ·exact(by repeat(first|exact hg.mono (by omega)|exact Good.nil|refine Good.ax ?_ (by omega) rfl|refine Good.ax ?_ (by omega) (cX _ _ _ (by omega))|refine Good.ax ?_ (by omega) (by simp[ab.refs,V.ah,V.refs]<;>omega)))
  ·(repeat(first|rfl|rw[aa]|rw[ae _ _ _ _ (by omega)]))
  rw[e1]
  cases h2:(dB a b []).2 with
  |false=>
   simp+contextual (disch:=first|omega|simp only[go_sem,false_implies]) only[go_sem,wrap64,if_pos,and_self]
  |true=>
   obtain⟨m1,m2⟩:=e2 h2
   have hl:=Hf (s:=s) (b:=(mJ a b []).1) aN
   rw[zY m1.lk m2]at hl
   simp+contextual (disch:=first|omega|simp only[go_sem,false_implies]) only[go_sem,wrap64,if_pos,g4]
   refine aU hl ?_
   simp+contextual (disch:=first|omega|simp only[go_sem,false_implies]) only[go_sem,wrap64,if_pos,and_self]
end Go.Proofs.YtealblliddhgiaaGreat
namespace Go.Proofs.YtealblliddhgiaaGreat
theorem tS{s:aW}(l:List TB)(n:Int)(t:Tm)(hl:l.length<=50)(hx:∀x∈l,Vs s x.term/\x.term.ke):bC Tryz.prog 105 [.sl (l.map TB.d), .i n,t.d] (.ret [.sl ((iJ l n t).map TB.d)]):=by
 refine bC.aV mix KA (by simp) ?_
 rw[MN]
 simp+contextual (disch:=first|omega|simp only[go_sem,false_implies]) only[go_sem,wrap64,if_pos,and_self]
 refine aT (fun i:Nat=>⟨bq [.d (.sl (l.map TB.d)), .d (.i n), .af, .af, .af, .ptr 0 0, .af, .osl 1 0, .d (.i i)],ax (ax (fun _=> .no) 0 (.row t.row)) 1 (.arr 0 52 4 (((l.take i).map fun x=>(⟨x.var,bf (ql n t) x.term⟩:TB)).map TB.d)),2⟩)
  (fun i=>i<=l.length) (fun i=>l.length - i) 0 (Nat.zero_le _) (bP.tp (ty:=52) (sz:=4) (es:=[]) (fun _=>False) .br 1 _ (by omega) (Ws (dA rfl (by simp[ab.refs,V.ah,V.refs]))) (by rw[aa];simp) (.inl ⟨rfl,rfl,by decide⟩) (fun j hj=>by(repeat(first|rfl|rw[aa]|rw[ae _ _ _ _ (by omega)]))) (fun _ h=>h.elim) ?_) ?_
 ·(repeat(first|exact dZ|refine cZ ?_|refine cJ rfl ?_|refine cJ (aR (aQ (by omega))) ?_|refine iB 0 rfl rfl rfl ?_|refine iA rfl (by simp[V.refs,V.ah]<;>first|omega|assumption) ?_|refine iC rfl (by simp[V.ids]<;>omega) ?_))
 rintro i hi
 replace hi:i<=l.length:=hi
 simp+contextual (disch:=first|omega|simp only[go_sem,false_implies]) only[go_sem,wrap64,if_pos,List.length_map]
 refine ak (fun h2=> ?_) (fun h2=> ?_)
 ·simp at h2
  obtain⟨x,uJ⟩:=aM h2
  obtain⟨x1,x2⟩:=hx x (List.mem_of_getElem? uJ)
  have Sw:l.take (i+1)=l.take i++[x]:=by rw[List.take_add_one,uJ];rfl
  have e0:(l.take i).length=i:=by rw[List.length_take];omega
  simp+contextual (disch:=first|omega|simp only[go_sem,false_implies]) only[go_sem,wrap64,if_pos,List.length_map,uJ,e0]
  refine cc (rs:=[(bf (ql n t) x.term).d]) (xw x.term x1 x2 [⟨n,t⟩] (by simp)) ?_
  simp+contextual (disch:=first|omega|simp only[go_sem,false_implies]) only[go_sem,wrap64,if_pos,List.length_map,uJ,e0]
  refine aP (by decide) ?_
  simp+contextual (disch:=first|omega|simp only[go_sem,false_implies]) only[go_sem,wrap64,if_pos,List.length_map,uJ,e0]
  refine aA (i+1) h2 (by omega) (bP.tp (fun j=>j=1) (.osl 1 1) 1 _ (by omega) (Ws (ez (y:= .row t.row) (by(repeat(first|rfl|rw[aa]|rw[ae _ _ _ _ (by omega)]))) (by(repeat(first|rfl|rw[aa]|rw[ae _ _ _ _ (by omega)]))) (dA rfl (by simp[ab.refs,V.ah,V.refs])))) (aa _ _ _) (.inr ⟨1,1,rfl,rfl,by(repeat(first|rfl|rw[aa]|rw[ae _ _ _ _ (by omega)]));rw[Sw,List.map_append,List.map_append];rfl⟩) (fun j hj=>by(repeat(first|rfl|rw[aa]|rw[ae _ _ _ _ (by omega)]))) (fun j h h2=>by omega) ?_)
  (repeat(first|exact dZ|refine cZ ?_|refine cJ rfl ?_|refine cJ (aR (aQ (by omega))) ?_|refine iB 0 rfl rfl rfl ?_|refine iA rfl (by simp[V.refs,V.ah]<;>first|omega|assumption) ?_|refine iC rfl (by simp[V.ids]<;>omega) ?_))
 ·simp at h2
  have TH:i=l.length:=by omega
  subst TH
  rw[List.take_length]
  simp+contextual (disch:=first|omega|simp only[go_sem,false_implies]) only[go_sem,wrap64,if_pos,List.length_map]
  refine aU (G9 (l.map fun x=>(⟨x.var,bf (ql n t) x.term⟩:TB)) n t (by simp;omega)) ?_
  simp+contextual (disch:=first|omega|simp only[go_sem,false_implies]) only[go_sem,wrap64,if_pos,and_self]
  rfl
end Go.Proofs.YtealblliddhgiaaGreat
namespace Go.Proofs.YtealblliddhgiaaGreat
theorem xz(v:Int):(Tm.mk 1 v []).ke:=by rw[Tm.eX];simp[Tm.kids]
theorem rP{l:List TB}(h:∀x∈l,x.term.ke):∀p∈aq l,p.2.ke:=fun p hp=>by
 obtain⟨x,hx,rfl⟩:=List.mem_map.1 hp
 exact h x hx
theorem tT{l:List TB}{n:Int}{t:Tm}(hl:∀x∈l,x.term.ke)(ht:t.ke):∀x∈iJ l n t,x.term.ke:=fun x hx=>by
 rcases m6.1 hx with rfl|hx
 ·exact ht
 ·obtain⟨y,hy,rfl⟩:=List.mem_map.1 hx
  exact Tm.tR (fun p hp=>by simp[ql]at hp;subst hp;exact ht) _ (hl y hy)
theorem xA:∀ (f:Nat) (a c:Tm) (l:List TB) (r:List TB×Bool),gv f a c l=some r->a.ke->c.ke->(∀x∈l,x.term.ke)->∀x∈r.1,x.term.ke
 |0,_,_,_,_,h,_,_,_=>by cases h
 |f+1,a,c,l,r,h,ha,hc,hl=>by
  have fa:=Tm.tR (rP hl) a ha
  have fc:=Tm.tR (rP hl) c hc
  simp only[gv]at h
  generalize bf (aq l) a=a0 at*
  generalize bf (aq l) c=c0 at*
  split at h
  ·injection h with h;subst h;exact hl
  ·split at h
   ·injection h with h;subst h;exact tT hl (xz _)
   ·split at h
    ·injection h with h;subst h;exact tT hl fc
    ·split at h
     ·injection h with h;subst h;exact tT hl fa
     ·split at h
      ·injection h with h;subst h;intro x hx;cases hx
      ·have key:∀ (ks cW:List Tm) (l:List TB),(∀k∈ks,k.ke)->(∀k∈cW,k.ke)->(∀x∈l,x.term.ke)->dg (gv f) ks cW l=some r->∀x∈r.1,x.term.ke:=by
        intro ks
        induction ks with
        |nil=>intro cW l _ _ hl h;simp only[dg]at h;injection h with h;subst h;exact hl
        |cons k ks qW=>
         intro cW l m1 m2 hl h
         cases cW with
         |nil=>simp only[dg]at h;injection h with h;subst h;exact hl
         |cons k' cW=>
          simp only[dg]at h
          cases e:gv f k k' l with
          |none=>rw[e]at h;cases h
          |some r1=>
           have h1:=xA f k k' l r1 e (m1 k (by simp)) (m2 k' (by simp)) hl
           obtain⟨l1,ok⟩:=r1
           rw[e]at h
           cases ok with
           |false=>simp only at h;injection h with h;subst h;exact h1
           |true=>exact qW cW l1 (fun y hy=>m1 y (by simp[hy])) (fun y hy=>m2 y (by simp[hy])) h1 h
       exact key _ _ l ((Tm.eX _).1 fa).2 ((Tm.eX _).1 fc).2 hl h
theorem vF{s:aW}:∀ (f:Nat) (a c:Tm) (l:List TB) (r:List TB×Bool),gv f a c l=some r->Vs s a->a.ke->Vs s c->c.ke->kQ s l->(∀x∈l,x.term.ke)->bC Tryz.prog 70 [a.d,c.d, .sl (l.map TB.d)] (.ret [.sl (r.1.map TB.d), .bool r.2])
 |0,_,_,_,_,h,_,_,_,_,_,_=>by cases h
 |f+1,a,c,l,r,h,va,fa,vc,fc,hl,la=>by
  have Z6:=hl.len
  have sa:=xw a va fa l (by omega)
  have sc:=xw c vc fc l (by omega)
  have TJ:=Vs.sub hl.bd a va
  have TK:=Vs.sub hl.bd c vc
  have WY:=Tm.tR (rP la) a fa
  have WZ:=Tm.tR (rP la) c fc
  have SG:∀x∈l,Vs s x.term/\x.term.ke:=fun x hx=>⟨(hl.ok x hx).2,la x hx⟩
  have na:=hl.Jl va
  have nc:=hl.Jl vc
  simp only[gv]at h
  refine bC.aV mix Q1 (by simp) ?_
  rw[VY]
  simp+contextual (disch:=first|omega|simp only[go_sem,false_implies]) only[go_sem,wrap64,if_pos,and_self]
  refine cc sa ?_
  simp+contextual (disch:=first|omega|simp only[go_sem,false_implies]) only[go_sem,wrap64,if_pos,and_self]
  refine cc sc ?_
  simp+contextual (disch:=first|omega|simp only[go_sem,false_implies]) only[go_sem,wrap64,if_pos,and_self]
  generalize bf (aq l) a=a0 at*
  generalize bf (aq l) c=c0 at*
  refine aP (by decide) ?_
  have fia:=Tm.mM a0 WY
  have fic:=Tm.mM c0 WZ
  have SP:=(Tm.eX a0).1 WY
  have SQ:=(Tm.eX c0).1 WZ
  simp+contextual (disch:=first|omega|simp only[go_sem,false_implies]) only[go_sem,wrap64,if_pos,and_self]
  refine ay (Bk a0 fia c0 fic) rfl ?_
  cases HI:hY a0 c0 with
  |true=>
   rw[if_pos HI]at h
   injection h with h
   subst h
   simp+contextual (disch:=first|omega|simp only[go_sem,false_implies]) only[go_sem,wrap64,if_pos,and_self]
  |false=>
  rw[if_neg (by rw[HI];exact Bool.false_ne_true)]at h
  by_cases h1:a0.op=1
  ·have eI:(a0.op==1)=true:=by simpa using h1
   by_cases h2:c0.op=1
   ·have ir:(c0.op==1)=true:=by simpa using h2
    rw[if_pos ⟨h1,h2⟩]at h
    injection h with h
    subst h
    have vP:(if c0.n>a0.n then c0.n else a0.n)=max a0.n c0.n:=by rw[Int.max_def];split<;>split<;>omega
    have NC:(if c0.n<a0.n then c0.n else a0.n)=min a0.n c0.n:=by rw[Int.min_def];split<;>split<;>omega
    simp+contextual (disch:=first|omega|simp only[go_sem,false_implies]) only[go_sem,wrap64,if_pos,eI,ir]
    rw[vP,NC]
    refine cc (Nv (min a0.n c0.n)) ?_
    simp+contextual (disch:=first|omega|simp only[go_sem,false_implies]) only[go_sem,wrap64,if_pos,eI,ir]
    refine cc (tS l (max a0.n c0.n) (.mk 1 (min a0.n c0.n) []) (by omega) SG) ?_
    simp+contextual (disch:=first|omega|simp only[go_sem,false_implies]) only[go_sem,wrap64,if_pos,eI,ir]
    refine aP (aY rfl) ?_
    simp+contextual (disch:=first|omega|simp only[go_sem,false_implies]) only[go_sem,wrap64,if_pos,and_self]
   ·have ir:(c0.op==1)=false:=by simpa using h2
    rw[if_neg (fun h=>h2 h.2),if_pos h1]at h
    injection h with h
    subst h
    have W0:=xy TK
    simp+contextual (disch:=first|omega|simp only[go_sem,false_implies]) only[go_sem,wrap64,if_pos,eI,ir]
    refine cc (tS l a0.n c0 (by omega) SG) ?_
    simp+contextual (disch:=first|omega|simp only[go_sem,false_implies]) only[go_sem,wrap64,if_pos,eI,ir]
    refine cc (z7 c0 TK WZ) ?_
    simp+contextual (disch:=first|omega|simp only[go_sem,false_implies]) only[go_sem,wrap64,if_pos,eI,ir]
    refine bp (K5 (dF c0) a0.n (by omega)) rfl ?_
    simp+contextual (disch:=first|omega|simp only[go_sem,false_implies]) only[go_sem,wrap64,if_pos,eI,ir]
    refine aP (aY rfl) ?_
    simp+contextual (disch:=first|omega|simp only[go_sem,false_implies]) only[go_sem,wrap64,if_pos,and_self]
  ·have eI:(a0.op==1)=false:=by simpa using h1
   by_cases h2:c0.op=1
   ·have ir:(c0.op==1)=true:=by simpa using h2
    rw[if_neg (fun h=>h1 h.1),if_neg h1,if_pos h2]at h
    injection h with h
    subst h
    have W0:=xy TJ
    simp+contextual (disch:=first|omega|simp only[go_sem,false_implies]) only[go_sem,wrap64,if_pos,eI,ir]
    refine cc (tS l c0.n a0 (by omega) SG) ?_
    simp+contextual (disch:=first|omega|simp only[go_sem,false_implies]) only[go_sem,wrap64,if_pos,eI,ir]
    refine cc (z7 a0 TJ WY) ?_
    simp+contextual (disch:=first|omega|simp only[go_sem,false_implies]) only[go_sem,wrap64,if_pos,eI,ir]
    refine bp (K5 (dF a0) c0.n (by omega)) rfl ?_
    simp+contextual (disch:=first|omega|simp only[go_sem,false_implies]) only[go_sem,wrap64,if_pos,eI,ir]
    refine aP (aY rfl) ?_
    simp+contextual (disch:=first|omega|simp only[go_sem,false_implies]) only[go_sem,wrap64,if_pos,and_self]
   ·have ir:(c0.op==1)=false:=by simpa using h2
    rw[if_neg (fun h=>h1 h.1),if_neg h1,if_neg h2]at h
    by_cases h3:a0.op≠c0.op\/a0.n≠c0.n\/a0.kids.length≠c0.kids.length
    ·rw[if_pos h3]at h
     injection h with h
     subst h
     have re:(a0.op !=c0.op||a0.n !=c0.n||(a0.kids.length:Int)!=(c0.kids.length:Int))=true:=by
      rcases h3 with h|h|h
      ·simp[h]
      ·simp[h]
      ·have:((a0.kids.length:Int)!=(c0.kids.length:Int))=true:=by simp;omega
       simp[this]
     simp+contextual (disch:=first|omega|simp only[go_sem,false_implies]) only[go_sem,wrap64,if_pos,eI,ir,re,List.length_map]
    ·rw[if_neg h3]at h
     have e3:a0.kids.length=c0.kids.length:=Classical.byContradiction fun e=>h3 (Or.inr (Or.inr e))
     have re:(a0.op !=c0.op||a0.n !=c0.n||(a0.kids.length:Int)!=(c0.kids.length:Int))=false:=by
      have e1:a0.op=c0.op:=Classical.byContradiction fun e=>h3 (Or.inl e)
      have e2:a0.n=c0.n:=Classical.byContradiction fun e=>h3 (Or.inr (Or.inl e))
      simp[e1,e2,e3]
     simp+contextual (disch:=first|omega|simp only[go_sem,false_implies]) only[go_sem,wrap64,if_pos,eI,ir,re,List.length_map]
     refine aT (fun i:Nat×List TB×Bool=>⟨bq [.af, .af, .d (.sl (i.2.1.map TB.d)), .ptr 0 0, .ptr 1 0, .af, .af, .af, .d (.bool i.2.2), .d (.i i.1)],ax (ax (fun _=> .no) 0 (.row a0.row)) 1 (.row c0.row),2⟩)
      (fun i=>i.1<=a0.kids.length/\(if i.2.2=true then dg (gv f) (a0.kids.drop i.1) (c0.kids.drop i.1) i.2.1=some r else(i.2.1,false)=r)/\(i.2.2=true->kQ s i.2.1/\∀x∈i.2.1,x.term.ke)) (fun i=>a0.kids.length - i.1) (0,l,true) ⟨Nat.zero_le _,h,fun _=>⟨hl,la⟩⟩ ?_ ?_
     ·dsimp only
      refine bP.cF _ (by omega) (by omega) (by repeat(first|exact hg.mono (by omega)|exact Good.nil|refine Good.ax ?_ (by omega) rfl|refine Good.ax ?_ (by omega) (cX _ _ _ (by omega))|refine Good.ax ?_ (by omega) (by simp[ab.refs,V.ah,V.refs]<;>omega))) (fun j hj=> ?_) ?_
      ·rcases(by omega:j=0\/j=1)with rfl|rfl
       ·(repeat(first|rfl|rw[aa]|rw[ae _ _ _ _ (by omega)]))
       ·(repeat(first|rfl|rw[aa]|rw[ae _ _ _ _ (by omega)]))
      ·(repeat(first|exact ao|refine ai ?_|refine ag rfl ?_|refine ag (aR (aQ (by omega))) ?_|refine aD rfl (by simp[V.refs,V.ah]<;>first|omega|assumption) ?_))
     rintro⟨k,l1,is⟩ ⟨hk,aH,jz⟩
     simp only at hk aH jz
     simp+contextual (disch:=first|omega|simp only[go_sem,false_implies]) only[go_sem,wrap64,if_pos,List.length_map]
     cases is with
     |false=>
      simp only[Bool.false_eq_true,if_false]at aH
      subst aH
      simp+contextual (disch:=first|omega|simp only[go_sem,false_implies]) only[go_sem,wrap64,if_pos,List.length_map]
     |true=>
      simp only[if_true]at aH
      obtain⟨pI,YD⟩:=jz rfl
      by_cases h5:k<a0.kids.length
      ·have oj:decide ((k:Int)<(a0.kids.length:Int))=true:=by simpa using h5
       obtain⟨x,hx⟩:=aM h5
       have gS:=List.mem_of_getElem? hx
       obtain⟨z,hz⟩:=aM (l:=c0.kids) (k:=k) (by omega)
       have Hx:=List.mem_of_getElem? hz
       have K8:a0.kids.drop k=x::a0.kids.drop (k+1):=by
        obtain⟨h5,h6⟩:=List.getElem?_eq_some_iff.1 hx
        rw[List.drop_eq_getElem_cons h5,h6]
       have NA:c0.kids.drop k=z::c0.kids.drop (k+1):=by
        obtain⟨h5,h6⟩:=List.getElem?_eq_some_iff.1 hz
        rw[List.drop_eq_getElem_cons h5,h6]
       rw[K8,NA]at aH
       simp only[dg]at aH
       cases e:gv f x z l1 with
       |none=>rw[e]at aH;cases aH
       |some r1=>
       have dX:=vF f x z l1 r1 e (TJ.lU gS) (SP.2 x gS) (TK.lU Hx) (SQ.2 z Hx) pI YD
       have W1:=xA f x z l1 r1 e (SP.2 x gS) (SQ.2 z Hx) YD
       rw[e]at aH
       obtain⟨l2,ok⟩:=r1
       simp+contextual (disch:=first|omega|simp only[go_sem,false_implies]) only[go_sem,wrap64,if_pos,oj,hx,hz,List.length_map]
       refine cc dX ?_
       simp+contextual (disch:=first|omega|simp only[go_sem,false_implies]) only[go_sem,wrap64,if_pos,oj,hx,hz,List.length_map]
       refine aP (aY rfl) ?_
       simp+contextual (disch:=first|omega|simp only[go_sem,false_implies]) only[go_sem,wrap64,if_pos,and_self]
       refine aA (k+1,l2,ok) ⟨h5, ?_,fun bB=> ?_⟩ (by dsimp only;omega) (bP.cF _ (by omega) (by omega) (by repeat(first|exact hg.mono (by omega)|exact Good.nil|refine Good.ax ?_ (by omega) rfl|refine Good.ax ?_ (by omega) (cX _ _ _ (by omega))|refine Good.ax ?_ (by omega) (by simp[ab.refs,V.ah,V.refs]<;>omega))) (fun j hj=> ?_) ?_)
       ·cases ok with
        |true=>simpa using aH
        |false=>simp only at aH;injection aH
       ·simp only at bB
        subst bB
        exact⟨(od f x z l1 l2 e pI (TJ.lU gS) (TK.lU Hx)).1,W1⟩
       ·(repeat(first|rfl|rw[aa]|rw[ae _ _ _ _ (by omega)]))
       ·(repeat(first|exact ao|refine ai ?_|refine ag rfl ?_|refine ag (aR (aQ (by omega))) ?_|refine aD rfl (by simp[V.refs,V.ah]<;>first|omega|assumption) ?_))
      ·have oj:decide ((k:Int)<(a0.kids.length:Int))=false:=by simp;omega
       rw[List.drop_eq_nil_of_le (by omega)]at aH
       simp only[dg]at aH
       injection aH with aH
       subst aH
       simp+contextual (disch:=first|omega|simp only[go_sem,false_implies]) only[go_sem,wrap64,if_pos,oj,List.length_map]
theorem Hg{s:aW}{f:Nat}{a c:Tm}{r:List TB×Bool}(h:gv f a c []=some r)(va:Vs s a)(fa:a.ke)(vc:Vs s c)(fc:c.ke):bC Tryz.prog 29 [a.d,c.d] (.ret [.sl (r.1.map TB.d), .bool r.2]):=by
 refine bC.aV mix QD (by simp) ?_
 rw[Vj]
 simp+contextual (disch:=first|omega|simp only[go_sem,false_implies]) only[go_sem,wrap64,if_pos,and_self]
 refine aU (vF f a c [] r h va fa vc fc kQ.nil (fun _ h=>by cases h)) ?_
 simp+contextual (disch:=first|omega|simp only[go_sem,false_implies]) only[go_sem,wrap64,if_pos,and_self]
end Go.Proofs.YtealblliddhgiaaGreat
namespace Go.Proofs.YtealblliddhgiaaGreat
theorem xB(g:Int->Tm)(v:Int):∀l:List (Int×Tm),bL (l.map fun p=>(p.1,g p.1)) v=if v∈l.map (·.1)then some (g v)else none
 |[]=>by simp[bL]
 |p::l=>by
  simp only[List.map_cons,bL,xB g v l]
  by_cases e:p.1=v
  ·subst e;simp
  ·rw[if_neg e]
   have:(v∈p.1::l.map (·.1))↔v∈l.map (·.1):=by simp;exact fun h=>absurd h.symm e
   simp only[this]
theorem Hh:∀ {l:List TB} {x:TB},l.Pairwise (fun x y=>x.var<y.var)->x∈l->bL (aq l) x.var=some x.term
 |[],_,_,h=>by cases h
 |y::l,x,hs,h=>by
  rw[List.pairwise_cons]at hs
  simp only[aq,List.map_cons,bL]
  rcases List.mem_cons.1 h with rfl|h
  ·rw[if_pos rfl]
  ·have:=hs.1 x h
   rw[if_neg (by omega)]
   exact Hh hs.2 h
def fe(s:aW)(a b:Tm)(r:List TB×Bool):List TB×Int:=if bO s [a,b]=true then(if r.2=true then(if r.1.all (fun x=>et s x.term)=true then(r.1,0)else([],3))else([],5))else([],2)
theorem C5(s:aW)(hs:s.Fits)(a b:Tm)(ha:a.Fin)(hb:b.Fin){f:Nat}{r:List TB×Bool}(h:bO s [a,b]=true->gv f a b []=some r):bC Tryz.prog 23 [s.d,a.d,b.d] (.ret [.sl ((fe s a b r).1.map TB.d), .i (fe s a b r).2]):=by
 refine bC.aV mix Qx (by simp) ?_
 rw[Vd]
 simp+contextual (disch:=first|omega|simp only[go_sem,false_implies]) only[go_sem,wrap64,if_pos,and_self]
 refine ay (tx s hs [a,b] (by simp) (fun t ht=>by simp at ht;rcases ht with rfl|rfl<;>assumption)) rfl ?_
 unfold fe
 cases h1:bO s [a,b]with
 |false=>
  simp+contextual (disch:=first|omega|simp only[go_sem,false_implies]) only[go_sem,wrap64,if_pos,and_self]
 |true=>
  obtain⟨⟨va,vb⟩,ta,tb⟩:=C4 h1
  obtain⟨g,b1,e1,e2⟩:=GY f a b [] r (h h1) kQ.nil va vb a b [] _ _ ur.nil va vb rfl rfl
  have wa:=gV ta
  have wb:=gV tb
  have Jt:∀t:Tm,et s t=true->oh t/\t.ke:=fun t ht=>by
   have:=gV ht
   exact⟨⟨Tm.mM t (Tm.xu t (by omega)),this.1⟩,Tm.xu t (by omega)⟩
  simp+contextual (disch:=first|omega|simp only[go_sem,false_implies]) only[go_sem,wrap64,if_pos,and_self]
  refine cB (Eu (Jt a ta).1 (Jt b tb).1 e1 _ _ ?_ _ _ (fun bB o1 n1 mid g0 g1 g2 g3 g4=> ?_) (fun Am o1 n1 g1 g2 g3=> ?_))
  ·exact(by repeat(first|exact hg.mono (by omega)|exact Good.nil|refine Good.ax ?_ (by omega) rfl|refine Good.ax ?_ (by omega) (cX _ _ _ (by omega))|refine Good.ax ?_ (by omega) (by simp[ab.refs,V.ah,V.refs]<;>omega)))
  ·rw[if_pos (rfl:true=true),if_pos bB]
   obtain⟨ρ,R,oQ⟩:=e2 bB
   have uu:kQ s r.1:=(od f a b [] r.1 (by rw[<- bB];exact h h1) kQ.nil va vb).1
   have LA:mid<n1:=g2.lt (by rw[g4];exact ab.noConfusion)
   have tY:=xp (P:=fun t=>oh t/\t.ke) (fun t k ht hk=>⟨oh.lU t k ht.1 hk,((Tm.eX t).1 ht.2).2 k hk⟩) (fun v=>⟨oh.var v,xz v⟩) g a b [] _ (Jt a ta) (Jt b tb) (fun _ h=>by cases h) e1
   have y1:∀k,mid≠n1+k:=fun k=>by omega
   have y2:mid≠n1:=by omega
   simp+contextual (disch:=first|omega|simp only[go_sem,false_implies]) only[go_sem,wrap64,if_pos,g4,y1,y2,Nat.add_assoc,Nat.left_eq_add,Nat.add_eq_left,Nat.add_left_cancel_iff]
   have hg:=g2
   refine aT (fun i:List (Int×Tm)×List (Int×Tm)×Option (D×D)=>⟨bq [.af, .af, .af, .af, .af, .af, .af, .af, .mp mid, .af, .mp (n1+7), .af, .af, .af, .af, .af, .af, .af, .af, .af, .af, .af, .af, .af, .af, .af, .af, .af, .af, .af, .af, .ptr (n1+10) 0],ax (ax (ax o1 mid (Hb b1)) (n1+7) (dG (i.2.1.map fun p=>(p.1,Lv (aq r.1) p.1)))) (n1+10) (.nD (enc (D.int .i64) (xL i.1)) i.2.2),n1+11⟩)
    (fun i=>(i.2.1++i.1).Perm b1/\∀p∈i.2.1,et s (Lv (aq r.1) p.1)=true) (fun i=>i.1.length) (b1,[],none) ⟨by simp,fun _ h=>by cases h⟩ ?_ ?_
   ·dsimp only
    refine bP.cF _ (by omega) (by omega) (by repeat(first|exact hg.mono (by omega)|exact Good.nil|refine Good.ax ?_ (by omega) rfl|refine Good.ax ?_ (by omega) (cX _ _ _ (by omega))|refine Good.ax ?_ (by omega) (by simp[ab.refs,V.ah,V.refs]<;>omega))) (fun j hj=> ?_) ?_
    ·by_cases e1:j=n1+10
     ·subst e1;(repeat(first|rfl|rw[aa]|rw[ae _ _ _ _ (by omega)]))
     ·by_cases e2:j=n1+7
      ·subst e2;rw[ae _ _ _ _ e1,ae _ _ _ _ e1,ae _ _ _ _ (by omega),aa,aa];rfl
      ·by_cases e3:j=mid
       ·subst e3;(repeat(first|rfl|rw[aa]|rw[ae _ _ _ _ (by omega)]))
       ·(repeat(first|rfl|rw[aa]|rw[ae _ _ _ _ (by omega)]))
    ·(repeat(first|exact ao|refine ai ?_|refine ag rfl ?_|refine ag (aR (aQ (by omega))) ?_|refine aD rfl (by simp[V.refs,V.ah]<;>first|omega|assumption) ?_))
   rintro⟨rest,C2,last⟩ ⟨hp,hd⟩
   simp only at hp hd
   simp+contextual (disch:=first|omega|simp only[go_sem,false_implies]) only[go_sem,wrap64,if_pos,y1,y2,Nat.add_assoc,Nat.left_eq_add,Nat.add_eq_left,Nat.add_left_cancel_iff]
   refine Em (fun hr=> ?_) fun i k x hm=> ?_
   ·subst hr
    have Ub:C2.Perm b1:=by simpa using hp
    have qy:∀v,v∈C2.map (·.1)↔bL (aq r.1) v≠none:=fun v=>by
     rw[(Ub.map (·.1)).mem_iff,ne_eq, <- oQ.CS v,kN,Classical.not_not]
    have aN:(r.1.all fun x=>et s x.term)=true:=by
     rw[List.all_eq_true]
     intro x hx
     have e:=Hh uu.Jj hx
     have h5:=(qy x.var).2 (by rw[e];exact fun h=>by cases h)
     obtain⟨p,h6,h7⟩:=List.mem_map.1 h5
     have h8:=hd p h6
     rw[h7,Lv,e]at h8
     exact h8
    have hl:=Hf (s:=s) (b:=C2.map fun p=>(p.1,Lv (aq r.1) p.1)) (fun p hp=>by
     obtain⟨q,h5,rfl⟩:=List.mem_map.1 hp
     have h6:=hd q h5
     have h7:=(gV h6).2.1
     have h8:=uu.CS ((qy q.1).1 (List.mem_map.2 ⟨q,h5,rfl⟩))
     exact⟨Vs.Lv uu.bd h8,by show(Lv (aq r.1) q.1).sz<=1000;omega⟩)
    rw[zY (l:=r.1) (fun v=>by
     rw[xB]
     by_cases h5:v∈C2.map (·.1)
     ·rw[if_pos h5]
      have h6:=(qy v).1 h5
      cases e:bL (aq r.1) v with
      |none=>exact absurd e h6
      |some y=>rw[Lv,e]
     ·rw[if_neg h5]
      exact(Classical.byContradiction fun h6=>h5 ((qy v).2 fun e=>h6 e.symm))) uu.SB]at hl
    simp+contextual (disch:=first|omega|simp only[go_sem,false_implies]) only[go_sem,wrap64,if_pos,Nat.add_assoc,Nat.left_eq_add,Nat.add_eq_left,Nat.add_left_cancel_iff,aN]
    refine aU hl ?_
    simp+contextual (disch:=first|omega|simp only[go_sem,false_implies]) only[go_sem,wrap64,if_pos,and_self]
   ·have HJ:(C2++[(k,x)]++rest.eraseIdx i).Perm b1:=by
     rw[List.append_assoc]
     exact(List.Perm.append_left _ (Bw hm)).trans hp
    have O2:(k,x)∈b1:=HJ.mem_iff.1 (by simp)
    have TC:bL (aq r.1) k≠none:=fun e=>(kN.1 ((oQ.CS k).2 e)) (List.mem_map.2 ⟨(k,x),O2,rfl⟩)
    have OK:=uu.CS TC
    obtain⟨y,hy⟩:∃y,bL (aq r.1) k=some y:=by
     cases e:bL (aq r.1) k with
     |none=>exact absurd e TC
     |some y=>exact⟨y,rfl⟩
    have TL:Lv (aq r.1) k=y:=by rw[Lv,hy]
    have hvy:Vs s y:=by rw[<- TL];exact Vs.Lv uu.bd OK
    have hlk:bL (C2.map fun p=>(p.1,Lv (aq r.1) p.1)) k=none:=by
     rw[xB,if_neg]
     intro h4
     have h5:=(HJ.map (·.1)).nodup_iff.2 oQ.keys
     rw[List.map_append,List.map_append,List.nodup_append,List.nodup_append]at h5
     exact h5.1.2.2 k h4 k (by simp) rfl
    have hlen:(rest.eraseIdx i).length<rest.length:=by
     obtain⟨hi,_⟩:=List.getElem?_eq_some_iff.1 hm
     rw[List.length_eraseIdx];simp[hi];omega
    obtain⟨f2,l1,hw,_⟩:=Nz oQ _ (.mk 1 k []) (Vs.var OK) (Nat.le_refl _) 40 12 (by omega)
    rw[mG,TL]at hw
    simp+contextual (disch:=first|omega|simp only[go_sem,false_implies]) only[go_sem,wrap64,if_pos,Nat.add_assoc,Nat.left_eq_add,Nat.add_eq_left,Nat.add_left_cancel_iff,y1,y2]
    refine aU (qU k) ?_
    simp+contextual (disch:=first|omega|simp only[go_sem,false_implies]) only[go_sem,wrap64,if_pos,Nat.add_assoc,Nat.left_eq_add,Nat.add_eq_left,Nat.add_left_cancel_iff,y1,y2]
    refine dP (C3 tY f2 (.mk 1 k []) 40 12 _ ⟨oh.var k,xz k⟩ hw (by omega) (by omega) _ _ mid (n1+16) ?_ ?_ ?_ _ _ ?_)
    ·exact(by repeat(first|exact hg.mono (by omega)|exact Good.nil|refine Good.ax ?_ (by omega) rfl|refine Good.ax ?_ (by omega) (cX _ _ _ (by omega))|refine Good.ax ?_ (by omega) (by simp[ab.refs,V.ah,V.refs]<;>omega)))
    ·(repeat(first|rfl|rw[aa]|rw[ae _ _ _ _ (by omega)]))
     exact .inr rfl
    ·(repeat(first|rfl|rw[aa]|rw[ae _ _ _ _ (by omega)]))
    intro o3 n3 w1 w2 w3 w4
    by_cases h5:(y.sz:Int)<=40/\(y.eB:Int)<=12
    ·simp only[if_pos h5]
     intro c hc qL
     have hcn:c<n3:=w2.lt (by rw[qL];exact ab.noConfusion)
     have u7:o3 (n1+7)=dG (C2.map fun p=>(p.1,Lv (aq r.1) p.1)):=by rw[w3 _ (by omega) (by omega)];(repeat(first|rfl|rw[aa]|rw[ae _ _ _ _ (by omega)]))
     have u10:o3 (n1+10)= .nD (enc (D.int .i64) (xL (rest.eraseIdx i))) (some (.int .i64 k,x.d)):=by rw[w3 _ (by omega) (by omega)];(repeat(first|rfl|rw[aa]|rw[ae _ _ _ _ (by omega)]))
     have v1:∀k,c≠n3+k:=fun k=>by omega
     have v2:∀k,n1+7≠n3+k:=fun k=>by omega
     have v3:∀k,n1+10≠n3+k:=fun k=>by omega
     have v4:n1+7≠c:=by omega
     have v5:c≠n1+7:=by omega
     have ty:et s y=true:=by
      simp only[et,Bool.and_eq_true,decide_eq_true_eq,pt]
      exact⟨h5,hvy.1⟩
     have v6:(c !=n1+7)=true:=by simp;omega
     simp+contextual (disch:=first|omega|simp only[go_sem,false_implies]) only[go_sem,wrap64,if_pos,Nat.add_assoc,Nat.left_eq_add,Nat.add_eq_left,Nat.add_left_cancel_iff,u7,qL,v1,v2,v3,v4,v5,v6,pz hlk]
     refine aA (rest.eraseIdx i,C2++[(k,x)],some (.int .i64 k,x.d)) ⟨HJ,fun p hp=> ?_⟩ hlen (bP.cF _ (by omega) (by omega) ?_ (fun j hj=> ?_) ?_)
     ·rcases List.mem_append.1 hp with hp|hp
      ·exact hd p hp
      ·simp at hp;subst hp;rw[TL];exact ty
     ·exact(by repeat(first|exact hg.mono (by omega)|exact Good.nil|refine Good.ax ?_ (by omega) rfl|refine Good.ax ?_ (by omega) (cX _ _ _ (by omega))|refine Good.ax ?_ (by omega) (by simp[ab.refs,V.ah,V.refs]<;>omega)))
     ·dsimp only
      by_cases e1:j=n1+10
      ·subst e1;(repeat(first|rfl|rw[aa]|rw[ae _ _ _ _ (by omega)]));exact u10
      ·by_cases e2:j=n1+7
       ·subst e2;(repeat(first|rfl|rw[aa]|rw[ae _ _ _ _ (by omega)]));rw[List.map_append,List.map_cons,List.map_nil,TL]
       ·by_cases e3:j=mid
        ·subst e3;(repeat(first|rfl|rw[aa]|rw[ae _ _ _ _ (by omega)]));rw[w3 _ (by omega) (by omega)];(repeat(first|rfl|rw[aa]|rw[ae _ _ _ _ (by omega)]))
        ·(repeat(first|rfl|rw[aa]|rw[ae _ _ _ _ (by omega)]));rw[w3 _ (by omega) (by omega)];(repeat(first|rfl|rw[aa]|rw[ae _ _ _ _ (by omega)]))
     ·(repeat(first|exact ao|refine ai ?_|refine ag rfl ?_|refine ag (aR (aQ (by omega))) ?_|refine aD rfl (by simp[V.refs,V.ah]<;>first|omega|assumption) ?_))
    ·simp only[if_neg h5]
     have aN:(r.1.all fun x=>et s x.term)=false:=by
      rw[List.all_eq_false]
      obtain⟨z,hz,_,e⟩:=gP hy
      refine⟨z,hz,fun h6=>h5 ?_⟩
      rw[e]at h6
      have:=gV h6
      omega
     simp+contextual (disch:=first|omega|simp only[go_sem,false_implies]) only[go_sem,wrap64,if_pos,Nat.add_assoc,Nat.left_eq_add,Nat.add_eq_left,Nat.add_left_cancel_iff,y1,y2,aN]
  ·rw[if_pos (rfl:true=true),if_neg (show ¬r.2=true by rw[Am];exact Bool.false_ne_true)]
   simp+contextual (disch:=first|omega|simp only[go_sem,false_implies]) only[go_sem,wrap64,if_pos,and_self]
end Go.Proofs.YtealblliddhgiaaGreat
namespace Go.Proofs.YtealblliddhgiaaGreat
theorem rQ(a b:Int):bC Tryz.prog 67 [.i a, .i b] (.ret [.i (kJ a b)]):=by
 refine bC.aV mix QY (by simp) ?_
 rw[VV]
 unfold kJ
 by_cases h1:a<b
 ·have eI:decide (a<b)=true:=by simpa using h1
  simp+contextual (disch:=first|omega|simp only[go_sem,false_implies]) only[go_sem,wrap64,if_pos,eI,h1]
 ·have eI:decide (a<b)=false:=by simpa using h1
  by_cases h2:b<a
  ·have ir:decide (b<a)=true:=by simpa using h2
   simp+contextual (disch:=first|omega|simp only[go_sem,false_implies]) only[go_sem,wrap64,if_pos,eI,ir,h1,h2]
  ·have ir:decide (b<a)=false:=by simpa using h2
   simp+contextual (disch:=first|omega|simp only[go_sem,false_implies]) only[go_sem,wrap64,if_pos,eI,ir,h1,h2]
theorem Hi{l:List Tm}{i:Nat}{x:Tm}(hx:l[i]? =some x):jO (l.take (i+1))=jO (l.take i)+x.sz:=by
 rw[List.take_add_one,hx]
 simp[jO]
theorem qX(l:List Tm)(i:Nat):jO (l.take i)<=jO l:=by
 have:jO l=jO (l.take i)+jO (l.drop i):=by
  unfold jO
  rw[<- List.sum_append, <- List.map_append,List.take_append_drop]
 omega
theorem C6:∀t:Tm,t.fits->t.sz<=1000000->bC Tryz.prog 68 [t.d] (.ret [.i t.sz]):=by
 refine Tm.ej fun t ih ht hz=> ?_
 have yc:=(Tm.bD t).1 ht
 have dL:=Tm.iH t
 refine bC.aV mix QZ (by simp) ?_
 rw[VW]
 simp+contextual (disch:=first|omega|simp only[go_sem,false_implies]) only[go_sem,wrap64,if_pos,and_self]
 refine aT (fun i:Nat=>⟨bq [.af, .ptr 0 0, .af, .d (.i (1+jO (t.kids.take i):Nat)), .d (.i i)],ax (fun _=> .no) 0 (.row t.row),1⟩) (fun i=>i<=t.kids.length) (fun i=>t.kids.length - i) 0 (Nat.zero_le _) ?_ ?_
 ·refine bP.cF _ (by omega) (by omega) (by repeat(first|exact hg.mono (by omega)|exact Good.nil|refine Good.ax ?_ (by omega) rfl|refine Good.ax ?_ (by omega) (cX _ _ _ (by omega))|refine Good.ax ?_ (by omega) (by simp[ab.refs,V.ah,V.refs]<;>omega))) (fun j hj=> ?_) ?_
  ·(repeat(first|rfl|rw[aa]|rw[ae _ _ _ _ (by omega)]))
  ·(repeat(first|exact ao|refine ai ?_|refine ag rfl ?_|refine ag (aR (aQ (by omega))) ?_|refine aD rfl (by simp[V.refs,V.ah]<;>first|omega|assumption) ?_))
 rintro i hi
 replace hi:i<=t.kids.length:=hi
 have hle:=qX t.kids i
 simp+contextual (disch:=first|omega|simp only[go_sem,false_implies]) only[go_sem,wrap64,if_pos,and_self]
 refine ak (fun h5=> ?_) (fun h5=> ?_)
 ·simp at h5
  obtain⟨x,hx⟩:=aM h5
  have gS:=List.mem_of_getElem? hx
  have HL:=Tm.iD gS
  have e1:=Hi hx
  have aab:=qX t.kids (i+1)
  simp+contextual (disch:=first|omega|simp only[go_sem,false_implies]) only[go_sem,wrap64,if_pos,hx]
  refine ay (ih x gS (yc.2 x gS) (by omega)) rfl ?_
  simp+contextual (disch:=first|omega|simp only[go_sem,false_implies]) only[go_sem,wrap64,if_pos,and_self]
  refine aA (i+1) h5 (by omega) (bP.cF _ (by omega) (by omega) (by repeat(first|exact hg.mono (by omega)|exact Good.nil|refine Good.ax ?_ (by omega) rfl|refine Good.ax ?_ (by omega) (cX _ _ _ (by omega))|refine Good.ax ?_ (by omega) (by simp[ab.refs,V.ah,V.refs]<;>omega))) (fun j hj=> ?_) ?_)
  ·(repeat(first|rfl|rw[aa]|rw[ae _ _ _ _ (by omega)]))
  ·rw[e1,show((1+(jO (t.kids.take i)+x.sz):Nat):Int)=((1+jO (t.kids.take i):Nat):Int)+(x.sz:Int) by omega]
   (repeat(first|exact ao|refine ai ?_|refine ag rfl ?_|refine ag (aR (aQ (by omega))) ?_|refine aD rfl (by simp[V.refs,V.ah]<;>first|omega|assumption) ?_))
 ·simp at h5
  have e:t.kids.take i=t.kids:=List.take_of_length_le h5
  simp+contextual (disch:=first|omega|simp only[go_sem,false_implies]) only[go_sem,wrap64,if_pos,and_self]
  rw[e, <- dL]
theorem Ev{a b:Tm}(h:ec a b=0):kJ (a.kids.length:Int) (b.kids.length:Int)=0:=by
 rw[(Bv a b).1 h]
 exact mZ.2 rfl
theorem BE:∀a:Tm,a.fits->a.sz<=1000000->∀b:Tm,b.fits->b.sz<=1000000->bC Tryz.prog 26 [a.d,b.d] (.ret [.i (ec a b)]):=by
 refine Tm.ej fun a ih ha za b hb zb=> ?_
 have Ja:=(Tm.bD _).1 ha
 have Ez:=(Tm.bD _).1 hb
 have k0:rk a b 0=kJ a.sz b.sz:=by simp[rk,ju,Tm.kL]
 have k1:rk a b 1=kJ a.op b.op:=by simp[rk,ju]
 have k2:rk a b 2=kJ a.n b.n:=by simp[rk,ju]
 refine bC.aV mix QA (by simp) ?_
 rw[Vg]
 simp+contextual (disch:=first|omega|simp only[go_sem,false_implies]) only[go_sem,wrap64,if_pos,and_self]
 refine bp (C6 a ha za) rfl ?_
 simp+contextual (disch:=first|omega|simp only[go_sem,false_implies]) only[go_sem,wrap64,if_pos,and_self]
 refine bp (C6 b hb zb) rfl ?_
 simp+contextual (disch:=first|omega|simp only[go_sem,false_implies]) only[go_sem,wrap64,if_pos,and_self]
 refine bp (rQ _ _) rfl ?_
 simp+contextual (disch:=first|omega|simp only[go_sem,false_implies]) only[go_sem,wrap64,if_pos,and_self]
 refine aP (aY rfl) ?_
 simp+contextual (disch:=first|omega|simp only[go_sem,false_implies]) only[go_sem,wrap64,if_pos,and_self]
 rw[<- k0]
 refine ak (fun h0=> ?_) (fun h0=> ?_)
 ·have HS:rk a b 0≠0:=by simpa using h0
  simp+contextual (disch:=first|omega|simp only[go_sem,false_implies]) only[go_sem,wrap64,if_pos,and_self]
  rw[jv,if_pos HS]
 have HS: ¬rk a b 0≠0:=by simpa using h0
 simp+contextual (disch:=first|omega|simp only[go_sem,false_implies]) only[go_sem,wrap64,if_pos,and_self]
 refine ay (rQ _ _) rfl ?_
 simp+contextual (disch:=first|omega|simp only[go_sem,false_implies]) only[go_sem,wrap64,if_pos,and_self]
 rw[<- k1]
 refine ak (fun h1=> ?_) (fun h1=> ?_)
 ·have eI:rk a b 1≠0:=by simpa using h1
  simp+contextual (disch:=first|omega|simp only[go_sem,false_implies]) only[go_sem,wrap64,if_pos,and_self]
  rw[jv,if_neg HS,if_pos eI]
 have eI: ¬rk a b 1≠0:=by simpa using h1
 simp+contextual (disch:=first|omega|simp only[go_sem,false_implies]) only[go_sem,wrap64,if_pos,and_self]
 refine ay (rQ _ _) rfl ?_
 simp+contextual (disch:=first|omega|simp only[go_sem,false_implies]) only[go_sem,wrap64,if_pos,and_self]
 rw[<- k2]
 refine ak (fun h2=> ?_) (fun h2=> ?_)
 ·have ir:rk a b 2≠0:=by simpa using h2
  simp+contextual (disch:=first|omega|simp only[go_sem,false_implies]) only[go_sem,wrap64,if_pos,and_self]
  rw[jv,if_neg HS,if_neg eI,if_pos ir]
 have ir: ¬rk a b 2≠0:=by simpa using h2
 have WB:ec a b=fD (a.kids.drop 0) (b.kids.drop 0):=by
  rw[jv,if_neg HS,if_neg eI,if_neg ir]
  simp
 simp+contextual (disch:=first|omega|simp only[go_sem,false_implies]) only[go_sem,wrap64,if_pos,and_self]
 refine aT (fun i:Nat=>⟨bq [.af, .af, .ptr 0 0, .ptr 1 0, .af, .af, .af, .af, .d (.i i)],nX a.row b.row,2⟩) (fun i=>i<=a.kids.length/\ec a b=fD (a.kids.drop i) (b.kids.drop i)) (fun i=>a.kids.length - i) 0 ⟨Nat.zero_le _,WB⟩ (bP.d2 _ (cz rfl rfl) (by omega) rfl rfl ?_) (fun i hi=> ?_)
 ·(repeat(first|exact ao|refine ai ?_|refine ag rfl ?_|refine ag (aR (aQ (by omega))) ?_|refine aD rfl (by simp[V.refs,V.ah]<;>first|omega|assumption) ?_))
 simp+contextual (disch:=first|omega|simp only[go_sem,false_implies]) only[go_sem,wrap64,if_pos,and_self]
 refine ak (fun h3=> ?_) (fun h3=> ?_)
 ·simp at h3
  obtain⟨x,hx⟩:=aM h3.1
  obtain⟨y,hy⟩:=aM h3.2
  have gS:=List.mem_of_getElem? hx
  have EI:=List.mem_of_getElem? hy
  simp+contextual (disch:=first|omega|simp only[go_sem,false_implies]) only[go_sem,wrap64,if_pos,hx,hy]
  refine bp (ih x gS (Ja.2 x gS) (by have:=Tm.iD gS;omega) y (Ez.2 y EI) (by have:=Tm.iD EI;omega)) rfl ?_
  simp+contextual (disch:=first|omega|simp only[go_sem,false_implies]) only[go_sem,wrap64,if_pos,and_self]
  refine aP (aY rfl) ?_
  simp+contextual (disch:=first|omega|simp only[go_sem,false_implies]) only[go_sem,wrap64,if_pos,and_self]
  have Br:=qR hx hy
  rw[<- hi.2]at Br
  refine ak (fun h4=> ?_) (fun h4=> ?_)
  ·simp+contextual (disch:=first|omega|simp only[go_sem,false_implies]) only[go_sem,wrap64,if_pos,and_self]
   have Hu:ec x y≠0:=by simpa using h4
   rw[Br,if_pos Hu]
  ·have Hu:ec x y=0:=by simpa using h4
   simp+contextual (disch:=first|omega|simp only[go_sem,false_implies]) only[go_sem,wrap64,if_pos,and_self]
   rw[if_neg (by simp[Hu])]at Br
   refine aA (i+1) ⟨h3.1,Br⟩ (by omega) (bP.d2 _ (cz rfl rfl) (by omega) rfl rfl ?_)
   (repeat(first|exact ao|refine ai ?_|refine ag rfl ?_|refine ag (aR (aQ (by omega))) ?_|refine aD rfl (by simp[V.refs,V.ah]<;>first|omega|assumption) ?_))
 ·simp only[Bool.and_eq_false_iff,decide_eq_false_iff_not]at h3
  have e0:ec a b=0:=by rw[hi.2];exact tz (by omega)
  simp+contextual (disch:=first|omega|simp only[go_sem,false_implies]) only[go_sem,wrap64,if_pos,List.length_map]
  refine ay (rQ _ _) rfl ?_
  simp+contextual (disch:=first|omega|simp only[go_sem,false_implies]) only[go_sem,wrap64,if_pos,and_self]
  rw[Ev e0,e0]
end Go.Proofs.YtealblliddhgiaaGreat
