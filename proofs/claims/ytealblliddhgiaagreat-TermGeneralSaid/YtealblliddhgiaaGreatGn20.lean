/-
  A PART OF THE PROOF. Conditions: none.
-/
import Derived.Test.YtealblliddhgiaaGreatGn19
set_option linter.unusedSimpArgs false
set_option linter.unusedVariables false
namespace Go.Proofs.YtealblliddhgiaaGreat
end Go.Proofs.YtealblliddhgiaaGreat
namespace Go.Proofs.YtealblliddhgiaaGreat
end Go.Proofs.YtealblliddhgiaaGreat
namespace Go.Proofs.YtealblliddhgiaaGreat
structure BL (l:List TB):Prop where
 len:l.length<=100
 sz:∀x∈l,x.term.sz<=1000
end Go.Proofs.YtealblliddhgiaaGreat
namespace Go.Proofs.YtealblliddhgiaaGreat
mutual
def Tm.ow:Tm->Prop
 | .mk _ _ kids=>kids.length<=1000/\Tm.IX kids
def Tm.IX:List Tm->Prop
 |[]=>True
 |k::l=>k.ow/\Tm.IX l
end
theorem Tm.BA:∀l:List Tm,Tm.IX l↔∀k∈l,k.ow
 |[]=>by simp[Tm.IX]
 |k::l=>by simp[Tm.IX,Tm.BA l]
theorem Tm.jk (t:Tm):t.ow↔t.kids.length<=1000/\∀k∈t.kids,k.ow:=by cases t;simp[Tm.ow,Tm.BA,Tm.kids]
theorem Tm.yN:∀t:Tm,t.sz<=1000->t.ow:=by
 refine Tm.eO fun t ih h=> ?_
 rw[Tm.jk]
 have:=sO t.kids
 have h2:=Tm.iQ t
 exact⟨by omega,fun k hk=>ih k hk (by have:=Tm.gQ hk;omega)⟩
theorem Tm.Da {b:List (Int×Tm)}(hb:∀p∈b,p.2.ow):∀t:Tm,t.ow->(aY b t).ow:=by
 refine Tm.eO fun t ih h=> ?_
 have h':=(Tm.jk t).1 h
 rw[uO]
 split
 ·split
  ·rename_i x hx;exact hb _ (fN hx)
  ·exact h
 ·rw[Tm.jk]
  refine⟨by simp only[Tm.kids,List.length_map];exact h'.1,fun k hk=> ?_⟩
  obtain⟨y,hy,rfl⟩:=List.mem_map.1 hk
  exact ih y hy (h'.2 y hy)
theorem Tm.uW:∀t:Tm,t.ow->t.fits:=by
 refine Tm.eO fun t ih h=> ?_
 have h':=(Tm.jk t).1 h
 rw[Tm.bR]
 exact⟨by omega,fun k hk=>ih k hk (h'.2 k hk)⟩
theorem Lj{s:aO}{t:Tm}(hv:Vs s t):(ct t).length<=20:=yE (fun n hn=>hv.range (((cL t).2 n).1 hn)) (cL t).1
end Go.Proofs.YtealblliddhgiaaGreat
namespace Go.Proofs.YtealblliddhgiaaGreat
@[reducible] def IY (m:List (Int×Tm)):ae:= .fq (enc (D.int .i64) (sP m))
def PL(b:List (Int×Tm))(x:ae):Prop:=x=cI b\/x=IY b
theorem U5{m:ae}{b:List (Int×Tm)}{f:Nat}{t x:Tm}(h:kT f b t=some x){o:Nat->ae}{nx id:Nat}(hg:Good o nx)(hm:m=cI b\/m=IY b)(ho:o id=m)(K X:V->(Nat->ae)->Nat->Prop)
 (hK:∀o' nx',nx<=nx'->Good o' nx'->(∀j,j<nx->o' j=o j)->K (.d (C8 x)) o' nx'):dX Tryz.prog 101 [.mp id, .d t.d] o nx K X:=by
 rcases hm with rfl|rfl
 all_goals
  have bC:id<nx:=hg.lt (by rw[ho];exact ae.noConfusion)
  have y1:id≠nx:=by omega
  have y2:∀k,id≠nx+k:=fun k=>by omega
  refine dX.aZ mix HL (by simp) ?_
  rw[Kj]
  simp+contextual (disch:=first|omega|simp only[go_sem,false_implies]) only[go_sem,wrap64,if_pos,ho,y1,y2,Nat.add_assoc,Nat.left_eq_add,Nat.add_eq_left,Nat.add_left_cancel_iff]
  refine aW (fun i:Nat×Tm=>⟨bw [.mp id, .ab, .ab, .ptr nx 0],ak o nx (.row i.2.row),nx+1⟩)
   (fun i=>kT i.1 b i.2=some x) (fun i=>i.1) (f,t) h ?_ ?_
  ·dsimp only
   refine bW.bE _ (by omega) (by omega) (by repeat(first|exact hg.mono (by omega)|exact Good.nil|refine Good.ak ?_ (by omega) rfl|refine Good.ak ?_ (by omega) (bV _ _ _ (by omega))|refine Good.ak ?_ (by omega) (by simp[ae.refs,V.ag,V.refs]<;>omega))) (fun j hj=> ?_) ?_
   ·(repeat(first|rfl|rw[aa]|rw[ad _ _ _ _ (by omega)]))
   ·(repeat(first|exact aq|refine ai ?_|refine ah rfl ?_|refine ah (aQ (aP (by omega))) ?_|refine aA rfl (by simp[V.refs,V.ag]<;>first|omega|assumption) ?_))
  rintro⟨f,t⟩ hf
  simp only at hf
  simp+contextual (disch:=first|omega|simp only[go_sem,false_implies]) only[go_sem,wrap64,if_pos,ho,y1,y2,Nat.add_assoc,Nat.left_eq_add,Nat.add_eq_left,Nat.add_left_cancel_iff]
  refine aU (mm t) ?_
  cases f with
  |zero=>cases hf
  |succ f=>
  simp only[kT]at hf
  by_cases h1:t.op=1
  ·rw[if_pos h1]at hf
   rw[seeD_1 h1]
   cases hl:bz b t.n with
   |none=>
    rw[hl]at hf
    injection hf with hf
    subst hf
    simp+contextual (disch:=first|omega|simp only[go_sem,false_implies]) only[go_sem,wrap64,if_pos,ho,y1,y2,Nat.add_assoc,Nat.left_eq_add,Nat.add_eq_left,Nat.add_left_cancel_iff,dz hl]
    refine aU (mm t) ?_
    rw[seeD_1 h1]at hK|-
    simp+contextual (disch:=first|omega|simp only[go_sem,false_implies]) only[go_sem,wrap64,if_pos,and_self]
    exact hK _ _ (by omega) (by repeat(first|exact hg.mono (by omega)|exact Good.nil|refine Good.ak ?_ (by omega) rfl|refine Good.ak ?_ (by omega) (bV _ _ _ (by omega))|refine Good.ak ?_ (by omega) (by simp[ae.refs,V.ag,V.refs]<;>omega))) (fun j hj=>by(repeat(first|rfl|rw[aa]|rw[ad _ _ _ _ (by omega)])))
   |some z=>
    rw[hl]at hf
    obtain⟨j,hj⟩:=eA hl
    simp+contextual (disch:=first|omega|simp only[go_sem,false_implies]) only[go_sem,wrap64,if_pos,ho,y1,y2,Nat.add_assoc,Nat.left_eq_add,Nat.add_eq_left,Nat.add_left_cancel_iff,hj]
    refine aB (f,z) hf (by dsimp only;omega) (bW.bE _ (by omega) (by omega) (by repeat(first|exact hg.mono (by omega)|exact Good.nil|refine Good.ak ?_ (by omega) rfl|refine Good.ak ?_ (by omega) (bV _ _ _ (by omega))|refine Good.ak ?_ (by omega) (by simp[ae.refs,V.ag,V.refs]<;>omega))) (fun j hj=> ?_) ?_)
    ·by_cases e:j=nx
     ·subst e;(repeat(first|rfl|rw[aa]|rw[ad _ _ _ _ (by omega)]))
     ·(repeat(first|rfl|rw[aa]|rw[ad _ _ _ _ (by omega)]))
    ·(repeat(first|exact aq|refine ai ?_|refine ah rfl ?_|refine ah (aQ (aP (by omega))) ?_|refine aA rfl (by simp[V.refs,V.ag]<;>first|omega|assumption) ?_))
  ·rw[if_neg h1]at hf
   injection hf with hf
   subst hf
   rw[seeD_2 h1]at hK|-
   cases hl:bz b 0 with
   |none=>
    simp+contextual (disch:=first|omega|simp only[go_sem,false_implies]) only[go_sem,wrap64,if_pos,ho,y1,y2,Nat.add_assoc,Nat.left_eq_add,Nat.add_eq_left,Nat.add_left_cancel_iff,dz hl]
    refine aU (mm t) ?_
    rw[seeD_2 h1]
    simp+contextual (disch:=first|omega|simp only[go_sem,false_implies]) only[go_sem,wrap64,if_pos,and_self]
    exact hK _ _ (by omega) (by repeat(first|exact hg.mono (by omega)|exact Good.nil|refine Good.ak ?_ (by omega) rfl|refine Good.ak ?_ (by omega) (bV _ _ _ (by omega))|refine Good.ak ?_ (by omega) (by simp[ae.refs,V.ag,V.refs]<;>omega))) (fun j hj=>by(repeat(first|rfl|rw[aa]|rw[ad _ _ _ _ (by omega)])))
   |some z=>
    obtain⟨j,hj⟩:=eA hl
    simp+contextual (disch:=first|omega|simp only[go_sem,false_implies]) only[go_sem,wrap64,if_pos,ho,y1,y2,Nat.add_assoc,Nat.left_eq_add,Nat.add_eq_left,Nat.add_left_cancel_iff,hj]
    refine aU (mm t) ?_
    rw[seeD_2 h1]
    simp+contextual (disch:=first|omega|simp only[go_sem,false_implies]) only[go_sem,wrap64,if_pos,and_self]
    exact hK _ _ (by omega) (by repeat(first|exact hg.mono (by omega)|exact Good.nil|refine Good.ak ?_ (by omega) rfl|refine Good.ak ?_ (by omega) (bV _ _ _ (by omega))|refine Good.ak ?_ (by omega) (by simp[ae.refs,V.ag,V.refs]<;>omega))) (fun j hj=>by(repeat(first|rfl|rw[aa]|rw[ad _ _ _ _ (by omega)])))
theorem U6{b:List (Int×Tm)}{f:Nat}{t x:Tm}(h:kT f b t=some x){o:Nat->ae}{nx id:Nat}(hg:Good o nx)(ho:PL b (o id))(K X:V->(Nat->ae)->Nat->Prop)
 (hK:∀o' nx',nx<=nx'->Good o' nx'->(∀j,j<nx->o' j=o j)->K (.d (C8 x)) o' nx'):dX Tryz.prog 101 [.mp id, .d t.d] o nx K X:=U5 h hg ho rfl K X hK
def WhK(lp:Nat)(r:Option Tm×Int)(o:Nat->ae)(nx:Nat)(K:V->(Nat->ae)->Nat->Prop):Prop:=
 ∀o' nx',nx<=nx'->Good o' nx'->(∀j,j<nx->j≠lp->o' j=o j)->o' lp= .row [.d (.i r.2)]->
  match r.1 with
  |none=>K (.bS [.agg [.d (.i 0), .d (.i 0), .bn], .d (.bool false)]) o' nx'
  |some x=>∀c,nx<=c->o' c= .arr 0 28 3 (x.kids.map Tm.d)->K (.bS [.agg [.d (.i x.op), .d (.i x.n), .osl c 0], .d (.bool true)]) o' nx'
def Zo(b:List (Int×Tm))(f:Nat):Prop:=∀ (t:Tm) (left d:Int) (r:Option Tm×Int),o6 t/\t.ow->xd f b t left d=some r->(0<=left/\left<=1000)->(0<=d/\d<=1000)->∀ (o:Nat->ae) (nx id lp:Nat),Good o nx->PL b (o id)->o lp= .row [.d (.i left)]->∀ (K X:V->(Nat->ae)->Nat->Prop),
    WhK lp r o nx K->dX Tryz.prog 64 [.mp id, .d t.d, .ptr lp 0, .d (.i d)] o nx K X
theorem IZ{x:Tm}(hx:x.wf):∃g y,rC Tryz.prog "swingle/term.term" (.d (C8 x))=some (g, .d y)/\bJ Tryz.prog g [y] (.ret [x.d]):=by
 by_cases h1:x.op=1
 ·refine⟨125, .i x.n, ?_, ?_⟩
  ·rw[seeD_1 h1];kernel_rfl
  ·have:=yI x.n
   rwa [<- yA hx h1]at this
 ·refine⟨128,x.d, ?_,sS x⟩
  rw[seeD_2 h1];kernel_rfl
def I0(gV:List Tm):Option (Option (List Tm)×Int)->Option (Option (List Tm)×Int)
 |some (some ys,l)=>some (some (gV++ys),l)
 |some (none,l)=>some (none,l)
 |none=>none
theorem I1{F:Tm->Int->Option (Option Tm×Int)}(hF:∀k l y l1,F k l=some (some y,l1)->0<=l->0<=l1/\l1<=l):∀ (ks:List Tm) (l:Int) (ys:List Tm) (l1:Int),vi F ks l=some (some ys,l1)->0<=l->0<=l1/\l1<=l
 |[],l,ys,l1,h,h0=>by simp only[vi]at h;injection h with h;injection h with _ h;omega
 |k::ks,l,ys,l1,h,h0=>by
  simp only[vi]at h
  cases e:F k l with
  |none=>rw[e]at h;cases h
  |some r=>
   obtain⟨y,l2⟩:=r
   rw[e]at h
   cases y with
   |none=>simp only at h;injection h with h;injection h with h;cases h
   |some y=>
    simp only at h
    have h2:=hF k l y l2 e h0
    cases e2:vi F ks l2 with
    |none=>rw[e2]at h;cases h
    |some r2=>
     obtain⟨zs,l3⟩:=r2
     rw[e2]at h
     cases zs with
     |none=>simp only at h;injection h with h;injection h with h;cases h
     |some zs=>
      have:=I1 hF ks l2 zs l3 e2 h2.1
      simp only at h
      injection h with h
      injection h with _ h
      omega
theorem M4{b:List (Int×Tm)}:∀ (f:Nat) (t:Tm) (left d:Int) (y:Tm) (l1:Int),xd f b t left d=some (some y,l1)->0<=left->0<=l1/\l1<=left
 |0,_,_,_,_,_,h,_=>by cases h
 |f+1,t,left,d,y,l1,h,h0=>by
  simp only[xd]at h
  cases e:kT f b t with
  |none=>rw[e]at h;cases h
  |some x=>
   rw[e]at h
   simp only at h
   split at h
   ·injection h with h;injection h with h;cases h
   ·rename_i h1
    cases e2:vi (fun k l=>xd f b k l (d - 1)) x.kids (left - 1)with
    |none=>rw[e2]at h;cases h
    |some r=>
     obtain⟨ys,l2⟩:=r
     rw[e2]at h
     cases ys with
     |none=>simp only at h;injection h with h;injection h with h;cases h
     |some ys=>
      have:=I1 (fun k l y l1 hk=>M4 f k l (d - 1) y l1 hk) x.kids (left - 1) ys l2 e2 (by omega)
      simp only at h
      injection h with h
      injection h with _ h
      omega
theorem Db{b:List (Int×Tm)}(hb:∀p∈b,o6 p.2/\p.2.ow){f:Nat}(ih:Zo b f):Zo b (f+1):=by
 intro t left d r ht h hl hd o nx id lp hg ho hp K X hK
 have bC:id<nx:=hg.lt (by rcases ho with ho|ho<;>rw[ho]<;>exact ae.noConfusion)
 have hlp:lp<nx:=hg.lt (by rw[hp];exact ae.noConfusion)
 have V2:id≠lp:=fun e=>by subst e;rw[hp]at ho;rcases ho with ho|ho<;>cases ho
 have y1:id≠nx:=by omega
 have y2:∀k,id≠nx+k:=fun k=>by omega
 have y3:lp≠nx:=by omega
 have y4:∀k,lp≠nx+k:=fun k=>by omega
 simp only[xd]at h
 cases e1:kT f b t with
 |none=>rw[e1]at h;cases h
 |some x=>
 rw[e1]at h
 simp only at h
 have hx:=rk (P:=fun t=>o6 t/\t.ow) hb f t x ht e1
 have nR:=(Tm.jk x).1 hx.2
 refine dX.aZ mix S3 (by simp) ?_
 rw[Ye]
 simp+contextual (disch:=first|omega|simp only[go_sem,false_implies]) only[go_sem,wrap64,if_pos,hp,y1,y2,y3,y4,Nat.add_assoc,Nat.left_eq_add,Nat.add_eq_left,Nat.add_left_cancel_iff]
 refine iK (U6 e1 (id:=id) ?_ ?_ _ _ fun o1 n1 g1 g2 g3=> ?_)
 ·exact(by repeat(first|exact hg.mono (by omega)|exact Good.nil|refine Good.ak ?_ (by omega) rfl|refine Good.ak ?_ (by omega) (bV _ _ _ (by omega))|refine Good.ak ?_ (by omega) (by simp[ae.refs,V.ag,V.refs]<;>omega)))
 ·(repeat(first|rfl|rw[aa]|rw[ad _ _ _ _ (by omega)]))
  exact ho
 have lP:PL b (o1 id):=by rw[g3 id (by omega)];(repeat(first|rfl|rw[aa]|rw[ad _ _ _ _ (by omega)]));exact ho
 have xw:o1 lp= .row [.d (.i left)]:=by rw[g3 lp (by omega)];(repeat(first|rfl|rw[aa]|rw[ad _ _ _ _ (by omega)]));exact hp
 clear hg
 have hg:=g2
 have z1:∀k,id≠n1+k:=fun k=>by omega
 have z2:∀k,lp≠n1+k:=fun k=>by omega
 obtain⟨gm,ym,Ze,tq⟩:=IZ hx.1.2
 have q8:o1 (nx+1)= .row [.d (.i 0), .d (.i 0), .bn]:=by rw[g3 _ (by omega)];(repeat(first|rfl|rw[aa]|rw[ad _ _ _ _ (by omega)]))
 have z3:∀k,nx+1≠n1+k:=fun k=>by omega
 have z5:lp≠nx+1:=by omega
 have z6:nx+1≠lp:=by omega
 have cS:∀j,j<nx->o1 j=o j:=fun j hj=>by rw[g3 j (by omega)];(repeat(first|rfl|rw[aa]|rw[ad _ _ _ _ (by omega)]))
 simp+contextual (disch:=first|omega|simp only[go_sem,false_implies]) only[go_sem,wrap64,if_pos,xw,z1,z2,Nat.add_assoc,Nat.left_eq_add,Nat.add_eq_left,Nat.add_left_cancel_iff,Ze]
 refine CB tq ?_
 simp+contextual (disch:=first|omega|simp only[go_sem,false_implies]) only[go_sem,wrap64,if_pos,xw,z1,z2,Nat.add_assoc,Nat.left_eq_add,Nat.add_eq_left,Nat.add_left_cancel_iff]
 by_cases h1:left - 1<0\/d=0
 ·rw[if_pos h1]at h
  injection h with h
  subst h
  have nI:(decide (left - 1<0)||d==0)=true:=by simpa using h1
  simp+contextual (disch:=first|omega|simp only[go_sem,false_implies]) only[go_sem,wrap64,if_pos,nI,xw,q8,z1,z2,z3,z5,z6,Nat.add_assoc,Nat.left_eq_add,Nat.add_eq_left,Nat.add_left_cancel_iff]
  refine hK _ _ (by omega) (by repeat(first|exact hg.mono (by omega)|exact Good.nil|refine Good.ak ?_ (by omega) rfl|refine Good.ak ?_ (by omega) (bV _ _ _ (by omega))|refine Good.ak ?_ (by omega) (by simp[ae.refs,V.ag,V.refs]<;>omega))) (fun j j1 j2=>by(repeat(first|rfl|rw[aa]|rw[ad _ _ _ _ (by omega)]));exact cS j j1) (by(repeat(first|rfl|rw[aa]|rw[ad _ _ _ _ (by omega)])))
 ·rw[if_neg h1]at h
  have nI:(decide (left - 1<0)||d==0)=false:=by simp at h1|-;omega
  simp+contextual (disch:=first|omega|simp only[go_sem,false_implies]) only[go_sem,wrap64,if_pos,nI,xw,z1,z2,Nat.add_assoc,Nat.left_eq_add,Nat.add_eq_left,Nat.add_left_cancel_iff]
  have hR:∃r0,vi (fun k l=>xd f b k l (d - 1)) x.kids (left - 1)=some r0:=by
   cases e:vi (fun k l=>xd f b k l (d - 1)) x.kids (left - 1)with
   |none=>rw[e]at h;cases h
   |some r0=>exact⟨r0,rfl⟩
  obtain⟨r0,HH⟩:=hR
  rw[HH]at h
  refine aW (fun i:Nat×List Tm×Int=>⟨bw [.mp id, .ab, .ptr lp 0, .d (.i d), .ab, .ab, .ab, .ab, .ptr (nx+1) 0, .ab, .ab, .ptr (n1+22) 0, .ab, .ab, .ab, .ab, .ab, .ab, .ab, .ab, .ab, .ab, .ab, .ab, .ab, .ab, .ab, .ab, .ab, .ab, .ab, .ab, .ab, .ab, .ab, .ab, .ab, .ab, .ab, .ab, .d (.sl (x.kids.map Tm.d)), .d (.i x.kids.length), .d (.i i.1)],ak (ak (ak o1 lp (.row [.d (.i i.2.2)])) (n1+22) (.row [.d (.i x.op), .d (.i x.n), .osl (n1+28) 0])) (n1+28) (.arr 0 28 3 (i.2.1.map Tm.d)),n1+29⟩)
   (fun i=>i.1<=x.kids.length/\i.2.1.length=i.1/\(0<=i.2.2/\i.2.2<=1000)/\I0 i.2.1 (vi (fun k l=>xd f b k l (d - 1)) (x.kids.drop i.1) i.2.2)=some r0) (fun i=>x.kids.length - i.1) (0,[],left - 1) ⟨Nat.zero_le _,rfl,by dsimp only;omega, ?_⟩
   (bW.yn (ty:=28) (sz:=3) (es:=[]) (fun _=>False) .bn (n1+28) _ (by omega) (fun j hj=> ?_) (by dsimp only;rw[aa];simp) (.inl ⟨rfl,rfl,by decide⟩) (fun j hj=> ?_) (fun _ h=>h.elim) ?_) ?_
  ·simp only[List.drop_zero]
   rw[HH]
   obtain⟨ys,l2⟩:=r0
   cases ys<;>rfl
  ·dsimp only
   by_cases e1:j=n1+22
   ·subst e1
    exact gP (y:= .row [.d (.i x.op), .d (.i x.n), .bn]) (by(repeat(first|rfl|rw[aa]|rw[ad _ _ _ _ (by omega)]))) (by(repeat(first|rfl|rw[aa]|rw[ad _ _ _ _ (by omega)]))) (lB rfl (kO (kO (yk 0 rfl rfl rfl lA))))
   ·by_cases e2:j=lp
    ·subst e2
     exact gP (y:= .row [.d (.i (left - 1))]) (by(repeat(first|rfl|rw[aa]|rw[ad _ _ _ _ (by omega)]))) (by(repeat(first|rfl|rw[aa]|rw[ad _ _ _ _ (by omega)]))) (lB rfl (kO lA))
    ·by_cases e3:j=n1+1
     ·subst e3
      exact gP rfl (by(repeat(first|rfl|rw[aa]|rw[ad _ _ _ _ (by omega)]));exact hg.fresh _ (by omega)) yl
     ·exact gP (y:=o1 j) (by(repeat(first|rfl|rw[aa]|rw[ad _ _ _ _ (by omega)]))) (by(repeat(first|rfl|rw[aa]|rw[ad _ _ _ _ (by omega)]))) (jv rfl (fun r hr=>by have:=hg.refs j r hr;omega))
  ·dsimp only
   (repeat(first|rfl|rw[aa]|rw[ad _ _ _ _ (by omega)]))
   exact hg.fresh j (by omega)
  ·dsimp only
   (repeat(first|exact gH|refine fl ?_|refine eG rfl ?_|refine eG (aQ (aP (by omega))) ?_|refine mf 0 rfl rfl rfl ?_|refine me rfl (by simp[V.refs,V.ag]<;>first|omega|assumption) ?_|refine mg rfl (by simp[V.ids]<;>omega) ?_))
  rintro⟨k,gV,l1⟩ ⟨hk,Nl,Dj,aT⟩
  simp only at hk Nl Dj aT
  simp+contextual (disch:=first|omega|simp only[go_sem,false_implies]) only[go_sem,wrap64,if_pos,z1,z2,Nat.add_assoc,Nat.left_eq_add,Nat.add_eq_left,Nat.add_left_cancel_iff]
  refine ay (fun h5=> ?_) (fun h5=> ?_)
  ·simp at h5
   obtain⟨y,hy⟩:=aX h5
   have Pk:=List.mem_of_getElem? hy
   have Px:x.kids.drop k=y::x.kids.drop (k+1):=by
    obtain⟨h5,h6⟩:=List.getElem?_eq_some_iff.1 hy
    rw[List.drop_eq_getElem_cons h5,h6]
   rw[Px]at aT
   simp only[vi]at aT
   cases e:xd f b y l1 (d - 1)with
   |none=>rw[e]at aT;cases aT
   |some r1=>
   have ZB:1<=d:=by omega
   simp+contextual (disch:=first|omega|simp only[go_sem,false_implies]) only[go_sem,wrap64,if_pos,z1,z2,Nat.add_assoc,Nat.left_eq_add,Nat.add_eq_left,Nat.add_left_cancel_iff,hy]
   refine iK (ih y l1 (d - 1) r1 ⟨o6.mC x y hx.1 Pk,nR.2 y Pk⟩ e Dj (by omega) _ _ id lp ?_ ?_ ?_ _ _ ?_)
   ·exact(by repeat(first|exact hg.mono (by omega)|exact Good.nil|refine Good.ak ?_ (by omega) rfl|refine Good.ak ?_ (by omega) (bV _ _ _ (by omega))|refine Good.ak ?_ (by omega) (by simp[ae.refs,V.ag,V.refs]<;>omega)))
   ·(repeat(first|rfl|rw[aa]|rw[ad _ _ _ _ (by omega)]))
    exact lP
   ·(repeat(first|rfl|rw[aa]|rw[ad _ _ _ _ (by omega)]))
   intro o3 n3 w1 w2 w3 w4
   have Iu:o3 (n1+22)= .row [.d (.i x.op), .d (.i x.n), .osl (n1+28) 0]:=by rw[w3 _ (by omega) (by omega)];(repeat(first|rfl|rw[aa]|rw[ad _ _ _ _ (by omega)]))
   have u28:o3 (n1+28)= .arr 0 28 3 (gV.map Tm.d):=by rw[w3 _ (by omega) (by omega)];(repeat(first|rfl|rw[aa]|rw[ad _ _ _ _ (by omega)]))
   have u8:o3 (nx+1)= .row [.d (.i 0), .d (.i 0), .bn]:=by rw[w3 _ (by omega) (by omega)];(repeat(first|rfl|rw[aa]|rw[ad _ _ _ _ (by omega)]));exact q8
   have v1:∀k,lp≠n3+k:=fun k=>by omega
   have v2:∀k,n1+22≠n3+k:=fun k=>by omega
   have v3:∀k,n1+28≠n3+k:=fun k=>by omega
   have v4:∀k,nx+1≠n3+k:=fun k=>by omega
   obtain⟨ry,l2⟩:=r1
   simp only at w4
   cases ry with
   |none=>
    rw[e]at aT
    simp only[I0]at aT
    injection aT with aT
    subst aT
    simp only at h
    injection h with h
    subst h
    simp only
    simp+contextual (disch:=first|omega|simp only[go_sem,false_implies]) only[go_sem,wrap64,if_pos,w4,u8,v1,v4,Nat.add_assoc,Nat.left_eq_add,Nat.add_eq_left,Nat.add_left_cancel_iff]
    clear hg
    have hg:=w2
    refine hK _ _ (by omega) (by repeat(first|exact hg.mono (by omega)|exact Good.nil|refine Good.ak ?_ (by omega) rfl|refine Good.ak ?_ (by omega) (bV _ _ _ (by omega))|refine Good.ak ?_ (by omega) (by simp[ae.refs,V.ag,V.refs]<;>omega))) (fun j j1 j2=>by(repeat(first|rfl|rw[aa]|rw[ad _ _ _ _ (by omega)]));rw[w3 j (by omega) j2];(repeat(first|rfl|rw[aa]|rw[ad _ _ _ _ (by omega)]));exact cS j j1) (by(repeat(first|rfl|rw[aa]|rw[ad _ _ _ _ (by omega)]))<;>exact w4)
   |some w=>
    simp only
    intro c hc rL
    rw[e]at aT
    simp only at aT
    have hb2:=M4 f y l1 (d - 1) w l2 e Dj.1
    have v5:n1+22≠c:=by omega
    have v6:n1+28≠c:=by omega
    have v7:c≠n1+28:=by omega
    have UJ:c<n3:=w2.lt (by rw[rL];exact ae.noConfusion)
    have v8:∀k,c≠n3+k:=fun k=>by omega
    simp+contextual (disch:=first|omega|simp only[go_sem,false_implies]) only[go_sem,wrap64,if_pos,w4,Iu,u28,rL,v1,v2,v3,v5,v6,v7,v8,Nat.add_assoc,Nat.left_eq_add,Nat.add_eq_left,Nat.add_left_cancel_iff,List.length_map,Nl]
    have U7:I0 (gV++[w]) (vi (fun k l=>xd f b k l (d - 1)) (x.kids.drop (k+1)) l2)=some r0:=by
     rw[<- aT]
     cases vi (fun k l=>xd f b k l (d - 1)) (x.kids.drop (k+1)) l2 with
     |none=>rfl
     |some r2=>
      obtain⟨ys,l3⟩:=r2
      cases ys with
      |none=>rfl
      |some ys=>simp[I0]
    have U8:∀j,j<n1+28->j≠lp->j≠n1+22->o3 j=o1 j:=fun j j1 j2 j3=>by rw[w3 j (by omega) j2];(repeat(first|rfl|rw[aa]|rw[ad _ _ _ _ (by omega)]))
    refine aB (k+1,gV++[w],l2) ⟨h5,by dsimp only;simp[Nl],by dsimp only;omega,U7⟩ (by dsimp only;omega) (bW.yn (fun j=>j=n1+28) (.osl (n1+28) 1) (n1+28) _ (by omega) (fun j hj=> ?_) (by dsimp only;exact aa _ _ _) (.inr ⟨n1+28,1,rfl,rfl,by(repeat(first|rfl|rw[aa]|rw[ad _ _ _ _ (by omega)]));rw[List.map_append];rfl⟩) (fun j hj=> ?_) (fun j h h2=>by omega) ?_)
    ·dsimp only
     by_cases e1:j=n1+22
     ·subst e1
      exact gP (y:= .row [.d (.i x.op), .d (.i x.n), .osl (n1+28) 1]) (by(repeat(first|rfl|rw[aa]|rw[ad _ _ _ _ (by omega)]))) (by(repeat(first|rfl|rw[aa]|rw[ad _ _ _ _ (by omega)]))) (lB rfl (kO (kO (yk 0 rfl rfl rfl lA))))
     ·by_cases e2:j=lp
      ·subst e2
       exact gP (y:= .row [.d (.i l2)]) (by(repeat(first|rfl|rw[aa]|rw[ad _ _ _ _ (by omega)]));exact w4) (by(repeat(first|rfl|rw[aa]|rw[ad _ _ _ _ (by omega)]))) (lB rfl (kO lA))
      ·exact gP (y:=o1 j) (by(repeat(first|rfl|rw[aa]|rw[ad _ _ _ _ (by omega)]));exact U8 j hj e2 e1) (by(repeat(first|rfl|rw[aa]|rw[ad _ _ _ _ (by omega)]))) (jv rfl (fun r hr=>by
        by_cases ZN:j<n1
        ·have:=g2.refs j r hr;omega
        ·rw[g2.fresh j (by omega)]at hr;cases hr))
    ·dsimp only
     (repeat(first|rfl|rw[aa]|rw[ad _ _ _ _ (by omega)]))
     exact g2.fresh j (by omega)
    ·dsimp only
     (repeat(first|exact gH|refine fl ?_|refine eG rfl ?_|refine eG (aQ (aP (by omega))) ?_|refine mf 0 rfl rfl rfl ?_|refine me rfl (by simp[V.refs,V.ag]<;>first|omega|assumption) ?_|refine mg rfl (by simp[V.ids]<;>omega) ?_))
  ·simp at h5
   rw[List.drop_eq_nil_of_le h5]at aT
   simp only[vi,I0,List.append_nil]at aT
   injection aT with aT
   subst aT
   simp only at h
   injection h with h
   subst h
   simp+contextual (disch:=first|omega|simp only[go_sem,false_implies]) only[go_sem,wrap64,if_pos,q8,z1,z2,z3,z5,z6,Nat.add_assoc,Nat.left_eq_add,Nat.add_eq_left,Nat.add_left_cancel_iff]
   exact hK _ _ (by omega) (by repeat(first|exact hg.mono (by omega)|exact Good.nil|refine Good.ak ?_ (by omega) rfl|refine Good.ak ?_ (by omega) (bV _ _ _ (by omega))|refine Good.ak ?_ (by omega) (by simp[ae.refs,V.ag,V.refs]<;>omega))) (fun j j1 j2=>by(repeat(first|rfl|rw[aa]|rw[ad _ _ _ _ (by omega)]));exact cS j j1) (by(repeat(first|rfl|rw[aa]|rw[ad _ _ _ _ (by omega)]))) (n1+28) (by omega) (by(repeat(first|rfl|rw[aa]|rw[ad _ _ _ _ (by omega)])))
theorem Ey{b:List (Int×Tm)}(hb:∀p∈b,o6 p.2/\p.2.ow):∀f,Zo b f
 |0=>fun t left d r _ h=>by cases h
 |f+1=>Db hb (Ey hb f)
end Go.Proofs.YtealblliddhgiaaGreat
namespace Go.Proofs.YtealblliddhgiaaGreat
theorem PM{s:aO}:∀t:Tm,Vs s t->t.sz<=1000->C5 t:=by
 refine Tm.eO fun t ih hv hz=> ?_
 exact Bn (iT s t hv.1) hz (fun k hk=>ih k hk (hv.mC hk) (by have:=Tm.gQ hk;omega)) (fun h8=>absurd h8 hv.n8)
theorem Lk{s:aO}{t:Tm}(hv:Vs s t)(hz:t.sz<=1000):bJ Tryz.prog 53 [vh [],t.d] (.ret [t.d]):=by
 have:=PM t hv hz [] ⟨List.nodup_nil,by simp,by simp,by simp⟩
 rwa [lI _ _ (iT s t hv.1)]at this
theorem I2{s:aO}{b:List (Int×Tm)}(hb:∀p∈b,Vs s p.2/\p.2.sz<=1000):bJ Tryz.prog 62 [vh b] (.ret [.sl ((jX b 20).map TB.d)]):=by
 refine bJ.aZ mix S2 (by simp) ?_
 rw[Yc]
 simp+contextual (disch:=first|omega|simp only[go_sem,false_implies]) only[go_sem,wrap64,if_pos,and_self]
 refine aW (fun i:Nat=>⟨bw [.d (vh b), .ab, .ab, .osl 0 0, .ab, .ab, .ab, .d (.i i)],ak (fun _=> .no) 0 (.arr 0 52 4 ((jX b i).map TB.d)),1⟩)
  (fun i=>i<=20) (fun i=>20 - i) 0 (Nat.zero_le _) (bW.yn (ty:=52) (sz:=4) (es:=[]) (fun _=>False) .bn 0 _ (by omega) (fun j hj=>absurd hj (by omega)) (by rw[aa];simp[jX]) (.inl ⟨rfl,rfl,by decide⟩) (fun j hj=>by(repeat(first|rfl|rw[aa]|rw[ad _ _ _ _ (by omega)]))) (fun _ h=>h.elim) ?_) ?_
 ·(repeat(first|exact gH|refine fl ?_|refine eG rfl ?_|refine eG (aQ (aP (by omega))) ?_|refine mf 0 rfl rfl rfl ?_|refine me rfl (by simp[V.refs,V.ag]<;>first|omega|assumption) ?_|refine mg rfl (by simp[V.ids]<;>omega) ?_))
 rintro i hi
 replace hi:i<=20:=hi
 have hln:=F3 b i
 simp+contextual (disch:=first|omega|simp only[go_sem,false_implies]) only[go_sem,wrap64,if_pos,and_self]
 refine ay (fun h5=> ?_) (fun h5=> ?_)
 ·simp at h5
  have V6:=oZ b i
  cases hl:bz b (i:Int)with
  |none=>
   rw[hl]at V6
   simp+contextual (disch:=first|omega|simp only[go_sem,false_implies]) only[go_sem,wrap64,if_pos,Ei,hl]
   refine aB (i+1) (by omega) (by omega) (bW.yn (fun j=>j=0) (.osl 0 0) 0 _ (by omega) (fun j hj=>absurd hj (by omega)) (aa _ _ _) (.inr ⟨0,0,rfl,rfl,by(repeat(first|rfl|rw[aa]|rw[ad _ _ _ _ (by omega)]));rw[V6,List.append_nil]⟩) (fun j hj=>by(repeat(first|rfl|rw[aa]|rw[ad _ _ _ _ (by omega)]))) (fun j h h2=>by omega) ?_)
   (repeat(first|exact gH|refine fl ?_|refine eG rfl ?_|refine eG (aQ (aP (by omega))) ?_|refine mf 0 rfl rfl rfl ?_|refine me rfl (by simp[V.refs,V.ag]<;>first|omega|assumption) ?_|refine mg rfl (by simp[V.ids]<;>omega) ?_))
  |some x=>
   rw[hl]at V6
   obtain⟨x1,x2⟩:=hb _ (fN hl)
   simp+contextual (disch:=first|omega|simp only[go_sem,false_implies]) only[go_sem,wrap64,if_pos,Ei,hl]
   refine aU (Lk x1 x2) ?_
   simp+contextual (disch:=first|omega|simp only[go_sem,false_implies]) only[go_sem,wrap64,if_pos,List.length_map]
   refine aB (i+1) (by omega) (by omega) (bW.yn (fun j=>j=0) (.osl 0 1) 0 _ (by omega) (fun j hj=>absurd hj (by omega)) (aa _ _ _) (.inr ⟨0,1,rfl,rfl,by(repeat(first|rfl|rw[aa]|rw[ad _ _ _ _ (by omega)]));rw[V6,List.map_append,List.map_cons,List.map_nil]⟩) (fun j hj=>by(repeat(first|rfl|rw[aa]|rw[ad _ _ _ _ (by omega)]))) (fun j h h2=>by omega) ?_)
   (repeat(first|exact gH|refine fl ?_|refine eG rfl ?_|refine eG (aQ (aP (by omega))) ?_|refine mf 0 rfl rfl rfl ?_|refine me rfl (by simp[V.refs,V.ag]<;>first|omega|assumption) ?_|refine mg rfl (by simp[V.ids]<;>omega) ?_))
 ·simp at h5
  have V2:i=20:=by omega
  subst V2
  simp+contextual (disch:=first|omega|simp only[go_sem,false_implies]) only[go_sem,wrap64,if_pos,and_self]
end Go.Proofs.YtealblliddhgiaaGreat
namespace Go.Proofs.YtealblliddhgiaaGreat
theorem I3{s:aO}{a b:Tm}(h:cX s [a,b]=true):(Vs s a/\Vs s b)/\(bL s a=true/\bL s b=true):=by
 simp only[cX,lF,gK,Bool.and_eq_true,List.all_cons,List.all_nil,Bool.and_true]at h
 obtain⟨⟨_,h1,h2⟩,h3,h4⟩:=h
 rw[nO h1]at h3
 rw[nO h2]at h4
 have g1:=h1
 have g2:=h2
 simp only[bL,Bool.and_eq_true]at g1 g2
 exact⟨⟨⟨g1.2,h3⟩,g2.2,h4⟩,h1,h2⟩
def o7(s:aO)(a b:Tm):List TB×Int:=if cX s [a,b]=true then(if(de a b []).2=true then((de a b []).1,0)else([],5))else([],2)
theorem Ll(s:aO)(hs:s.Fits)(a b:Tm)(ha:a.Fin)(hb:b.Fin):bJ Tryz.prog 22 [s.d,a.d,b.d] (.ret [.sl ((o7 s a b).1.map TB.d), .i (o7 s a b).2]):=by
 refine bJ.aZ mix SI (by simp) ?_
 rw[Xw]
 simp+contextual (disch:=first|omega|simp only[go_sem,false_implies]) only[go_sem,wrap64,if_pos,and_self]
 refine aw (A7 s hs [a,b] (by simp) (fun t ht=>by simp at ht;rcases ht with rfl|rfl<;>assumption)) rfl ?_
 unfold o7
 cases h1:cX s [a,b]with
 |false=>
  simp+contextual (disch:=first|omega|simp only[go_sem,false_implies]) only[go_sem,wrap64,if_pos,and_self]
 |true=>
  obtain⟨⟨va,vb⟩,ta,tb⟩:=I3 h1
  obtain⟨e1,e2⟩:=Es a b [] [] va vb ⟨List.nodup_nil,fun _=>rfl⟩ ⟨List.Pairwise.nil,fun _ h=>(by cases h)⟩
  have aM:=yJ (P:=fun t=>Vs s t/\t.sz<=1000) (fun t k h hk=>⟨h.1.mC hk,by have:=Tm.gQ hk;omega⟩) a b [] ⟨vb,by have:=(cz tb).2.1;omega⟩ (fun _ h=>by cases h)
  simp+contextual (disch:=first|omega|simp only[go_sem,false_implies]) only[go_sem,wrap64,if_pos,and_self]
  refine bK (Lh a ha.fits b hb.fits [] (fun _ h=>by cases h) _ _ 11 ?_ ?_ _ _ fun o' nx' g1 g2 g3 g4=> ?_)
  ·exact(by repeat(first|exact hg.mono (by omega)|exact Good.nil|refine Good.ak ?_ (by omega) rfl|refine Good.ak ?_ (by omega) (bV _ _ _ (by omega))|refine Good.ak ?_ (by omega) (by simp[ae.refs,V.ag,V.refs]<;>omega)))
  ·(repeat(first|rfl|rw[aa]|rw[ad _ _ _ _ (by omega)]))
  rw[e1]
  cases h2:(de a b []).2 with
  |false=>
   simp+contextual (disch:=first|omega|simp only[go_sem,false_implies]) only[go_sem,wrap64,if_pos,and_self]
  |true=>
   obtain⟨m1,m2⟩:=e2 h2
   have hl:=I2 (s:=s) (b:=(nA a b []).1) aM
   rw[Bz m1.lk m2]at hl
   simp+contextual (disch:=first|omega|simp only[go_sem,false_implies]) only[go_sem,wrap64,if_pos,g4]
   refine aU hl ?_
   simp+contextual (disch:=first|omega|simp only[go_sem,false_implies]) only[go_sem,wrap64,if_pos,and_self]
end Go.Proofs.YtealblliddhgiaaGreat
namespace Go.Proofs.YtealblliddhgiaaGreat
end Go.Proofs.YtealblliddhgiaaGreat
namespace Go.Proofs.YtealblliddhgiaaGreat
theorem yO(v:Int):(Tm.mk 1 v []).ow:=by rw[Tm.jk];simp[Tm.kids]
theorem Ez{l:List TB}(h:∀x∈l,x.term.ow):∀p∈aj l,p.2.ow:=fun p hp=>by
 obtain⟨x,hx,rfl⟩:=List.mem_map.1 hp
 exact h x hx
theorem uX{l:List TB}{n:Int}{t:Tm}(hl:∀x∈l,x.term.ow)(ht:t.ow):∀x∈gX l n t,x.term.ow:=fun x hx=>by
 rcases qd.1 hx with rfl|hx
 ·exact ht
 ·obtain⟨y,hy,rfl⟩:=List.mem_map.1 hx
  exact Tm.Da (fun p hp=>by simp[vE]at hp;subst hp;exact ht) _ (hl y hy)
theorem EA:∀ (f:Nat) (a c:Tm) (l:List TB) (r:List TB×Bool),gu f a c l=some r->a.ow->c.ow->(∀x∈l,x.term.ow)->∀x∈r.1,x.term.ow
 |0,_,_,_,_,h,_,_,_=>by cases h
 |f+1,a,c,l,r,h,ha,hc,hl=>by
  have fa:=Tm.Da (Ez hl) a ha
  have fc:=Tm.Da (Ez hl) c hc
  simp only[gu]at h
  generalize aY (aj l) a=a0 at*
  generalize aY (aj l) c=c0 at*
  split at h
  ·injection h with h;subst h;exact hl
  ·split at h
   ·injection h with h;subst h;exact uX hl (yO _)
   ·split at h
    ·injection h with h;subst h;exact uX hl fc
    ·split at h
     ·injection h with h;subst h;exact uX hl fa
     ·split at h
      ·injection h with h;subst h;intro x hx;cases hx
      ·have key:∀ (ks cl:List Tm) (l:List TB),(∀k∈ks,k.ow)->(∀k∈cl,k.ow)->(∀x∈l,x.term.ow)->cV (gu f) ks cl l=some r->∀x∈r.1,x.term.ow:=by
        intro ks
        induction ks with
        |nil=>intro cl l _ _ hl h;simp only[cV]at h;injection h with h;subst h;exact hl
        |cons k ks pc=>
         intro cl l m1 m2 hl h
         cases cl with
         |nil=>simp only[cV]at h;injection h with h;subst h;exact hl
         |cons k' cl=>
          simp only[cV]at h
          cases e:gu f k k' l with
          |none=>rw[e]at h;cases h
          |some r1=>
           have h1:=EA f k k' l r1 e (m1 k (by simp)) (m2 k' (by simp)) hl
           obtain⟨l1,ok⟩:=r1
           rw[e]at h
           cases ok with
           |false=>simp only at h;injection h with h;subst h;exact h1
           |true=>exact pc cl l1 (fun y hy=>m1 y (by simp[hy])) (fun y hy=>m2 y (by simp[hy])) h1 h
       exact key _ _ l ((Tm.jk _).1 fa).2 ((Tm.jk _).1 fc).2 hl h
end Go.Proofs.YtealblliddhgiaaGreat
namespace Go.Proofs.YtealblliddhgiaaGreat
theorem yP(g:Int->Tm)(v:Int):∀l:List (Int×Tm),bz (l.map fun p=>(p.1,g p.1)) v=if v∈l.map (·.1)then some (g v)else none
 |[]=>by simp[bz]
 |p::l=>by
  simp only[List.map_cons,bz,yP g v l]
  by_cases e:p.1=v
  ·subst e;simp
  ·rw[if_neg e]
   have:(v∈p.1::l.map (·.1))↔v∈l.map (·.1):=by simp;exact fun h=>absurd h.symm e
   simp only[this]
theorem EB:∀ {l:List TB} {x:TB},l.Pairwise (fun x y=>x.var<y.var)->x∈l->bz (aj l) x.var=some x.term
 |[],_,_,h=>by cases h
 |y::l,x,hs,h=>by
  rw[List.pairwise_cons]at hs
  simp only[aj,List.map_cons,bz]
  rcases List.mem_cons.1 h with rfl|h
  ·rw[if_pos rfl]
  ·have:=hs.1 x h
   rw[if_neg (by omega)]
   exact EB hs.2 h
def iD(s:aO)(a b:Tm)(r:List TB×Bool):List TB×Int:=if cX s [a,b]=true then(if r.2=true then(if r.1.all (fun x=>bL s x.term)=true then(r.1,0)else([],3))else([],5))else([],2)
theorem Lm(s:aO)(hs:s.Fits)(a b:Tm)(ha:a.Fin)(hb:b.Fin){f:Nat}{r:List TB×Bool}(h:cX s [a,b]=true->gu f a b []=some r):bJ Tryz.prog 23 [s.d,a.d,b.d] (.ret [.sl ((iD s a b r).1.map TB.d), .i (iD s a b r).2]):=by
 refine bJ.aZ mix SJ (by simp) ?_
 rw[Xx]
 simp+contextual (disch:=first|omega|simp only[go_sem,false_implies]) only[go_sem,wrap64,if_pos,and_self]
 refine aw (A7 s hs [a,b] (by simp) (fun t ht=>by simp at ht;rcases ht with rfl|rfl<;>assumption)) rfl ?_
 unfold iD
 cases h1:cX s [a,b]with
 |false=>
  simp+contextual (disch:=first|omega|simp only[go_sem,false_implies]) only[go_sem,wrap64,if_pos,and_self]
 |true=>
  obtain⟨⟨va,vb⟩,ta,tb⟩:=I3 h1
  obtain⟨g,b1,e1,e2⟩:=IF f a b [] r (h h1) j5.nil va vb a b [] _ _ vF.nil va vb rfl rfl
  have wa:=cz ta
  have wb:=cz tb
  have Ln:∀t:Tm,bL s t=true->o6 t/\t.ow:=fun t ht=>by
   have:=cz ht
   exact⟨⟨Tm.uW t (Tm.yN t (by omega)),this.1⟩,Tm.yN t (by omega)⟩
  simp+contextual (disch:=first|omega|simp only[go_sem,false_implies]) only[go_sem,wrap64,if_pos,and_self]
  refine bK (F6 (Ln a ta).1 (Ln b tb).1 e1 _ _ ?_ _ _ (fun bA o1 n1 mid g0 g1 g2 g3 g4=> ?_) (fun vj o1 n1 g1 g2 g3=> ?_))
  ·exact(by repeat(first|exact hg.mono (by omega)|exact Good.nil|refine Good.ak ?_ (by omega) rfl|refine Good.ak ?_ (by omega) (bV _ _ _ (by omega))|refine Good.ak ?_ (by omega) (by simp[ae.refs,V.ag,V.refs]<;>omega)))
  ·rw[if_pos (rfl:true=true),if_pos bA]
   obtain⟨ρ,R,pJ⟩:=e2 bA
   have qh:j5 s r.1:=(ny f a b [] r.1 (by rw[<- bA];exact h h1) j5.nil va vb).1
   have PZ:mid<n1:=g2.lt (by rw[g4];exact ae.noConfusion)
   have sE:=yK (P:=fun t=>o6 t/\t.ow) (fun t k ht hk=>⟨o6.mC t k ht.1 hk,((Tm.jk t).1 ht.2).2 k hk⟩) (fun v=>⟨o6.var v,yO v⟩) g a b [] _ (Ln a ta) (Ln b tb) (fun _ h=>by cases h) e1
   have y1:∀k,mid≠n1+k:=fun k=>by omega
   have y2:mid≠n1:=by omega
   simp+contextual (disch:=first|omega|simp only[go_sem,false_implies]) only[go_sem,wrap64,if_pos,g4,y1,y2,Nat.add_assoc,Nat.left_eq_add,Nat.add_eq_left,Nat.add_left_cancel_iff]
   have hg:=g2
   refine aW (fun i:List (Int×Tm)×List (Int×Tm)×Option (D×D)=>⟨bw [.ab, .ab, .ab, .ab, .ab, .ab, .ab, .ab, .mp mid, .ab, .mp (n1+7), .ab, .ab, .ab, .ab, .ab, .ab, .ab, .ab, .ab, .ab, .ab, .ab, .ab, .ab, .ab, .ab, .ab, .ab, .ab, .ab, .ptr (n1+10) 0],ak (ak (ak o1 mid (IY b1)) (n1+7) (cI (i.2.1.map fun p=>(p.1,Lv (aj r.1) p.1)))) (n1+10) (.kW (enc (D.int .i64) (sP i.1)) i.2.2),n1+11⟩)
    (fun i=>(i.2.1++i.1).Perm b1/\∀p∈i.2.1,bL s (Lv (aj r.1) p.1)=true) (fun i=>i.1.length) (b1,[],none) ⟨by simp,fun _ h=>by cases h⟩ ?_ ?_
   ·dsimp only
    refine bW.bE _ (by omega) (by omega) (by repeat(first|exact hg.mono (by omega)|exact Good.nil|refine Good.ak ?_ (by omega) rfl|refine Good.ak ?_ (by omega) (bV _ _ _ (by omega))|refine Good.ak ?_ (by omega) (by simp[ae.refs,V.ag,V.refs]<;>omega))) (fun j hj=> ?_) ?_
    ·by_cases e1:j=n1+10
     ·subst e1;(repeat(first|rfl|rw[aa]|rw[ad _ _ _ _ (by omega)]))
     ·by_cases e2:j=n1+7
      ·subst e2;rw[ad _ _ _ _ e1,ad _ _ _ _ e1,ad _ _ _ _ (by omega),aa,aa];rfl
      ·by_cases e3:j=mid
       ·subst e3;(repeat(first|rfl|rw[aa]|rw[ad _ _ _ _ (by omega)]))
       ·(repeat(first|rfl|rw[aa]|rw[ad _ _ _ _ (by omega)]))
    ·(repeat(first|exact aq|refine ai ?_|refine ah rfl ?_|refine ah (aQ (aP (by omega))) ?_|refine aA rfl (by simp[V.refs,V.ag]<;>first|omega|assumption) ?_))
   rintro⟨rest,gV,last⟩ ⟨hp,hd⟩
   simp only at hp hd
   simp+contextual (disch:=first|omega|simp only[go_sem,false_implies]) only[go_sem,wrap64,if_pos,y1,y2,Nat.add_assoc,Nat.left_eq_add,Nat.add_eq_left,Nat.add_left_cancel_iff]
   refine rb (fun hr=> ?_) fun i k x hm=> ?_
   ·subst hr
    have GV:gV.Perm b1:=by simpa using hp
    have mz:∀v,v∈gV.map (·.1)↔bz (aj r.1) v≠none:=fun v=>by
     rw[(GV.map (·.1)).mem_iff,ne_eq, <- pJ.C7 v,gO,Classical.not_not]
    have aM:(r.1.all fun x=>bL s x.term)=true:=by
     rw[List.all_eq_true]
     intro x hx
     have e:=EB qh.ID hx
     have h5:=(mz x.var).2 (by rw[e];exact fun h=>by cases h)
     obtain⟨p,h6,h7⟩:=List.mem_map.1 h5
     have h8:=hd p h6
     rw[h7,Lv,e]at h8
     exact h8
    have hl:=I2 (s:=s) (b:=gV.map fun p=>(p.1,Lv (aj r.1) p.1)) (fun p hp=>by
     obtain⟨q,h5,rfl⟩:=List.mem_map.1 hp
     have h6:=hd q h5
     have h7:=(cz h6).2.1
     have h8:=qh.C7 ((mz q.1).1 (List.mem_map.2 ⟨q,h5,rfl⟩))
     exact⟨Vs.Lv qh.bd h8,by show(Lv (aj r.1) q.1).sz<=1000;omega⟩)
    rw[Bz (l:=r.1) (fun v=>by
     rw[yP]
     by_cases h5:v∈gV.map (·.1)
     ·rw[if_pos h5]
      have h6:=(mz v).1 h5
      cases e:bz (aj r.1) v with
      |none=>exact absurd e h6
      |some y=>rw[Lv,e]
     ·rw[if_neg h5]
      exact(Classical.byContradiction fun h6=>h5 ((mz v).2 fun e=>h6 e.symm))) qh.IG]at hl
    simp+contextual (disch:=first|omega|simp only[go_sem,false_implies]) only[go_sem,wrap64,if_pos,Nat.add_assoc,Nat.left_eq_add,Nat.add_eq_left,Nat.add_left_cancel_iff,aM]
    refine aU hl ?_
    simp+contextual (disch:=first|omega|simp only[go_sem,false_implies]) only[go_sem,wrap64,if_pos,and_self]
   ·have BT:(gV++[(k,x)]++rest.eraseIdx i).Perm b1:=by
     rw[List.append_assoc]
     exact(List.Perm.append_left _ (mi hm)).trans hp
    have Ns:(k,x)∈b1:=BT.mem_iff.1 (by simp)
    have V3:bz (aj r.1) k≠none:=fun e=>(gO.1 ((pJ.C7 k).2 e)) (List.mem_map.2 ⟨(k,x),Ns,rfl⟩)
    have QW:=qh.C7 V3
    obtain⟨y,hy⟩:∃y,bz (aj r.1) k=some y:=by
     cases e:bz (aj r.1) k with
     |none=>exact absurd e V3
     |some y=>exact⟨y,rfl⟩
    have V7:Lv (aj r.1) k=y:=by rw[Lv,hy]
    have hvy:Vs s y:=by rw[<- V7];exact Vs.Lv qh.bd QW
    have PD:bz (gV.map fun p=>(p.1,Lv (aj r.1) p.1)) k=none:=by
     rw[yP,if_neg]
     intro h4
     have h5:=(BT.map (·.1)).nodup_iff.2 pJ.keys
     rw[List.map_append,List.map_append,List.nodup_append,List.nodup_append]at h5
     exact h5.1.2.2 k h4 k (by simp) rfl
    have hlen:(rest.eraseIdx i).length<rest.length:=by
     obtain⟨hi,_⟩:=List.getElem?_eq_some_iff.1 hm
     rw[List.length_eraseIdx];simp[hi];omega
    obtain⟨f2,l1,hw,_⟩:=PI pJ _ (.mk 1 k []) (Vs.var QW) (Nat.le_refl _) 40 12 (by omega)
    rw[iC,V7]at hw
    simp+contextual (disch:=first|omega|simp only[go_sem,false_implies]) only[go_sem,wrap64,if_pos,Nat.add_assoc,Nat.left_eq_add,Nat.add_eq_left,Nat.add_left_cancel_iff,y1,y2]
    refine aU (nq k) ?_
    simp+contextual (disch:=first|omega|simp only[go_sem,false_implies]) only[go_sem,wrap64,if_pos,Nat.add_assoc,Nat.left_eq_add,Nat.add_eq_left,Nat.add_left_cancel_iff,y1,y2]
    refine dy (Ey sE f2 (.mk 1 k []) 40 12 _ ⟨o6.var k,yO k⟩ hw (by omega) (by omega) _ _ mid (n1+16) ?_ ?_ ?_ _ _ ?_)
    ·exact(by repeat(first|exact hg.mono (by omega)|exact Good.nil|refine Good.ak ?_ (by omega) rfl|refine Good.ak ?_ (by omega) (bV _ _ _ (by omega))|refine Good.ak ?_ (by omega) (by simp[ae.refs,V.ag,V.refs]<;>omega)))
    ·(repeat(first|rfl|rw[aa]|rw[ad _ _ _ _ (by omega)]))
     exact .inr rfl
    ·(repeat(first|rfl|rw[aa]|rw[ad _ _ _ _ (by omega)]))
    intro o3 n3 w1 w2 w3 w4
    by_cases h5:(y.sz:Int)<=40/\(y.ck:Int)<=12
    ·simp only[if_pos h5]
     intro c hc rL
     have UJ:c<n3:=w2.lt (by rw[rL];exact ae.noConfusion)
     have u7:o3 (n1+7)=cI (gV.map fun p=>(p.1,Lv (aj r.1) p.1)):=by rw[w3 _ (by omega) (by omega)];(repeat(first|rfl|rw[aa]|rw[ad _ _ _ _ (by omega)]))
     have u10:o3 (n1+10)= .kW (enc (D.int .i64) (sP (rest.eraseIdx i))) (some (.int .i64 k,x.d)):=by rw[w3 _ (by omega) (by omega)];(repeat(first|rfl|rw[aa]|rw[ad _ _ _ _ (by omega)]))
     have v1:∀k,c≠n3+k:=fun k=>by omega
     have v2:∀k,n1+7≠n3+k:=fun k=>by omega
     have v3:∀k,n1+10≠n3+k:=fun k=>by omega
     have v4:n1+7≠c:=by omega
     have v5:c≠n1+7:=by omega
     have ty:bL s y=true:=by
      simp only[bL,Bool.and_eq_true,decide_eq_true_eq,jS]
      exact⟨h5,hvy.1⟩
     have v6:(c !=n1+7)=true:=by simp;omega
     simp+contextual (disch:=first|omega|simp only[go_sem,false_implies]) only[go_sem,wrap64,if_pos,Nat.add_assoc,Nat.left_eq_add,Nat.add_eq_left,Nat.add_left_cancel_iff,u7,rL,v1,v2,v3,v4,v5,v6,iS PD]
     refine aB (rest.eraseIdx i,gV++[(k,x)],some (.int .i64 k,x.d)) ⟨BT,fun p hp=> ?_⟩ hlen (bW.bE _ (by omega) (by omega) ?_ (fun j hj=> ?_) ?_)
     ·rcases List.mem_append.1 hp with hp|hp
      ·exact hd p hp
      ·simp at hp;subst hp;rw[V7];exact ty
     ·exact(by repeat(first|exact hg.mono (by omega)|exact Good.nil|refine Good.ak ?_ (by omega) rfl|refine Good.ak ?_ (by omega) (bV _ _ _ (by omega))|refine Good.ak ?_ (by omega) (by simp[ae.refs,V.ag,V.refs]<;>omega)))
     ·dsimp only
      by_cases e1:j=n1+10
      ·subst e1;(repeat(first|rfl|rw[aa]|rw[ad _ _ _ _ (by omega)]));exact u10
      ·by_cases e2:j=n1+7
       ·subst e2;(repeat(first|rfl|rw[aa]|rw[ad _ _ _ _ (by omega)]));rw[List.map_append,List.map_cons,List.map_nil,V7]
       ·by_cases e3:j=mid
        ·subst e3;(repeat(first|rfl|rw[aa]|rw[ad _ _ _ _ (by omega)]));rw[w3 _ (by omega) (by omega)];(repeat(first|rfl|rw[aa]|rw[ad _ _ _ _ (by omega)]))
        ·(repeat(first|rfl|rw[aa]|rw[ad _ _ _ _ (by omega)]));rw[w3 _ (by omega) (by omega)];(repeat(first|rfl|rw[aa]|rw[ad _ _ _ _ (by omega)]))
     ·(repeat(first|exact aq|refine ai ?_|refine ah rfl ?_|refine ah (aQ (aP (by omega))) ?_|refine aA rfl (by simp[V.refs,V.ag]<;>first|omega|assumption) ?_))
    ·simp only[if_neg h5]
     have aM:(r.1.all fun x=>bL s x.term)=false:=by
      rw[List.all_eq_false]
      obtain⟨z,hz,_,e⟩:=gq hy
      refine⟨z,hz,fun h6=>h5 ?_⟩
      rw[e]at h6
      have:=cz h6
      omega
     simp+contextual (disch:=first|omega|simp only[go_sem,false_implies]) only[go_sem,wrap64,if_pos,Nat.add_assoc,Nat.left_eq_add,Nat.add_eq_left,Nat.add_left_cancel_iff,y1,y2,aM]
  ·rw[if_pos (rfl:true=true),if_neg (show ¬r.2=true by rw[vj];exact Bool.false_ne_true)]
   simp+contextual (disch:=first|omega|simp only[go_sem,false_implies]) only[go_sem,wrap64,if_pos,and_self]
end Go.Proofs.YtealblliddhgiaaGreat
namespace Go.Proofs.YtealblliddhgiaaGreat
end Go.Proofs.YtealblliddhgiaaGreat
namespace Go.Proofs.YtealblliddhgiaaGreat
end Go.Proofs.YtealblliddhgiaaGreat
namespace Go.Proofs.YtealblliddhgiaaGreat
end Go.Proofs.YtealblliddhgiaaGreat
namespace Go.Proofs.YtealblliddhgiaaGreat
def jl(l:List TB):Bool:=decide ((l.length:Int)<=25)&&l.all fun x=>iZ x.term
theorem mn(l:List TB)(hl:l.length<=9223372036854775807)(hx:∀x∈l,x.term.fits):bJ Tryz.prog 12 [.sl (l.map TB.d)] (.ret [.bool (jl l)]):=by
 refine bJ.aZ mix SB (by simp) ?_
 rw[Xm]
 simp+contextual (disch:=first|omega|simp only[go_sem,false_implies]) only[go_sem,wrap64,if_pos,and_self]
 refine aW (fun k:Nat=>⟨bw [.d (.sl (l.map TB.d)), .ab, .ab, .d (.i k)],fun _=> .no,0⟩)
  (fun k=>k<=l.length/\k<=26/\∀j x,j<k->l[j]? =some x->iZ x.term=true) (fun k=>l.length - k) 0 ⟨Nat.zero_le _,by omega,fun _ _ h=>absurd h (by omega)⟩ (bW.d0 _ ?_) (fun k hk=> ?_)
 ·(repeat(first|exact aq|refine ai ?_|refine ah rfl ?_|refine ah (aQ (aP (by omega))) ?_|refine aA rfl (by simp[V.refs,V.ag]<;>first|omega|assumption) ?_))
 obtain⟨k1,k2,k3⟩:=hk
 have fin: ¬ (k<l.length/\k<=25)->jl l=decide ((l.length:Int)<=25):=by
  intro h
  unfold jl
  by_cases h5:(l.length:Int)<=25
  ·have:(l.all fun x=>iZ x.term)=true:=by
    rw[List.all_eq_true]
    intro x hx
    obtain⟨j,hj,e⟩:=List.getElem_of_mem hx
    exact k3 j x (by omega) (by rw[List.getElem?_eq_getElem hj,e])
   rw[this,Bool.and_true]
  ·rw[decide_eq_false h5];rfl
 by_cases h2:k<l.length
 ·have u6:decide ((k:Int)<(l.length:Int))=true:=by simpa using h2
  by_cases h3:k<=25
  ·have vY:decide ((k:Int)<=25)=true:=by simp;omega
   obtain⟨x,yQ⟩:=aX h2
   have kx:=List.mem_of_getElem? yQ
   simp+contextual (disch:=first|omega|simp only[go_sem,false_implies]) only[go_sem,wrap64,if_pos,List.length_map,u6,vY,yQ]
   refine aw (ky x.term (hx x kx)) rfl ?_
   cases h4:iZ x.term with
   |false=>
    have:jl l=false:=by
     unfold jl
     have:(l.all fun x=>iZ x.term)=false:=by
      rw[Bool.eq_false_iff];intro h;rw[List.all_eq_true]at h;have:=h x kx;rw[h4]at this;cases this
     rw[this,Bool.and_false]
    rw[this]
    simp+contextual (disch:=first|omega|simp only[go_sem,false_implies]) only[go_sem,wrap64,if_pos,and_self]
   |true=>
    simp+contextual (disch:=first|omega|simp only[go_sem,false_implies]) only[go_sem,wrap64,if_pos,and_self]
    refine aB (k+1) ⟨h2,by omega,fun j y hj hy=> ?_⟩ (by omega) (bW.d0 _ ?_)
    ·by_cases e:j=k
     ·subst e;rw[yQ]at hy;injection hy with hy;rw[<- hy];exact h4
     ·exact k3 j y (by omega) hy
    ·(repeat(first|exact aq|refine ai ?_|refine ah rfl ?_|refine ah (aQ (aP (by omega))) ?_|refine aA rfl (by simp[V.refs,V.ag]<;>first|omega|assumption) ?_))
  ·have vY:decide ((k:Int)<=25)=false:=by simp;omega
   rw[fin (by omega)]
   simp+contextual (disch:=first|omega|simp only[go_sem,false_implies]) only[go_sem,wrap64,if_pos,List.length_map,u6,vY]
 ·have u6:decide ((k:Int)<(l.length:Int))=false:=by simp;omega
  rw[fin (by omega)]
  simp+contextual (disch:=first|omega|simp only[go_sem,false_implies]) only[go_sem,wrap64,if_pos,List.length_map,u6]
def je(l:List TB):Nat->Int
 |0=> -1
 |k+1=>match l[k]? with|some y=>y.var|none=> -1
theorem yR(s:aO)(hs:s.Fits)(l:List TB)(hl:l.length<=9223372036854775807)(hx:∀x∈l,x.term.fits):bJ Tryz.prog 16 [s.d, .sl (l.map TB.d)] (.ret [.bool (dh s l)]):=by
 refine bJ.aZ mix SE (by simp) ?_
 rw[Xq]
 by_cases h0:(20:Int)<l.length
 ·have Nr:decide ((20:Int)<l.length)=true:=by simpa using h0
  have:dh s l=false:=by unfold dh;rw[decide_eq_false (by omega)];rfl
  rw[this]
  simp+contextual (disch:=first|omega|simp only[go_sem,false_implies]) only[go_sem,wrap64,if_pos,List.length_map,Nr]
 ·have Nr:decide ((20:Int)<l.length)=false:=by simpa using h0
  have hL:dh s l=(aL (gW s) (-1) l).2:=by unfold dh;rw[decide_eq_true (by omega)];rfl
  rw[hL]
  simp+contextual (disch:=first|omega|simp only[go_sem,false_implies]) only[go_sem,wrap64,if_pos,List.length_map,Nr]
  refine aW (fun k:Nat=>⟨bw [.ab, .d (.sl (l.map TB.d)), .ptr 0 0, .ab, .ab, .d (.i k)],nk s.row,1⟩)
   (fun k=>k<=l.length/\(aL (gW s) (-1) l).2=(aL (gW s) (je l k) (l.drop k)).2/\ -1<=je l k/\(0<k->0<=je l k)) (fun k=>l.length - k) 0 ⟨Nat.zero_le _,rfl,by simp[je],fun h=>absurd h (by omega)⟩ (bW.d1 _ (bN rfl) (by omega) rfl ?_) (fun k hk=> ?_)
  ·(repeat(first|exact aq|refine ai ?_|refine ah rfl ?_|refine ah (aQ (aP (by omega))) ?_|refine aA rfl (by simp[V.refs,V.ag]<;>first|omega|assumption) ?_))
  obtain⟨k1,k2,k3,k4⟩:=hk
  simp+contextual (disch:=first|omega|simp only[go_sem,false_implies]) only[go_sem,wrap64,if_pos,List.length_map]
  refine ay (fun h2=> ?_) (fun h2=> ?_)
  ·simp at h2
   obtain⟨x,yQ⟩:=aX h2
   have kx:=List.mem_of_getElem? yQ
   have Px:l.drop k=x::l.drop (k+1):=by
    obtain⟨h5,h6⟩:=List.getElem?_eq_some_iff.1 yQ
    rw[List.drop_eq_getElem_cons h5,h6]
   have qE:je l (k+1)=x.var:=by simp only[je,yQ]
   have M5:(aL (gW s) (-1) l).2=if(decide (je l k<x.var)&&decide (x.var<20)&&bL s x.term)=true then(aL (gW s) (je l (k+1)) (l.drop (k+1))).2 else false:=by
    rw[k2,Px,qE]
    simp only[aL,gW,iz]
    split<;>rfl
   have M6:=HX s hs x.term (hx x kx)
   have bad:(decide (je l k<x.var)&&decide (x.var<20)&&bL s x.term)=false->(aL (gW s) (-1) l).2=false:=fun h=>by rw[M5,h];rfl
   have next:(decide (je l k<x.var)&&decide (x.var<20)&&bL s x.term)=true->k+1<=l.length/\(aL (gW s) (-1) l).2=(aL (gW s) (je l (k+1)) (l.drop (k+1))).2/\ -1<=je l (k+1)/\(0<k+1->0<=je l (k+1)):=fun h=>by
    refine⟨h2,by rw[M5,if_pos h], ?_⟩
    rw[qE]
    simp only[Bool.and_eq_true,decide_eq_true_eq]at h
    omega
   cases hi:eX x.var 0 19 with
   |false=>
    have Nq: ¬ (0<=x.var/\x.var<=19):=by simpa[eX]using hi
    rw[bad (by rw[Bool.and_eq_false_iff,Bool.and_eq_false_iff,decide_eq_false_iff_not,decide_eq_false_iff_not];left;omega)]
    simp+contextual (disch:=first|omega|simp only[go_sem,false_implies]) only[go_sem,wrap64,if_pos,List.length_map,yQ]
    refine bZ (qP x.var 0 19) rfl ?_
    rw[hi]
    simp+contextual (disch:=first|omega|simp only[go_sem,false_implies]) only[go_sem,wrap64,if_pos,List.length_map,yQ]
    refine aR (by decide) ?_
    simp+contextual (disch:=first|omega|simp only[go_sem,false_implies]) only[go_sem,wrap64,if_pos,and_self]
   |true=>
    have Nq:0<=x.var/\x.var<=19:=by simpa[eX]using hi
    rcases Nat.eq_zero_or_pos k with h5|h5
    ·subst h5
     have Q5:je l 0= -1:=rfl
     simp+contextual (disch:=first|omega|simp only[go_sem,false_implies]) only[go_sem,wrap64,if_pos,List.length_map,yQ]
     refine bZ (qP x.var 0 19) rfl ?_
     rw[hi]
     simp+contextual (disch:=first|omega|simp only[go_sem,false_implies]) only[go_sem,wrap64,if_pos,List.length_map,yQ]
     refine bZ M6 rfl ?_
     cases ht:bL s x.term with
     |false=>
      rw[bad (by rw[ht,Bool.and_false])]
      simp+contextual (disch:=first|omega|simp only[go_sem,false_implies]) only[go_sem,wrap64,if_pos,List.length_map,yQ]
      refine aR (by decide) ?_
      simp+contextual (disch:=first|omega|simp only[go_sem,false_implies]) only[go_sem,wrap64,if_pos,and_self]
     |true=>
      simp+contextual (disch:=first|omega|simp only[go_sem,false_implies]) only[go_sem,wrap64,if_pos,List.length_map,yQ]
      refine aR (by decide) ?_
      simp+contextual (disch:=first|omega|simp only[go_sem,false_implies]) only[go_sem,wrap64,if_pos,and_self]
      refine aB (0+1) (next (by rw[ht,Bool.and_true,Bool.and_eq_true,decide_eq_true_eq,decide_eq_true_eq];omega)) (by omega) (bW.d1 _ (bN rfl) (by omega) rfl ?_)
      (repeat(first|exact aq|refine ai ?_|refine ah rfl ?_|refine ah (aQ (aP (by omega))) ?_|refine aA rfl (by simp[V.refs,V.ag]<;>first|omega|assumption) ?_))
    ·obtain⟨j,rfl⟩:∃j,k=j+1:=⟨k - 1,by omega⟩
     obtain⟨y,hy⟩:=aX (show j<l.length by omega)
     have hpy:je l (j+1)=y.var:=by simp only[je,hy]
     have M7:((j+1:Nat):Int) - 1=(j:Int):=by omega
     have ff:decide (((j+1:Nat):Int)>0)=true:=by rw[decide_eq_true_eq];omega
     have M8:decide ((0:Int)<((j+1:Nat):Int))=true:=by rw[decide_eq_true_eq];omega
     cases DD:decide (x.var<=y.var)with
     |true=>
      have Zp:x.var<=y.var:=by simpa using DD
      rw[bad (by rw[Bool.and_eq_false_iff,Bool.and_eq_false_iff,decide_eq_false_iff_not,decide_eq_false_iff_not];left;omega)]
      simp+contextual (disch:=first|omega|simp only[go_sem,false_implies]) only[go_sem,wrap64,if_pos,List.length_map,yQ]
      refine bZ (qP x.var 0 19) rfl ?_
      rw[hi]
      simp+contextual (disch:=first|omega|simp only[go_sem,false_implies]) only[go_sem,wrap64,if_pos,List.length_map,yQ,ff,M8,M7,hy,DD]
      refine aR (by decide) ?_
      simp+contextual (disch:=first|omega|simp only[go_sem,false_implies]) only[go_sem,wrap64,if_pos,and_self]
     |false=>
      have Zp: ¬x.var<=y.var:=by simpa using DD
      simp+contextual (disch:=first|omega|simp only[go_sem,false_implies]) only[go_sem,wrap64,if_pos,List.length_map,yQ]
      refine bZ (qP x.var 0 19) rfl ?_
      rw[hi]
      simp+contextual (disch:=first|omega|simp only[go_sem,false_implies]) only[go_sem,wrap64,if_pos,List.length_map,yQ,ff,M8,M7,hy,DD]
      refine bZ M6 rfl ?_
      cases ht:bL s x.term with
      |false=>
       rw[bad (by rw[ht,Bool.and_false])]
       simp+contextual (disch:=first|omega|simp only[go_sem,false_implies]) only[go_sem,wrap64,if_pos,List.length_map,yQ]
       refine aR (by decide) ?_
       simp+contextual (disch:=first|omega|simp only[go_sem,false_implies]) only[go_sem,wrap64,if_pos,and_self]
      |true=>
       simp+contextual (disch:=first|omega|simp only[go_sem,false_implies]) only[go_sem,wrap64,if_pos,List.length_map,yQ]
       refine aR (by decide) ?_
       simp+contextual (disch:=first|omega|simp only[go_sem,false_implies]) only[go_sem,wrap64,if_pos,and_self]
       refine aB (j+1+1) (next (by rw[ht,Bool.and_true,Bool.and_eq_true,decide_eq_true_eq,decide_eq_true_eq];omega)) (by omega) (bW.d1 _ (bN rfl) (by omega) rfl ?_)
       (repeat(first|exact aq|refine ai ?_|refine ah rfl ?_|refine ah (aQ (aP (by omega))) ?_|refine aA rfl (by simp[V.refs,V.ag]<;>first|omega|assumption) ?_))
  ·simp at h2
   rw[k2,List.drop_eq_nil_of_le h2]
   simp+contextual (disch:=first|omega|simp only[go_sem,false_implies]) only[go_sem,wrap64,if_pos,List.length_map]
   rfl
end Go.Proofs.YtealblliddhgiaaGreat
section
namespace Go.Proofs.YtealblliddhgiaaGreat
open Go
def Zq:Nat->Bool:=fun g=> !([81,63,92,98,101,107,117,100,61,72,108,131,132,133,134,135,136,138,139,143,146,147,148,110,64,127,114,113,99]:List Nat).contains g
def Zr:sv Tryz.prog:=sv.of Zq [] (fun _ h=>by cases h)
theorem F7:OO Tryz.prog b9 Zr 5000 13 []=some (.ret [.bool true]):=by kernel_rfl
theorem known:bJ Tryz.prog 13 [] (.ret [.bool true]):=bJ.OP mix O9 F7
end Go.Proofs.YtealblliddhgiaaGreat
end
namespace Go.Proofs.YtealblliddhgiaaGreat
theorem BB{s:aO}{a b:Tm}(h:lD s a b=true):cX s [a,b]=true:=by
 simp only[lD,Bool.and_eq_true]at h
 obtain⟨⟨h1,h2⟩,h3⟩:=h
 have h4:=h1
 simp only[gK,Bool.and_eq_true,List.all_cons,List.all_nil,Bool.and_true]at h4
 simp only[cX,lF,h1,Bool.true_and,List.all_cons,List.all_nil,Bool.and_true,nO h4.2.1,nO h4.2.2,h2,h3]
theorem uY{s:aO}{a b:Tm}(h:lD s a b=true):gK s [a,b]=true/\eE a=true/\eE b=true:=by
 simp only[lD,Bool.and_eq_true]at h;exact⟨h.1.1,h.1.2,h.2⟩
end Go.Proofs.YtealblliddhgiaaGreat
namespace Go.Proofs.YtealblliddhgiaaGreat
theorem lM{x:Tm}(h:x.sz<=40/\x.ck<=12):iZ x=true:=(jT x).2 (by omega)
theorem xe{l:List TB}(h1:l.length<=20)(h2:∀x∈l,x.term.sz<=40/\x.term.ck<=12):jl l=true:=by
 unfold jl
 rw[Bool.and_eq_true,List.all_eq_true]
 exact⟨by simp;omega,fun x hx=>lM (h2 x hx)⟩
theorem Bw.len {s:aO}{l:List TB}(h:Bw s l):l.length<=20:=by
 have h1:∀n∈l.map (fun x=>x.var),0<=n/\n<20:=fun n hn=>by
  obtain⟨x,hx,rfl⟩:=List.mem_map.1 hn
  exact(h.ok x hx).1
 have:=yE h1 (List.pairwise_map.2 h.ID)
 simpa using this
theorem Dc{s:aO}{a b:Tm}(va:Vs s a)(vb:Vs s b)(zb:b.sz<=40/\b.ck<=12)(h:(de a b []).2=true):Bw s (de a b []).1/\∀x∈(de a b []).1,x.term.sz<=40/\x.term.ck<=12:=by
 obtain⟨e1,e2⟩:=Es a b [] [] va vb ⟨List.nodup_nil,fun _=>rfl⟩ ⟨List.Pairwise.nil,fun _ h=>(by cases h)⟩
 obtain⟨m1,m2⟩:=e2 h
 have aM:=yJ (P:=fun t=>t.sz<=40/\t.ck<=12) (fun t k h hk=>⟨by have:=Tm.gQ hk;omega,by have:=Tm.dv hk;omega⟩) a b [] zb (fun _ h=>by cases h)
 refine⟨m2,fun x hx=> ?_⟩
 have e:=EB m2.ID hx
 rw[<- m1.lk]at e
 exact aM _ (fN e)
end Go.Proofs.YtealblliddhgiaaGreat
namespace Go.Proofs.YtealblliddhgiaaGreat
theorem I4{s:aO}:∀ (t v:Tm) (l:List TB),Vs s t->Vs s v->Bw s l->(de t v l).2=true->
 Bw s (de t v l).1/\(∀u x,bz (aj l) u=some x->bz (aj (de t v l).1) u=some x)/\aY (aj (de t v l).1) t=v/\∀u,eL u t=true->bz (aj (de t v l).1) u≠none:=by
 refine Tm.eO fun t ih v l ht hv hs=> ?_
 rw[Bv]
 by_cases h1:t.op=1
 ·simp only[if_pos h1]
  have hr:=ht.range ((gk h1).2 rfl)
  cases hl:bz (aj l) t.n with
  |some x=>
   intro h
   refine⟨hs,fun _ _ h=>h, ?_,fun u hu=> ?_⟩
   ·rw[et ht h1,Lv,hl];exact(iA _ _).1 h
   ·rw[<- (gk h1).1 hu];show bz (aj l) t.n≠none;rw[hl];exact fun h=>by cases h
  |none=>
   intro _
   refine⟨hs.ins hl hr hv,fun u x hu=> ?_, ?_,fun u hu=> ?_⟩
   ·rw[uP hl,if_neg (fun e=>by rw[e,hl]at hu;cases hu)];exact hu
   ·rw[et ht h1,Lv,uP hl,if_pos rfl]
   ·rw[<- (gk h1).1 hu,uP hl,if_pos rfl];exact fun h=>by cases h
 ·simp only[if_neg h1]
  split
  ·intro h;cases h
  ·rename_i h2
   have e1:t.op=v.op:=Classical.byContradiction fun e=>h2 (Or.inl e)
   have e2:t.n=v.n:=Classical.byContradiction fun e=>h2 (Or.inr (Or.inl e))
   have e3:t.kids.length=v.kids.length:=Classical.byContradiction fun e=>h2 (Or.inr (Or.inr e))
   have key:∀ (ks cl:List Tm) (l:List TB),(∀k∈ks,k∈t.kids)->(∀k∈cl,Vs s k)->ks.length=cl.length->Bw s l->(ed ks cl l).2=true->
    Bw s (ed ks cl l).1/\(∀u x,bz (aj l) u=some x->bz (aj (ed ks cl l).1) u=some x)/\ks.map (aY (aj (ed ks cl l).1))=cl/\∀k∈ks,∀u,eL u k=true->bz (aj (ed ks cl l).1) u≠none:=by
    intro ks
    induction ks with
    |nil=>
     intro cl l _ _ hlen hs _
     cases cl with
     |nil=>simp only[ed];exact⟨hs,fun _ _ h=>h,rfl,fun _ h=>by cases h⟩
     |cons _ _=>cases hlen
    |cons k ks pc=>
     intro cl l m1 m2 hlen hs
     cases cl with
     |nil=>cases hlen
     |cons k' cl=>
      simp only[ed]
      have hk:=ht.mC (m1 k (by simp))
      by_cases h3:(de k k' l).2=true
      ·simp only[if_pos h3]
       intro h
       obtain⟨g1,g2,g3,g4⟩:=ih k (m1 k (by simp)) k' l hk (m2 k' (by simp)) hs h3
       obtain⟨j1,j2,j3,j4⟩:=pc cl _ (fun y hy=>m1 y (by simp[hy])) (fun y hy=>m2 y (by simp[hy])) (by simpa using hlen) g1 h
       have bY:∀u,eL u k=true->bz (aj (ed ks cl (de k k' l).1).1) u=bz (aj (de k k' l).1) u:=fun u hu=>by
        cases e:bz (aj (de k k' l).1) u with
        |none=>exact absurd e (g4 u hu)
        |some x=>exact j2 u x e
       refine⟨j1,fun u x hu=>j2 u x (g2 u x hu), ?_,fun y hy u hu=> ?_⟩
       ·have e9:aY (aj (ed ks cl (de k k' l).1).1) k=k':=(Br k hk fun u hu=>by rw[Lv,Lv,bY u hu]).trans g3
        rw[List.map_cons,j3,e9]
       ·rcases List.mem_cons.1 hy with rfl|hy
        ·rw[bY u hu];exact g4 u hu
        ·exact j4 y hy u hu
      ·simp only[if_neg h3]
       intro h;cases h
   intro h
   obtain⟨g1,g2,g3,g4⟩:=key t.kids v.kids l (fun _ h=>h) (fun k hk=>hv.mC hk) e3 hs h
   refine⟨g1,g2, ?_,fun u hu=> ?_⟩
   ·rw[jd h1,g3,e1,e2];exact Tm.eta v
   ·obtain⟨k,hk,h5⟩:=(ou ht h1).1 hu
    exact g4 k hk u h5
theorem rm{s:aO}{l:List TB}(hs:Bw s l)(ht:∀x∈l,bL s x.term=true):dh s l=true:=by
 have h1:=hs.len
 unfold dh
 rw[Bool.and_eq_true]
 exact⟨by simp;omega,xb l (-1) (fun x hx=>⟨by have:=(hs.ok x hx).1;omega,(hs.ok x hx).1.2,ht x hx⟩) hs.ID⟩
theorem yS{s:aO}{t:Tm}{l:List TB}(hr:eW s [t]=true)(hl:dh s l=true)(hv:Vs s t):sx s t l=if bL s (aY (aj l) t)=true then(aY (aj l) t,0)else(.mk 0 0 [],3):=by
 simp only[sx,hr,hl,Bool.and_self,if_true,iz,Iz (aj l) t.ck t hv (Nat.le_refl _)]
theorem BC{s:aO}{n:Int}(h:0<=n/\n<20):bL s (.mk 1 n [])=true:=by
 have hv:=Vs.var (s:=s) h
 simp only[bL,Bool.and_eq_true,decide_eq_true_eq,jS]
 refine⟨?_,hv.1⟩
 rw[Tm.Ia,Tm.ec]
 simp[mF,Tm.kids,Tm.dQ]
theorem Lo{s:aO}{l:List TB}(ht:∀x∈l,bL s x.term=true){n:Int}(h:0<=n/\n<20):bL s (Lv (aj l) n)=true:=by
 unfold Lv
 cases e:bz (aj l) n with
 |none=>exact BC h
 |some y=>
  obtain⟨x,hx,_,rfl⟩:=gq e
  exact ht x hx
end Go.Proofs.YtealblliddhgiaaGreat
namespace Go.Proofs.YtealblliddhgiaaGreat
end Go.Proofs.YtealblliddhgiaaGreat
namespace Go.Proofs.YtealblliddhgiaaGreat
end Go.Proofs.YtealblliddhgiaaGreat
