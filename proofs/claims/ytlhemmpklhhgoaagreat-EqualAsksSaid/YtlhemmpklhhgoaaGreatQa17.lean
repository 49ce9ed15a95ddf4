/-
  A PART OF THE PROOF. Conditions: none.
-/
import Derived.Test.YtlhemmpklhhgoaaGreatQa16
set_option linter.unusedSimpArgs false
set_option linter.unusedVariables false
namespace Go.Proofs.YtlhemmpklhhgoaaGreat
theorem Kc{b:List (Int×Tm)}{f:Nat}{t x:Tm}(h:jG f b t=some x):aV Tryz.prog 112 [G6 b,t.d] (.ret [x.d]):=by
 refine aV.aJ mix JC aG ?_
 rw[Mv]
 refine bJ ?_
 refine aF (fun i:Nat×Tm=>⟨bf [.d (G6 b), .ab, .ab, .ptr 0 0, .ptr 1 0],aA (aA (fun _=> .no) 0 (.row i.2.row)) 1 (.row [.d (.i 0), .d (.i 0), .aM]),2⟩)
  (fun i=>jG i.1 b i.2=some x) (fun i=>i.1) (f,t) h ?_ ?_
 ·exact Wm
 rintro⟨f,t⟩ hf
 simp only at hf
 cases f with
 |zero=>cases hf
 |succ f=>
 simp only[jG]at hf
 by_cases h1:t.op=1
 ·have eM:(t.op==1)=true:=by simpa using h1
  rw[if_pos h1]at hf
  cases hl:bL b t.n with
  |none=>
   rw[hl]at hf
   injection hf with hf
   subst hf
   simp+contextual (disch:=first|omega|simp only[go_sem,false_implies]) only[go_sem,wrap64,if_pos,eM,nI,ee hl]
  |some z=>
   rw[hl]at hf
   obtain⟨j,hj⟩:=hO hl
   simp+contextual (disch:=first|omega|simp only[go_sem,false_implies]) only[go_sem,wrap64,if_pos,eM,nI,hj]
   refine aq (f,z) hf pt (bM.bH _ ae ae dt (fun j hj=> ?_) ?_)
   ·have Q5:j<2:=hj
    rcases(show j=0\/j=1 from ae)with rfl|rfl
    ·exact dH
    ·exact dH
   ·exact dU
 ·have eM:(t.op==1)=false:=by simpa using h1
  exact Oa
theorem MZ:∀a:Tm,a.fits->∀b:Tm,b.fits->aV Tryz.prog 108 [a.d,b.d] (.ret [.bool (ir a b)]):=by
 refine Tm.fg fun a ih ha b hb=> ?_
 have Kd:=(Tm.bF _).1 ha
 have wI:=(Tm.bF _).1 hb
 refine aV.aJ mix Po aG ?_
 rw[Sx,qi]
 refine bJ ?_
 refine Bk (au (fun h1=> ?_) (fun h1=> ?_))
 ·rw[h1]
  refine pk h1 ?_
  refine bp (JV a.kids b.kids Kd.1 wI.1 108 (fun x hx y hy=>ih x hx (Kd.2 x hx) y (wI.2 y hy)) _ _ dt _ _ fun o2 n2 m1 m2 m3=> ?_)
  exact Cy h1
 ·rw[h1]
  exact Cy h1
theorem qA{b:List (Int×Tm)}(hb:∀p∈b,p.2.fits):∀ (f:Nat) (t x:Tm),t.fits->jG f b t=some x->x.fits
 |0,_,_,_,h=>by cases h
 |f+1,t,x,ht,h=>by
  simp only[jG]at h
  split at h
  ·split at h
   ·rename_i y hy;exact qA hb f y x (hb _ (cB hy)) h
   ·exact FQ
  ·exact FQ
theorem Fw{F:Tm->Int->Option Int}(hF:∀k m r,0<=m->F k m=some r-> -1<=r/\r<=m):∀ (ks:List Tm) (n r:Int), -1<=n->xH F ks n=some r-> -1<=r/\r<=n
 |[],n,r,hn,h=>by cases h;omega
 |k::ks,n,r,hn,h=>by
  simp only[xH]at h
  split at h
  ·cases h;omega
  ·cases e:F k n with
   |none=>rw[e]at h;cases h
   |some q=>
    rw[e]at h
    have h1:=hF k n q ae e
    have h2:=Fw hF ks q r ae h
    omega
theorem zk{b:List (Int×Tm)}:∀ (f:Nat) (t:Tm) (n:Int) (d:Nat) (r:Int),0<=n->o6 f b t n d=some r-> -1<=r/\r<=n
 |0,_,_,_,_,_,h=>by cases h
 |f+1,t,n,d,r,hn,h=>by
  simp only[o6]at h
  cases ha:jG f b t with
  |none=>rw[ha]at h;cases h
  |some x=>
   rw[ha]at h
   cases d with
   |zero=>cases h;omega
   |succ d=>
    have:=Fw (fun k m r hm h=>zk f k m d r hm h) x.kids (n - 1) r ae h
    omega
theorem DO{b:List (Int×Tm)}:∀ (f:Nat) (t:Tm) (n:Int) (d:Nat) (r:Int),t.fits->(∀p∈b,p.2.fits)->0<=n/\n<=1000->d<=1000->o6 f b t n d=some r->aV Tryz.prog 91 [G6 b,t.d, .i n, .i d] (.ret [.i r])
 |0,_,_,_,_,_,_,_,_,h=>by cases h
 |f+1,t,n,d,r,ht,hb,hn,hd,h=>by
  simp only[o6]at h
  cases ha:jG f b t with
  |none=>rw[ha]at h;cases h
  |some x=>
  rw[ha]at h
  refine aV.aJ mix YE aG ?_
  rw[c91]
  refine bJ ?_
  refine ba (Kc ha) ?_
  cases d with
  |zero=>
   injection h with h
   subst h
   exact l6
  |succ d=>
   have LS:(((d+1:Nat):Int)==0)=false:=by rw[beq_eq_false_iff_ne];omega
   dsimp only at h
   have Hc:=(Tm.bF x).1 (qA hb f t x ht ha)
   refine pk LS ?_
   refine aF (fun i:Nat×Int=>⟨bf [.d (G6 b), .ab, .d (.i i.2), .d (.i (d+1:Nat)), .ab, .ab, .ab, .ab, .ab, .ab, .ab, .ab, .ab, .ab, .ab, .ab, .ab, .ab, .ab, .d (.sl (x.kids.map Tm.d)), .d (.i x.kids.length), .d (.i i.1)],fun _=> .no,0⟩)
    (fun i=>i.1<=x.kids.length/\xH (fun k m=>o6 f b k m d) (x.kids.drop i.1) i.2=some r/\ -1<=i.2/\i.2<=1000) (fun i=>x.kids.length - i.1) (0,n - 1) ⟨Nat.zero_le _,h,by dsimp only;omega,by dsimp only;omega⟩ (bM.d0 _ ?_) ?_
   ·exact dU
   rintro⟨k,m⟩ ⟨hk,hl,Hv,K5⟩
   simp only at hk hl Hv K5
   refine zR ?_
   refine au (fun h2=> ?_) (fun h2=> ?_)
   ·replace h2:k<x.kids.length:=by simp at h2;omega
    obtain⟨y,hy⟩:=aD h2
    have MB:=List.mem_of_getElem? hy
    have Ke:x.kids.drop k=y::x.kids.drop (k+1):=by
     obtain⟨i1,i2⟩:=List.getElem?_eq_some_iff.1 hy
     exact zU
    rw[Ke]at hl
    simp only[xH]at hl
    by_cases h0:m<0
    ·have tU:decide (m<0)=true:=decide_eq_true h0
     rw[if_pos h0]at hl
     cases hl
     exact HI hy tU
    ·have tU:decide (m<0)=false:=decide_eq_false h0
     rw[if_neg h0]at hl
     refine zS hy tU ?_
     cases e:o6 f b y m d with
     |none=>rw[e]at hl;cases hl
     |some q=>
     rw[e]at hl
     have hq:=zk f y m d q ae e
     rw[show(((d+1:Nat):Int) - 1)=((d:Nat):Int) by omega]
     refine aj (DO f y m d q (Hc.2 y MB) hb ae ae e) rfl ?_
     refine bJ ?_
     refine aq (k+1,q) ⟨h2,hl,by dsimp only;omega,by dsimp only;omega⟩ pt (bM.d0 _ ?_)
     exact dU
   ·replace h2:k=x.kids.length:=by simp at h2;omega
    subst h2
    rw[List.drop_length]at hl
    cases hl
    exact l6
theorem zl{F:Tm->Option Tm}:∀ {ks xs:List Tm},DN F ks=some xs->xs.length=ks.length/\∀ (i:Nat) (k:Tm),ks[i]? =some k->∃x,xs[i]? =some x/\F k=some x
 |[],xs,h=>by cases h;exact⟨rfl,fun i k hk=>by simp at hk⟩
 |k::ks,xs,h=>by
  simp only[DN]at h
  cases h1:F k with
  |none=>rw[h1]at h;cases h
  |some x=>
   cases h2:DN F ks with
   |none=>rw[h1,h2]at h;cases h
   |some ys=>
    rw[h1,h2]at h
    cases h
    obtain⟨g1,g2⟩:=zl h2
    refine⟨by rw[List.length_cons,List.length_cons,g1],fun i k' hk=> ?_⟩
    cases i with
    |zero=>simp at hk;subst hk;exact⟨x,rfl,h1⟩
    |succ i=>exact g2 i k' hk
def DP(op n:Int)(ks:List Tm)(k:Nat):Nat->aa:=aA (aA (aA (fun _=> .no) 1 (.row [.d (.i 0), .d (.i 0), .aM])) 11 (.row [.d (.i op), .d (.i n), .osl 12 0])) 12 (.arr 0 33 3 ((ks.take k).map Tm.d))
theorem fuH_1(op n:Int)(ks:List Tm)(k:Nat):DP op n ks k 1= .row [.d (.i 0), .d (.i 0), .aM]:=rfl
theorem fuH_11(op n:Int)(ks:List Tm)(k:Nat):DP op n ks k 11= .row [.d (.i op), .d (.i n), .osl 12 0]:=rfl
theorem fuH_12(op n:Int)(ks:List Tm)(k:Nat):DP op n ks k 12= .arr 0 33 3 ((ks.take k).map Tm.d):=rfl
theorem zm(op n:Int)(ks:List Tm)(k:Nat){j:Nat}(h1:j≠1)(h2:j≠11)(h3:j≠12):DP op n ks k j= .no:=by unfold DP;rw[ag _ _ _ _ h3,ag _ _ _ _ h2,ag _ _ _ _ h1]
theorem Kg(gone:Nat->Prop)(x:V)(L:List V)(Bv:∀id,gone id->12<=id){op n:Int}{ks:List Tm}{k:Nat}{e:Nat->V}{so:Nat->aa}{m:Nat}(gx:js so gone 33 3 ((ks.take k).map Tm.d) x)
 (s1:so 1= .row [.d (.i 0), .d (.i 0), .aM]) (s11:so 11= .row [.d (.i op), .d (.i n),x]) (he:kx 12 [⟨x,33,3,(ks.take k).map Tm.d⟩] so gone e L 0):bM 0 ⟨e,so,m⟩ ⟨bf L,DP op n ks k,12+1⟩:=by
 refine bM.My gone x 12 L ae (fun j hj=> ?_) (fuH_12 op n ks k) gx (fun j hj=>zm _ _ _ _ ae ae ae) (fun j h1 h2=>absurd (Bv j h1) ae) he
 by_cases e1:j=1
 ·subst e1
  rw[fuH_1]
  exact ND
 ·by_cases e2:j=11
  ·subst e2
   rw[fuH_11]
   exact NK
  ·rw[zm _ _ _ _ e1 e2 (by omega)]
   exact nD
theorem Fx{k:Tm}:∀ {l:List Tm},k∈l->k.sz<=qN l
 |x::l,h=>by
  rw[show qN (x::l)=x.sz+qN l from rfl]
  rcases List.mem_cons.1 h with rfl|h
  ·omega
  ·have:=Fx h;omega
mutual
def Tm.wid:Tm->Prop
 | .mk _ _ kids=>kids.length<=1000000/\Tm.Kh kids
def Tm.Kh:List Tm->Prop
 |[]=>True
 |k::l=>k.wid/\Tm.Kh l
end
theorem Tm.B8:∀l:List Tm,Tm.Kh l↔∀k∈l,k.wid
 |[]=>by simp[Tm.Kh]
 |k::l=>by simp[Tm.Kh,Tm.B8 l]
theorem Tm.Fy (t:Tm):t.wid↔t.kids.length<=1000000/\∀k∈t.kids,k.wid:=by cases t;simp[Tm.wid,Tm.B8,Tm.kids]
theorem Tm.TD:∀t:Tm,t.sz<=1000000->t.wid:=by
 refine Tm.fg fun t ih h=> ?_
 rw[Tm.Fy]
 have:=lN t.kids
 have h2:=Tm.jt t
 exact NI
theorem Ki{b:List (Int×Tm)}(hb:∀p∈b,p.2.fits):∀ (f:Nat) (t y:Tm),t.fits->zi f b t=some y->y.wid->aV Tryz.prog 68 [G6 b,t.d] (.ret [y.d])
 |0,_,_,_,h,_=>by cases h
 |f+1,t,y,ht,h,hz=>by
  simp only[zi]at h
  cases ha:jG f b t with
  |none=>rw[ha]at h;cases h
  |some x=>
  rw[ha]at h
  dsimp only at h
  have Hc:=(Tm.bF x).1 (qA hb f t x ht ha)
  cases hL:DN (zi f b) x.kids with
  |none=>rw[hL]at h;cases h
  |some ks=>
  rw[hL]at h
  cases h
  obtain⟨LI,FW⟩:=zl hL
  have hkw:=(Tm.Fy _).1 hz
  have hle:ks.length<=1000000:=hkw.1
  refine aV.aJ mix Yy aG ?_
  rw[c68]
  refine bJ ?_
  refine ba (Kc ha) ?_
  refine bJ ?_
  refine aF (fun i:Nat=>⟨bf [.d (G6 b), .ab, .ab, .ab, .ptr 1 0, .ptr 11 0, .ab, .ab, .ab, .ab, .ab, .ab, .ab, .ab, .ab, .ab, .ab, .d (.sl (x.kids.map Tm.d)), .d (.i x.kids.length), .d (.i i)],DP x.op x.n ks i,12+1⟩)
   (fun i=>i<=x.kids.length) (fun i=>x.kids.length - i) 0 (Nat.zero_le _) (Kg (fun _=>False) .aM _ (fun _ h=>h.elim) (.inl ⟨rfl,rfl,cE⟩) dH dH ?_) (fun k hk=> ?_)
  ·exact CA
  replace hk:k<=x.kids.length:=hk
  have q1:=fuH_1 x.op x.n ks k
  have M0:=fuH_11 x.op x.n ks k
  have M3:=fuH_12 x.op x.n ks k
  refine Ld q1 M0 M3 ?_
  refine au (fun h2=> ?_) (fun h2=> ?_)
  ·replace h2:k<x.kids.length:=by simp at h2;omega
   obtain⟨z,hz⟩:=aD h2
   obtain⟨z',LD,hF⟩:=FW k z hz
   have hzm:=List.mem_of_getElem? hz
   have zO:ks.take (k+1)=ks.take k++[z']:=by rw[List.take_add_one,LD];rfl
   have e0:(ks.take k).length=k:=by rw[List.length_take];omega
   have hzs:z'.wid:=hkw.2 _ (List.mem_of_getElem? LD)
   have j9:k<=140737488355327/\(k+1)*24<=140737488355328:=ae
   refine HH q1 M0 M3 hz ?_
   refine dk (Ki hb f z z' (Hc.2 z hzm) hF hzs) ?_
   simp+contextual (disch:=first|omega|simp only[go_sem,false_implies]) only[go_sem,wrap64,if_pos,q1,M0,M3,hz,List.length_map,e0,if_pos j9]
   refine aL ai ?_
   refine bJ ?_
   refine aq (k+1) h2 ae (Kg (fun j=>12<=j) (.osl 12 1) _ (fun _ h=>h) (.inr ⟨12,1,Nat.le_refl _,rfl,by(repeat(first|rfl|rw[ad]|rw[ag _ _ _ _ (by omega)]));rw[zO,List.map_append];rfl⟩) V4 dH ?_)
   exact CA
  ·replace h2:k=x.kids.length:=by simp at h2;omega
   subst h2
   have TE:DP x.op x.n ks x.kids.length 12= .arr 0 33 3 (ks.map Tm.d):=by rw[M3, <- LI,List.take_length]
   refine Cz q1 M0 TE ?_
   rw[Tm.Mc]
theorem DS{b:List (Int×Tm)}(hb:∀p∈b,p.2.fits)(f:Nat)(t y:Tm)(ht:t.fits)(h:zi f b t=some y)(hz:y.sz<=1000000):aV Tryz.prog 68 [G6 b,t.d] (.ret [y.d]):=Ki hb f t y ht h (Tm.TD y hz)
section
section
variable {σ:Type}(base tn:Nat)(H:σ->Nat->aa)(step:σ->Tm->σ×Bool)(ok:σ->Prop)
end
end
section
theorem TF{x:Tm}{yb vb base:Nat}{h h2:Nat->aa}{r:Bool}(hS:uO Tryz.prog 165 [.d x.d, .ptr yb 0, .ptr vb 0] base h h2 (.d (.bool r)))(hy:yb<base)(hv:vb<base)(ov:h vb= .row [.func (.func 165) [] [.ptr yb 0, .ptr vb 0]]):
 uO Tryz.prog 167 [.d x.d, .ptr vb 0] base h h2 (.d (.bool (!r))):=by
 intro o nx hI K X hK
 have hle:=hI.le
 have ho:o vb= .row [.func (.func 165) [] [.ptr yb 0, .ptr vb 0]]:=by rw[hI.eq vb hv,ov]
 have y1:∀k,vb≠nx+k:=fun k=>ae
 have y2:vb≠nx:=ae
 refine cO.aJ mix PI aG ?_
 rw[SR]
 refine Vn ho y1 y2 ?_
 refine bp (hS _ _ ?_ _ _ fun o2 n2 m1 m2 m3=> ?_)
 ·exact hI.aA ae ae ae rfl
 refine ma ?_
 exact hK _ _ ae (m2.mono ae) fun id i1 i2=>by rw[m3 id i1 (by omega),ag _ _ _ _ (by omega)]
section
variable {σ:Type}(base tn:Nat)(H:σ->Nat->aa)(step:σ->Int->σ×Bool)(ok:σ->Prop)
theorem Kj:∀t:Tm,t.fits->(∀x∈rL t,∀s,ok s->(step s x).2=true->ok (step s x).1)->(∀x∈rL t,∀s,ok s->RoC Tryz.prog tn [.d (.i x)] base (H s) (H (step s x).1) (.d (.bool (step s x).2)))->tn<base->
 ∀ (c:Nat) (o0:Nat->aa) (yb vb:Nat),base<=c->base<=yb->yb<c->base<=vb->vb<c->o0 yb= .row [.kz tn]->o0 vb= .row [.func (.func 165) [] [.ptr yb 0, .ptr vb 0]]->
 ∀s,ok s->uO Tryz.prog 165 [.d t.d, .ptr yb 0, .ptr vb 0] c (ext base (H s) o0) (ext base (H (aI step s (rL t)).1) o0) (.d (.bool (aI step s (rL t)).2)):=by
 refine Tm.fg fun t ih hf aS hR Dx c o0 yb vb hbc hy0 hy hv0 hv oy ov s oK=> ?_
 have vV:=(Tm.bF _).1 hf
 intro o nx hI K X hK
 have hle:=hI.le
 have U3:o yb= .row [.kz tn]:=by rw[hI.eq yb hy];unfold ext;rw[if_neg (by omega),oy]
 have Tf:o vb= .row [.func (.func 165) [] [.ptr yb 0, .ptr vb 0]]:=by rw[hI.eq vb hv];unfold ext;rw[if_neg (by omega),ov]
 have y1:yb≠nx:=ae
 have y2:∀k,yb≠nx+k:=fun k=>ae
 have y3:vb≠nx:=ae
 have y4:∀k,vb≠nx+k:=fun k=>ae
 have oS:=J5 t
 have hb:∀id,id<base->o id=H s id:=fun id aw=>by rw[hI.eq id (by omega)];unfold ext;rw[if_pos aw]
 have hIb:eY base (H s) o nx:=⟨hI.cq,ae,hb⟩
 have Hm:∀id,base<=id->id<c->o id=o0 id:=fun id h1 h2=>by rw[hI.eq id h2];unfold ext;rw[if_neg (by omega)]
 refine cO.aJ mix PG aG ?_
 rw[SP]
 by_cases h1:t.op=1
 ·have eM:(t.op==1)=true:=by simpa using h1
  rw[if_pos h1]at oS
  have vH:aI step s (rL t)=step s t.n:=by
   rw[oS]
   simp only[aI]
   generalize step s t.n=q
   obtain⟨a,b⟩:=q
   cases b<;>rfl
  refine Nz eM U3 Tf y1 y2 y3 y4 ?_
  refine sy (hR t.n (by rw[oS];simp) s oK _ _ ?_ _ _ fun o2 n2 m1 m2 m3=> ?_)
  ·exact hIb.aA ae ae ae rfl
  refine ma ?_
  rw[vH]at hK
  have hold:∀id,base<=id->id<nx->o2 id=o id:=fun id h1 h2=>by rw[m3 id h1 (by omega),ag _ _ _ _ (by omega)]
  refine hK _ _ ae ⟨m2.cq.mono ae,ae,fun id aw=> ?_⟩ (fun id h1 h2=>hold id ae h2)
  unfold ext
  split
  ·exact m2.eq id (by assumption)
  ·exact Lk
 ·have eM:(t.op==1)=false:=by simpa using h1
  rw[if_neg h1]at oS
  have vH:aI step s (rL t)=aI (fun s k=>aI step s (rL k)) s t.kids:=by rw[oS,uS]
  have sL:∀k∈t.kids,∀x∈rL k,x∈rL t:=fun k hk x hx=>by rw[oS];exact List.mem_flatMap.2 ⟨k,hk,hx⟩
  refine Nz eM U3 Tf y1 y2 y3 y4 ?_
  refine bp (B7 t.kids vV.1 167 [.ptr vb 0] (nx+8) (fun s=>ext base (H s) (aA o nx (.row t.row))) (fun s k=>aI step s (rL k)) ?_ ok ?_ ?_ s oK _ _ ?_ _ _ ?_)
  ·exact Ea
  ·exact V5
  ·intro k hk s' jC
   refine TF (yb:=yb) (ih k hk (vV.2 k hk) (fun x hx=>aS x (sL k hk x hx)) (fun x hx=>hR x (sL k hk x hx)) Dx (nx+8) _ yb vb ae hy0 ae hv0 ae ?_ ?_ s' jC) ae ae ?_
   ·(repeat(first|rfl|rw[ad]|rw[ag _ _ _ _ (by omega)]));exact U3
   ·(repeat(first|rfl|rw[ad]|rw[ag _ _ _ _ (by omega)]));exact Tf
   ·unfold ext;rw[if_neg (by omega)];(repeat(first|rfl|rw[ad]|rw[ag _ _ _ _ (by omega)]));exact Tf
  ·exact(hIb.aA ae ae ae rfl).ext ae ae
  ·intro o5 n5 p1 p2 p3
   refine bJ ?_
   rw[<- vH]
   have hold:∀id,base<=id->id<nx->o5 id=o id:=fun id h1 h2=>by
    rw[p2.eq id (by omega)];unfold ext;rw[if_neg (by omega),ag _ _ _ _ (by omega)]
   refine hK _ _ ae ⟨p2.cq.mono ae,ae,fun id aw=> ?_⟩ (fun id h1 h2=>hold id ae h2)
   rw[vH]
   unfold ext
   split
   ·rw[p2.eq id (by omega)];unfold ext;rw[if_pos (by assumption)]
   ·exact Lk
theorem Kk(t:Tm)(hf:t.fits)(aS:∀x∈rL t,∀s,ok s->(step s x).2=true->ok (step s x).1)(hR:∀x∈rL t,∀s,ok s->RoC Tryz.prog tn [.d (.i x)] base (H s) (H (step s x).1) (.d (.bool (step s x).2)))(Dx:tn<base)(tb:Nat)(HA:tb<base)(s:σ)(oK:ok s)(cN:H s tb= .row t.row):
 uO Tryz.prog 164 [.kz tn, .ptr tb 0] base (H s) (H (aI step s (rL t)).1) (.bN []):=by
 intro o nx hI K X hK
 have hle:=hI.le
 have ot:o tb= .row t.row:=by rw[hI.eq tb HA,cN]
 have y1:tb≠nx:=ae
 have y2:∀k,tb≠nx+k:=fun k=>ae
 refine cO.aJ mix PF aG ?_
 rw[SO]
 simp+contextual only[go_sem,ot,y1,y2,Nat.add_assoc,Nat.left_eq_add,Nat.add_eq_left,Nat.add_left_cancel_iff]
 have hI1:eY base (H s) (aA (aA (aA o nx (.row [.kz tn])) (nx+1) (.row [.d .b8])) (nx+1) (.row [.func (.func 165) [] [.ptr nx 0, .ptr (nx+1) 0]])) (nx+6):=by
  refine((hI.aA (i:=nx) (m:=nx+6) ae ae ae ?_).aA (i:=nx+1) (m:=nx+6) ae ae ae rfl).aA (i:=nx+1) ae ae ae ?_
  ·exact HN
  ·exact D6
 refine bp (Kj base tn H step ok t hf aS hR Dx (nx+6) _ nx (nx+1) ae hle ae ae ae ?_ ?_ s oK _ _ (hI1.ext (Nat.le_refl _) ae) _ _ ?_)
 ·exact dH
 ·exact dH
 intro o2 n2 m1 m2 m3
 refine cn ?_
 refine hK _ _ ae ⟨m2.cq,ae,fun id aw=> ?_⟩ (fun id h1 h2=> ?_)
 ·rw[m2.eq id (by omega)];unfold ext;rw[if_pos aw]
 ·exact N8
end
theorem Kl(t:Tm)(o:Nat->aa)(nx:Nat)(K X:V->(Nat->aa)->Nat->Prop)(h:K (.func (.func 164) [] [.ptr nx 0]) (aA o nx (.row t.row)) (nx+4)):cO Tryz.prog 149 [.d t.d] o nx K X:=by
 refine cO.aJ mix PB aG ?_
 rw[SK]
 refine cn ?_
 exact h
def DT{σ:Type}(J:σ->Option jA)(step:σ->Int->σ)(s:σ)(x:Int):σ×Bool:=(step s x,(J (step s x)).isNone)
theorem B9{σ:Type}(t:Tm)(hf:t.fits){n bq:Nat}{gq:Operand}{ps:List Nat}{je eT:IC}{Q:fw->S->Prop}{e:Nat->V}{o:Nat->aa}{nx tb:Nat}(env:List V)(he:mX e env 0)
 (Jd:ps.all (fun t=>decide (t<n))=true) (hl:ps.length=1) (hg:Good o nx) (hrefs:∀r∈V.aN env,r<nx) (ht:o tb= .row t.row)
 (G:σ->Nat->aa) (J:σ->Option jA) (step:σ->Int->σ) (ok:σ->Prop) (s0:σ) (oK:ok s0) (hJ0:J s0=none) (h0:∀id,id<nx->o id=G s0 id) (aS:∀x∈rL t,∀s,ok s->J s=none->J (step s x)=none->ok (step s x))
 (uc:∀L,iG Tryz.prog n env ps je eT L->(∀st pd m,nx<=m->(L st pd).refs.all (fun r=>decide (r<m))=true)->∀x∈rL t,∀s,ok s->J s=none->∀o3 n3,eY nx (G s) o3 n3->nx<n3->o3 nx=L .ready none->∀K X,
  (∀e' o' n' st pd,n3<=n'->eY nx (G (step s x)) o' n'->o' nx=L st pd->(∀id,nx<id->id<n3->o' id=o3 id)->ku nx K X (Qa (J (step s x))) ⟨e',o',n'⟩)->
  kq Tryz.prog n n3 true je (rB Tryz.prog n n3 nx eT K X) ⟨qb (bf env) ps [.d (.i x)],o3,n3⟩)
 (il:∀o' n',eY nx (G (aI (DT J step) s0 (rL t)).1) o' n'->rh Q (J (aI (DT J step) s0 (rL t)).1) ⟨e,o',n'⟩):
 Bh Tryz.prog n bq false gq ps je eT Q ⟨e,o,nx⟩ (.func (.func 164) [] [.ptr tb 0]):=by
 refine JI env he (fun L hL=> ?_)
 have HA:tb<nx:=hg.lt (by rw[ht];exact aa.noConfusion)
 let H:σ->Nat->aa:=fun s id=>if id<nx then G s id else if id=nx then(match J s with|none=>L .ready none|some j=>L .done (some j))else .no
 have Hn:∀s id,id<nx->H s id=G s id:=fun s id h=>if_pos h
 have MD:∀s,J s=none->H s nx=L .ready none:=fun s h=>by show(if nx<nx then _ else _)=_;rw[if_neg (by omega),if_pos rfl,h]
 have Tg:∀s j,J s=some j->H s nx=L .done (some j):=fun s j h=>by show(if nx<nx then _ else _)=_;rw[if_neg (by omega),if_pos rfl,h]
 have D4:∀st pd m,nx<=m->(L st pd).refs.all (fun r=>decide (r<m))=true:=fun st pd m hm=>by
  exact NU
 refine Kk (nx+1) nx H (DT J step) (fun s=>ok s/\J s=none) t hf (fun x hx s h1 h2=> ?_) (fun x hx s h1=> ?_) ae tb ae s0 ⟨oK,hJ0⟩ (by rw[Hn _ _ HA, <- h0 _ HA,ht]) _ _ ⟨?_,Nat.le_refl _,fun id aw=> ?_⟩ _ _ ?_
 ·have hj:J (step s x)=none:=by simpa[DT]using h2
  exact⟨aS x hx s h1.1 h1.2 hj,hj⟩
 ·intro o3 n3 hI K X hK
  have hle:=hI.le
  have Th:o3 nx=L .ready none:=by rw[hI.eq nx (by omega),MD s h1.2]
  refine BH hL mix Th ae Jd (by simp[hl]) ?_
  refine uc L hL D4 x hx s h1.1 h1.2 o3 n3 ⟨hI.cq,ae,fun id aw=>by rw[hI.eq id (by omega),Hn _ _ aw]⟩ ae Th K X (fun e' o' n' st pd k1 k2 k3 k4=> ?_)
  have key:∀st' pd' b,(J (step s x)).isNone=b->H (step s x) nx=L st' pd'->K (.d (.bool b)) (aA o' nx (L st' pd')) n':=fun st' pd' b hb hh=>by
   subst hb
   refine hK _ _ k1 ⟨k2.cq.aA ae (D4 _ _ _ ae),ae,fun id aw=> ?_⟩ (fun id g1 g2=> ?_)
   ·by_cases vP:id=nx
    ·subst vP;rw[ad];exact hh.symm
    ·rw[ag _ _ _ _ vP]
     show o' id=H (step s x) id
     rw[Hn _ _ (by omega)];exact k2.eq id ae
   ·rw[ag _ _ _ _ (by omega)];exact k4 id ae g2
  cases hj:J (step s x)with
  |none=>exact xw hL k3 (key _ _ _ wA (MD _ hj))
  |some j=>
   cases j with
   |ret=>exact uP hL k3 (key _ _ _ wA (Tg _ _ hj))
   |exit j=>exact sA hL k3 (key _ _ _ wA (Tg _ _ hj))
 ·exact(hg.mono ae).aA ae (D4 _ _ _ ae)
 ·by_cases vP:id=nx
  ·subst vP;rw[ad,MD _ hJ0]
  ·exact NJ
 ·intro o' n' k1 k2 k3
  have hle:=k2.le
  generalize hsf:(aI (DT J step) s0 (rL t)).1=sf at*
  have kk:∀st pd,eY nx (G sf) (aA o' nx (L st pd)) n':=fun st pd=>⟨k2.cq.aA ae (D4 _ _ _ ae),ae,fun id aw=>by rw[ag _ _ _ _ (by omega),k2.eq id (by omega),Hn _ _ aw]⟩
  cases hj:J sf with
  |none=>
   refine⟨.ready,none,by rw[k2.eq nx (by omega),MD _ hj],(fun h=>by cases h), ?_⟩
   have:=il _ _ (kk .exhausted none)
   rwa [hj]at this
  |some j=>
   refine⟨.done,some j,by rw[k2.eq nx (by omega),Tg _ _ hj],(fun h=>by cases h), ?_⟩
   have:=il _ _ (kk .exhausted (some j))
   rwa [hj]at this
end
def jF(b:List (Int×Tm))(n:Int)(s:List Int×Bool)(v:Int):List Int×Bool:=if v=n then(s.1,true)else match bL b v with
 |none=>(s.1,false)
 |some x=>if v∈s.1 then(s.1,false)else match La (b.length+1) b n x (dT s.1 v)with
  |some (is,m)=>(m,is)
  |none=>(s.1,false)
def stJ(s:List Int×Bool):Option jA:=if s.2=true then some .ret else none
theorem qB{b:List (Int×Tm)}{n:Int}:∀ (vs met:List Int) (is:Bool) (m':List Int),J6 (La b.length b n) b n vs met=some (is,m')->(aI (DT stJ (jF b n)) (met,false) vs).1=(m',is)
 |[],met,is,m',h=>by cases h;rfl
 |v::vs,met,is,m',h=>by
  simp only[J6]at h
  simp only[aI,DT]
  by_cases e:v=n
  ·rw[if_pos e]at h
   cases h
   have:jF b n (met,false) v=(met,true):=by unfold jF;rw[if_pos e]
   simp only[this];rfl
  ·rw[if_neg e]at h
   cases hl:bL b v with
   |none=>
    rw[hl]at h
    have:jF b n (met,false) v=(met,false):=by unfold jF;rw[if_neg e,hl]
    simp only[this]
    exact qB vs met is m' h
   |some x=>
    rw[hl]at h
    dsimp only at h
    by_cases e2:v∈met
    ·rw[if_pos e2]at h
     have:jF b n (met,false) v=(met,false):=by unfold jF;rw[if_neg e,hl];dsimp only;rw[if_pos e2]
     simp only[this]
     exact qB vs met is m' h
    ·rw[if_neg e2]at h
     cases hF:La b.length b n x (dT met v)with
     |none=>rw[hF]at h;cases h
     |some q=>
      obtain⟨i,m⟩:=q
      rw[hF]at h
      have:jF b n (met,false) v=(m,i):=by unfold jF;rw[if_neg e,hl];dsimp only;rw[if_neg e2,B2 hF (Nat.le_succ _)]
      simp only[this]
      cases i with
      |true=>cases h;rfl
      |false=>exact qB vs m is m' h
theorem Km{s:aB}{b:List (Int×Tm)}(hb:∀p∈b,Vs s p.2)(nh:∀p∈b,p.2.fits)(n:Int):∀ (N:Nat) (t:Tm) (met:List Int),vN b met<=N->Vs s t->t.fits->∀ (is:Bool) (fi:List Int),La (b.length+1) b n t met=some (is,fi)->
 ∀ (o:Nat->aa) (nx nb bb mb fb mid:Nat),Good o nx->o nb= .row [.d (.i n)]->o bb= .row [.d (G6 b)]->o mb= .row [.mp mid]->o fb= .row [.func (.func 148) [] [.ptr nb 0, .ptr bb 0, .ptr mb 0, .ptr fb 0]]->o mid=G2 met->
 ∀ (K X:V->(Nat->aa)->Nat->Prop),(∀o' nx',nx<=nx'->Good o' nx'->(∀j,j<nx->j≠mid->o' j=o j)->o' mid=G2 fi->K (.d (.bool is)) o' nx')->
 cO Tryz.prog 148 [.d t.d, .ptr nb 0, .ptr bb 0, .ptr mb 0, .ptr fb 0] o nx K X:=by
 intro N
 induction N using Nat.strongRecOn with
 |ind N ihN=>
  intro t met hN ht TG is fi hld o nx nb bb mb fb mid hg o1 o2 o3 o4 o5 K X hK
  have l1:nb<nx:=hg.lt (by rw[o1];exact aa.noConfusion)
  have l2:bb<nx:=hg.lt (by rw[o2];exact aa.noConfusion)
  have l3:mb<nx:=hg.lt (by rw[o3];exact aa.noConfusion)
  have l4:fb<nx:=hg.lt (by rw[o4];exact aa.noConfusion)
  have l5:mid<nx:=hg.lt (by rw[o5];exact aa.noConfusion)
  have d1:nb≠mid:=fun e=>by rw[e,o5]at o1;cases o1
  have d2:bb≠mid:=fun e=>by rw[e,o5]at o2;cases o2
  have d3:mb≠mid:=fun e=>by rw[e,o5]at o3;cases o3
  have d4:fb≠mid:=fun e=>by rw[e,o5]at o4;cases o4
  refine cO.aJ mix PA aG ?_
  rw[SJ]
  refine ma ?_
  refine cz (Kl t _ _ _ _ ?_)
  refine ma ?_
  obtain⟨O1,hO1⟩:∃O1:Nat->aa,O1=aA (aA (aA o nx (aa.row [V.d (D.i t.op),V.d (D.i t.n),V.d (D.sl (List.map Tm.d t.kids))])) (nx+1) (aa.row [V.d (D.bool false)])) (nx+3) (aa.row t.row):=⟨_,rfl⟩
  have hgO:Good O1 (nx+7):=by rw[hO1];exact dt
  have hOl:∀j,j<nx->O1 j=o j:=fun j hj=>by rw[hO1];(repeat(first|rfl|rw[ad]|rw[ag _ _ _ _ (by omega)]))
  have acI:O1 (nx+1)= .row [.d (.bool false)]:=by rw[hO1];(repeat(first|rfl|rw[ad]|rw[ag _ _ _ _ (by omega)]))
  have hO3:O1 (nx+3)= .row t.row:=by rw[hO1];(repeat(first|rfl|rw[ad]|rw[ag _ _ _ _ (by omega)]))
  rw[<- hO1]
  obtain⟨G,hG⟩:∃G:List Int×Bool->Nat->aa,G=fun s=>aA (aA O1 (nx+1) (.row [.d (.bool s.2)])) mid (G2 s.1):=⟨_,rfl⟩
  have gm:∀s,G s mid=G2 s.1:=fun s=>by rw[hG];exact ad _ _ _
  have gc:∀s,G s (nx+1)= .row [.d (.bool s.2)]:=fun s=>by rw[hG];show aA _ mid _ _=_;rw[ag _ _ _ _ (by omega),ad]
  have ge:∀s j,j≠mid->j≠nx+1->G s j=O1 j:=fun s j j1 j2=>by rw[hG];show aA _ mid _ _=_;rw[ag _ _ _ _ j1,ag _ _ _ _ j2]
  have gl:∀s j,j<nx->j≠mid->G s j=o j:=fun s j j1 j2=>by rw[ge s j j2 (by omega),hOl j j1]
  refine B9 (σ:=List Int×Bool) t TG [.ab, .ptr nb 0, .ptr bb 0, .ptr mb 0, .ptr fb 0, .ab, .ptr (nx+1) 0] ?_ cE rfl hgO Ea hO3
   G stJ (jF b n) (fun s=>vN b s.1<=N) (met,false) hN rfl (fun id aw=> ?_) (fun x hx s' h1 h2 h3=> ?_) ?_ ?_
  ·exact Lh
  ·by_cases e1:id=mid
   ·subst e1;rw[gm,hOl id (by omega),o5]
   ·by_cases e2:id=nx+1
    ·subst e2;rw[gc,acI]
    ·rw[ge _ _ e1 e2]
  ·obtain⟨m,fl⟩:=s'
   show vN b (jF b n (m,fl) x).1<=N
   have h1:vN b m<=N:=h1
   unfold jF
   by_cases e:x=n
   ·rw[if_pos e];exact h1
   ·rw[if_neg e]
    cases hl:bL b x with
    |none=>exact h1
    |some y=>
     dsimp only
     by_cases e2:x∈m
     ·rw[if_pos e2];exact h1
     ·rw[if_neg e2]
      have hle:vN b (dT m x)<=b.length:=Nat.le_trans (Nat.le_of_lt (tt hl e2)) VO
      obtain⟨i1,m1,g1,g2,g3⟩:=Fo hb n b.length y (dT m x) hle (hb _ (cB hl))
      have jB:jF b n (m,fl) x=(m1,i1):=by unfold jF;rw[if_neg e,hl];dsimp only;rw[if_neg e2,g1]
      rw[g1]
      rw[jB]at h3
      cases i1 with
      |true=>cases h3
      |false=>
       have:=B3 (b:=b) (g3 rfl).1
       have:=tt hl e2
       show vN b m1<=N
       omega
  ·intro L hL D4 v hv s' pg Ct O3 n3 hI hn Th K' X' eg
   obtain⟨m,fl⟩:=s'
   have pc:fl=false:=by
    cases fl with
    |false=>rfl
    |true=>cases Ct
   subst pc
   have pg:vN b m<=N:=pg
   simp only[qb]
   have hg:=hI.cq
   have hle:=hI.le
   have q1:O3 nb= .row [.d (.i n)]:=by rw[hI.eq nb (by omega),gl _ _ (by omega) d1,o1]
   have q2:O3 bb= .row [.d (G6 b)]:=by rw[hI.eq bb (by omega),gl _ _ (by omega) d2,o2]
   have q3:O3 mb= .row [.mp mid]:=by rw[hI.eq mb (by omega),gl _ _ (by omega) d3,o3]
   have q4:O3 fb= .row [.func (.func 148) [] [.ptr nb 0, .ptr bb 0, .ptr mb 0, .ptr fb 0]]:=by rw[hI.eq fb (by omega),gl _ _ (by omega) d4,o4]
   have q5:O3 mid=G2 m:=by rw[hI.eq mid (by omega),gm]
   have q6:O3 (nx+1)= .row [.d (.bool false)]:=by rw[hI.eq (nx+1) (by omega),gc]
   have same:∀ (o':Nat->aa) (n':Nat) (s:List Int×Bool),Good o' n'->n3<=n'->(∀j,j<nx+7->o' j=aA (aA O3 (nx+1) (.row [.d (.bool s.2)])) mid (G2 s.1) j)->eY (nx+7) (G s) o' n':=fun o' n' s k1 k2 k3=>⟨k1,ae,fun j hj=>by
    rw[k3 j hj]
    by_cases e1:j=mid
    ·subst e1;rw[ad,gm]
    ·rw[ag _ _ _ _ e1]
     by_cases e2:j=nx+1
     ·subst e2;rw[ad,gc]
     ·rw[ag _ _ _ _ e2,hI.eq j hj,ge _ _ e1 e2,ge _ _ e1 e2]⟩
   have z1:∀k,nb≠n3+k:=fun k=>ae
   have z2:∀k,bb≠n3+k:=fun k=>ae
   have z3:∀k,mb≠n3+k:=fun k=>ae
   have z4:∀k,fb≠n3+k:=fun k=>ae
   have z5:∀k,mid≠n3+k:=fun k=>ae
   have z6:∀k,nx+1≠n3+k:=fun k=>ae
   refine bJ ?_
   refine qh hL (pd:=none) ?_ ?_
   ·(repeat(first|rfl|rw[ad]|rw[ag _ _ _ _ (by omega)]))
    exact Th
   refine FL q1 q2 q3 q4 q5 q6 ?_
   refine au (fun h3=> ?_) (fun h3=> ?_)
   ·have lT:v=n:=by simpa using h3
    have jB:jF b n (m,false) v=(m,true):=by unfold jF;rw[if_pos lT]
    rw[jB]at eg
    refine FL q1 q2 q3 q4 q5 q6 ?_
    refine eg _ _ _ .busy none ae (same _ _ _ dt ae fun j hj=> ?_) dH (fun id h3 h4=>by(repeat(first|rfl|rw[ad]|rw[ag _ _ _ _ (by omega)])))
    by_cases e1:j=mid
    ·exact Qy
    ·by_cases e2:j=nx+1
     ·exact Qz
     ·exact dH
   ·have lT:v≠n:=by simpa using h3
    cases hl:bL b v with
    |none=>
     have jB:jF b n (m,false) v=(m,false):=by unfold jF;rw[if_neg lT,hl]
     rw[jB]at eg
     cases hc:m.contains v
     all_goals
      simp+contextual (disch:=first|omega|simp only[go_sem,false_implies]) only[go_sem,wrap64,if_pos,q1,q2,q3,q4,q5,q6,nI,ee hl,hc]
      refine eg _ _ _ .busy none ae (same _ _ _ dt ae fun j hj=> ?_) dH (fun id h3 h4=>by(repeat(first|rfl|rw[ad]|rw[ag _ _ _ _ (by omega)])))
      by_cases e1:j=mid
      ·exact Qy
      ·by_cases e2:j=nx+1
       ·exact VX
       ·exact dH
    |some y=>
     obtain⟨jy,hj⟩:=hO hl
     have MB:=cB hl
     cases hc:m.contains v with
     |true=>
      have tY:v∈m:=List.contains_iff_mem.1 hc
      have jB:jF b n (m,false) v=(m,false):=by unfold jF;rw[if_neg lT,hl];dsimp only;rw[if_pos tY]
      rw[jB]at eg
      simp+contextual (disch:=first|omega|simp only[go_sem,false_implies]) only[go_sem,wrap64,if_pos,q1,q2,q3,q4,q5,q6,nI,hj,hc]
      refine eg _ _ _ .busy none ae (same _ _ _ dt ae fun j hj=> ?_) dH (fun id h3 h4=>by(repeat(first|rfl|rw[ad]|rw[ag _ _ _ _ (by omega)])))
      by_cases e1:j=mid
      ·exact Qy
      ·by_cases e2:j=nx+1
       ·exact VX
       ·exact dH
     |false=>
      have tY:v∉m:=fun h=>by rw[List.contains_iff_mem.2 h]at hc;cases hc
      have bW:=tt hl tY
      have Ra:vN b (dT m v)<=b.length:=Nat.le_trans (Nat.le_of_lt bW) VO
      obtain⟨i1,m1,g1,_,_⟩:=Fo hb n b.length y (dT m v) Ra (hb _ MB)
      have jB:jF b n (m,false) v=(m1,i1):=by unfold jF;rw[if_neg lT,hl];dsimp only;rw[if_neg tY,g1]
      rw[jB]at eg
      simp+contextual (disch:=first|omega|simp only[go_sem,false_implies]) only[go_sem,wrap64,if_pos,q1,q2,q3,q4,q5,q6,z1,z2,z3,z4,z5,z6,nI,hj,hc]
      refine bp (ihN _ ae y (dT m v) (Nat.le_refl _) (hb _ MB) (nh _ MB) i1 m1 g1 _ _ nb bb mb fb mid ?_ ?_ ?_ ?_ ?_ ?_ _ _ fun o4' n4 w1 w2 w3 w4=> ?_)
      ·exact dt
      ·(repeat(first|rfl|rw[ad]|rw[ag _ _ _ _ (by omega)]));exact q1
      ·(repeat(first|rfl|rw[ad]|rw[ag _ _ _ _ (by omega)]));exact q2
      ·(repeat(first|rfl|rw[ad]|rw[ag _ _ _ _ (by omega)]));exact q3
      ·(repeat(first|rfl|rw[ad]|rw[ag _ _ _ _ (by omega)]));exact q4
      ·exact dH
      have p7:o4' (nx+7)=L .busy none:=by rw[w3 (nx+7) (by omega) (by omega)];(repeat(first|rfl|rw[ad]|rw[ag _ _ _ _ (by omega)]))
      have p6:o4' (nx+1)= .row [.d (.bool false)]:=by rw[w3 (nx+1) (by omega) (by omega)];(repeat(first|rfl|rw[ad]|rw[ag _ _ _ _ (by omega)]));exact q6
      have pj:∀j,j<nx+7->j≠mid->o4' j=O3 j:=fun j j1 j2=>by rw[w3 j (by omega) j2];(repeat(first|rfl|rw[ad]|rw[ag _ _ _ _ (by omega)]))
      have ph:∀j,nx+7<j->j<n3->o4' j=O3 j:=fun j j1 j2=>by rw[w3 j (by omega) (by omega)];(repeat(first|rfl|rw[ad]|rw[ag _ _ _ _ (by omega)]))
      clear hg
      have hg:=w2
      cases i1 with
      |true=>
       refine pk p6 ?_
       refine eg _ _ _ .busy none ae (same _ _ _ dt ae fun j hj=> ?_) (by(repeat(first|rfl|rw[ad]|rw[ag _ _ _ _ (by omega)]))<;>exact p7) (fun id h3 h4=>by(repeat(first|rfl|rw[ad]|rw[ag _ _ _ _ (by omega)]))<;>exact ph id h3 h4)
       by_cases e1:j=mid
       ·exact VY
       ·by_cases e2:j=nx+1
        ·exact Qz
        ·exact V1
      |false=>
       refine pk p6 ?_
       refine eg _ _ _ .busy none ae (same _ _ _ dt ae fun j hj=> ?_) p7 (fun id h3 h4=>ph id h3 h4)
       by_cases e1:j=mid
       ·exact VY
       ·by_cases e2:j=nx+1
        ·subst e2;(repeat(first|rfl|rw[ad]|rw[ag _ _ _ _ (by omega)]));exact p6
        ·exact V1
  ·intro o' n' hI
   rw[qB (rL t) met is fi hld]at hI|-
   have p6:o' (nx+1)= .row [.d (.bool is)]:=by rw[hI.eq (nx+1) (by omega),gc]
   have hle:=hI.le
   have hg:=hI.cq
   cases is with
   |true=>
    rw[show stJ (fi,true)=some .ret from rfl]
    simp only[rh]
    refine pk p6 ?_
    exact hK _ _ ae dt (fun j j1 j2=>by rw[hI.eq j (by omega),gl _ _ j1 j2]) (by rw[hI.eq mid (by omega),gm])
   |false=>
    rw[show stJ (fi,false)=none from rfl]
    simp only[rh]
    refine pk p6 ?_
    refine hK _ _ ae dt (fun j j1 j2=> ?_) ?_
    ·(repeat(first|rfl|rw[ad]|rw[ag _ _ _ _ (by omega)]));rw[hI.eq j (by omega),gl _ _ j1 j2]
    ·(repeat(first|rfl|rw[ad]|rw[ag _ _ _ _ (by omega)]));rw[hI.eq mid (by omega),gm]
theorem Fz{s:aB}{b:List (Int×Tm)}(hb:∀p∈b,Vs s p.2)(nh:∀p∈b,p.2.fits)(n:Int)(t:Tm)(ht:Vs s t)(TG:t.fits){is:Bool}(zo:is=true↔lY b n t):
 aV Tryz.prog 120 [G6 b,t.d, .i n] (.ret [.bool is]):=by
 obtain⟨i1,m1,g1,g2⟩:=Ty hb n ht
 have:is=i1:=by rw[Bool.eq_iff_iff,zo,g2]
 subst this
 refine aV.aJ mix Pq aG ?_
 rw[Sz]
 refine bJ ?_
 have hN:vN b []<=b.length:=by unfold vN;exact Nat.le_trans (List.length_filter_le _ _) VJ
 refine bp (Km hb nh n b.length t [] hN ht TG is m1 g1 _ _ 2 0 5 7 4 dt rfl rfl rfl rfl rfl _ _ fun o' nx' w1 w2 w3 w4=> ?_)
 exact l6
structure BL (l:List TB):Prop where
 len:l.length<=100
 sz:∀x∈l,x.term.sz<=1000
theorem xJ{b:List (Int×Tm)}(nh:∀p∈b,p.2.fits)(hle:∀p∈b,∃f r,o6 f b p.2 40 12=some r){ok:Bool}(aS:ok=true↔∀p∈b,sX b p.2):aV Tryz.prog 121 [G6 b] (.ret [.bool ok]):=by
 refine aV.aJ mix Pr aG ?_
 rw[SA]
 simp+contextual (disch:=first|omega|simp only[go_sem,false_implies]) only[go_sem,wrap64,if_pos,nI]
 refine aF (fun i:List (Int×Tm)×Option (D×D)=>⟨bf [.d (G6 b), .ab, .ab, .ab, .ab, .ab, .ptr 2 0],aA (fun _=> .no) 2 (.qS (enc (D.int .i64) (ou i.1)) i.2),3⟩)
  (fun i=>(∀p∈i.1,p∈b)/\(ok=true↔∀p∈i.1,sX b p.2)) (fun i=>i.1.length) (b,none) ⟨fun _ h=>h,aS⟩ ?_ ?_
 ·dsimp only
  exact Lq
 rintro⟨rest,last⟩ ⟨hr,ho⟩
 dsimp only at hr ho|-
 refine bJ ?_
 refine xG (fun h0=> ?_) fun i k x hm=> ?_
 ·subst h0
  have:ok=true:=ho.2 (fun p hp=>by cases hp)
  exact xS
 ·have nQ:=List.mem_of_getElem? hm
  have K7:=hr _ nQ
  obtain⟨f,r,hf⟩:=hle _ K7
  have hlen:(rest.eraseIdx i).length<rest.length:=by
   exact WN
  have xV:=u6 hm
  refine bJ ?_
  refine aj (DO f x 40 12 r (nh _ K7) nh ae ae hf) rfl ?_
  have cD:=Fq hf
  by_cases h0:r<0
  ·have tU:decide (r<0)=true:=decide_eq_true h0
   have:ok=false:=by
    cases ok with
    |false=>rfl
    |true=>
     have:=cD.1 (ho.1 rfl _ nQ)
     omega
   subst this
   exact Cy tU
  ·have tU:decide (r<0)=false:=decide_eq_false h0
   refine pk tU ?_
   refine aq (rest.eraseIdx i,some (.int .i64 k,x.d)) ⟨fun p hp=>hr p (xV.mem_iff.1 (List.mem_cons_of_mem _ hp)),ho.trans ⟨fun h p hp=>h p (xV.mem_iff.1 (List.mem_cons_of_mem _ hp)),fun h p hp=> ?_⟩⟩ hlen (bM.bH _ (show 0<=3 from ae) ae dt (fun j hj=> ?_) ?_)
   ·rcases List.mem_cons.1 (xV.mem_iff.2 hp)with rfl|hp
    ·exact cD.2 ae
    ·exact h p hp
   ·by_cases e:j=2
    ·exact vL
    ·exact dH
   ·exact dU
structure Nt where
 a:Tm
 b:Tm
@[reducible] def Nt.d (n:Nt):D:= .agg [.i n.a.op, .i n.a.n, .sl (n.a.kids.map Tm.d), .i n.b.op, .i n.b.n, .sl (n.b.kids.map Tm.d)]
@[reducible] def Nt.row (n:Nt):List V:=[.d (.i n.a.op), .d (.i n.a.n), .d (.sl (n.a.kids.map Tm.d)), .d (.i n.b.op), .d (.i n.b.n), .d (.sl (n.b.kids.map Tm.d))]
@[reducible] def Vc (m:Int×Int):D:= .agg [.i m.1, .i m.2]
structure gG where
 sig:aB
 binds:List TB
 aR:List Nt
 marks:List (Int×Int)
@[reducible] def gG.d (s:gG):D:= .agg [.sl (s.sig.cons.map jD.d), .sl (s.sig.cC.map jD.d), .sl (s.binds.map TB.d), .sl (s.aR.map Nt.d), .sl (s.marks.map Vc)]
@[reducible] def gG.row (s:gG):List V:=[.d (.sl (s.sig.cons.map jD.d)), .d (.sl (s.sig.cC.map jD.d)), .d (.sl (s.binds.map TB.d)), .d (.sl (s.aR.map Nt.d)), .d (.sl (s.marks.map Vc))]
@[reducible] def gG.kd (s:gG) (b:List (Int×Tm)):D:= .agg [.sl (s.sig.cons.map jD.d), .sl (s.sig.cC.map jD.d), .sl (s.binds.map TB.d), .sl (s.aR.map Nt.d), .sl (s.marks.map Vc),G6 b]
def br(s:aB)(t:Tm):Bool:=iH s [t]&&m5 t
theorem ni(s:gG)(hs:s.sig.Fits)(b:List (Int×Tm))(t:Tm)(ht:t.Fin):aV Tryz.prog 99 [s.kd b,t.d] (.ret [.bool (br s.sig t)]):=by
 refine aV.aJ mix YF aG ?_
 rw[c99]
 refine bJ ?_
 refine aj (DF s.sig hs t ht) rfl ?_
 unfold br
 cases h:iH s.sig [t]with
 |false=>
  exact Vu
 |true=>
  exact Vu
theorem xK(s:gG){b:List (Int×Tm)}(hb:∀p∈b,p.2.fits)(n:Nt)(ha:n.a.fits)(wI:n.b.fits){f:Nat}{x y:Tm}(hx:zi f b n.a=some x)(hy:zi f b n.b=some y)(fx:x.fits)(fy:y.fits)(zx:x.sz<=1000000)(zy:y.sz<=1000000):
 aV Tryz.prog 66 [s.kd b,n.d] (.ret [.bool (ir x y)]):=by
 refine aV.aJ mix Yx aG ?_
 rw[c66]
 refine bJ ?_
 refine dk (DS hb f n.a x ha hx zx) ?_
 refine bJ ?_
 refine dk (DS hb f n.b y wI hy zy) ?_
 refine bJ ?_
 refine aX (MZ x fx y fy) rfl ?_
 exact Lp
def DU(b:List (Int×Tm))(n:Nt):Prop:=∃f x,zi f b n.a=some x/\zi f b n.b=some x
def wb(nb nn:Int):Int×Int->List (Int×Int)->Bool
 |_,[]=>true
 |l,m::ms=> !(decide (m.1<l.1)||decide (m.1>nb)||decide (m.2<l.2)||decide (m.2>nn))&&wb nb nn m ms
structure kQ (s:aB) (l:List TB):Prop where
 len:l.length<=20
 keys:((ah l).map (·.1)).Nodup
 ok:∀x∈l,(0<=x.var/\x.var<20)/\br s x.term=true
 Ha:Tz (ah l)
 Qe:∀x∈l,sX (ah l) x.term
structure ck (s:gG):Prop where
 sig:lH s.sig=true
 Hd:s.aR.length<=12
 TH:s.marks.length<=8
 lZ:kQ s.sig s.binds
 aR:∀n∈s.aR,br s.sig n.a=true/\br s.sig n.b=true/\ ¬DU (ah s.binds) n
 marks:wb s.binds.length s.aR.length (0,0) s.marks=true
structure gG.Fin (s:gG):Prop where
 sig:s.sig.Fits
 bl:s.binds.length<=1000
 nl:s.aR.length<=1000
 ml:s.marks.length<=1000
 bt:∀x∈s.binds,x.term.Fin
 nt:∀n∈s.aR,n.a.Fin/\n.b.Fin
theorem cV{s:aB}{t:Tm}(h:br s t=true):Vs s t/\t.sz<=40/\t.l7<=12:=by
 unfold br iH at h
 simp only[Bool.and_eq_true,List.all_cons,List.all_nil,Bool.and_true]at h
 obtain⟨⟨_,h1⟩,h2⟩:=h
 rw[oV]at h1
 rw[nG h1]at h2
 have h3:=Fk h1
 unfold ew at h1
 rw[Bool.and_eq_true]at h1
 exact⟨⟨h1.2,h2⟩,h3.2⟩
theorem dg{l:List TB}{p:Int×Tm}(h:p∈ah l):∃x∈l,p=(x.var,x.term):=by
 obtain⟨x,hx,rfl⟩:=List.mem_map.1 h
 exact⟨x,hx,rfl⟩
theorem gY{l:List TB}{x:TB}(h:x∈l):(x.var,x.term)∈ah l:=List.mem_map.2 ⟨x,h,rfl⟩
theorem Ca(l:List TB){k:Nat}{x:TB}(h:l[k]? =some x):ah (l.take (k+1))=ah (l.take k)++[(x.var,x.term)]:=by
 unfold ah
 rw[List.take_add_one,h,List.map_append];rfl
theorem nJ{s:aB}{l:List TB}(hk:((ah l).map (·.1)).Nodup)(ho:∀x∈l,(0<=x.var/\x.var<20)/\br s x.term=true)(ha:Tz (ah l)):∃l' ρ R,lX s (ah l) l' ρ R/\kO s l':=
 J9 hk (fun p hp=>by
  obtain⟨x,hx,rfl⟩:=dg hp
  exact⟨(ho x hx).1,(cV (ho x hx).2).1⟩) ha
theorem zp{s:aB}{b:List (Int×Tm)}{l:List TB}{ρ:Int->Nat}{R:Nat}(h:lX s b l ρ R){n:Nt}(ha:Vs s n.a)(hb:Vs s n.b):DU b n↔aZ (ah l) n.a=aZ (ah l) n.b:=by
 have e1:=sF h _ n.a ha (Nat.le_refl _)
 have e2:=sF h _ n.b hb (Nat.le_refl _)
 constructor
 ·rintro⟨f,x,h1,h2⟩
  obtain⟨g,hg⟩:∃g,g=f+(R+3+((aZ (ah l) n.a).sz+(aZ (ah l) n.b).sz)):=⟨_,rfl⟩
  have k1:=gD h1 (show f<=g from ae)
  have k2:=gD h2 (show f<=g from ae)
  rw[gD e1 (show _<=g by omega)]at k1
  rw[gD e2 (show _<=g by omega)]at k2
  exact Option.some.inj (k1.trans k2.symm)
 ·intro h
  refine⟨R+3+((aZ (ah l) n.a).sz+(aZ (ah l) n.b).sz),aZ (ah l) n.a,gD e1 ae, ?_⟩
  rw[h]
  exact gD e2 ae
theorem M4{F:Tm->Int->Option Int}:∀ {ks:List Tm} {n r:Int},n<0->xH F ks n=some r->r=n
 |[],n,r,_,h=>by cases h;rfl
 |k::ks,n,r,hn,h=>by
  simp only[xH]at h
  rw[if_pos hn]at h
  cases h;rfl
theorem Kn{F:Tm->Int->Option Int}{g:Tm->Nat}:∀ {ks:List Tm} {n r:Int},(∀k∈ks,∀m q,F k m=some q->0<=q->(g k:Int)=m - q)->xH F ks n=some r->0<=r->(((ks.map g).sum:Nat):Int)=n - r
 |[],n,r,_,h,_=>by cases h;simp
 |k::ks,n,r,hF,h,hr=>by
  have h0:=h
  simp only[xH]at h
  split at h
  ·cases h;omega
  ·cases e:F k n with
   |none=>rw[e]at h;cases h
   |some q=>
    rw[e]at h
    have hq:0<=q:=by
     rcases Int.lt_or_le q 0 with hq|hq
     ·have:=M4 hq h;omega
     ·exact hq
    have h1:=hF k aG n q e hq
    have h2:=Kn (g:=g) (fun y hy=>hF y mg) h hr
    rw[List.map_cons,List.sum_cons]
    omega
theorem Ko{s:aB}{b:List (Int×Tm)}{l:List TB}{ρ:Int->Nat}{R:Nat}(h:lX s b l ρ R):∀ (f:Nat) (t:Tm) (n:Int) (d:Nat) (r:Int),Vs s t->o6 f b t n d=some r->0<=r->((aZ (ah l) t).sz:Int)=n - r
 |0,_,_,_,_,_,h,_=>by cases h
 |f+1,t,n,d,r,ht,hl,hr=>by
  simp only[o6]at hl
  obtain⟨x,a1,a2,a3,a4,_⟩:=h.root ht
  cases ha:jG f b t with
  |none=>rw[ha]at hl;cases hl
  |some y=>
  have e1:=eK a1 (show R+2<=f+(R+2)from ae)
  rw[eK ha (show f<=f+(R+2) by omega)]at e1
  cases e1
  rw[ha]at hl
  cases d with
  |zero=>cases hl;omega
  |succ d=>
   dsimp only at hl
   have h1:=Kn (g:=fun k=>(aZ (ah l) k).sz) (fun k hk m q hq hq0=>Ko h f k m d q (a2.lW hk) hq hq0) hl hr
   rw[<- a3]
   by_cases hx:x.op=1
   ·have e:=a2.eta hx
    have hk:x.kids=[]:=by rw[e];rfl
    have hv:aZ (ah l) x=x:=by rw[iw a2 hx,show Lv (ah l) x.n= .mk 1 x.n [] by simp[Lv,(h.zN _).1 (a4 hx)]];exact e.symm
    rw[hk]at h1
    rw[hv,Tm.jt,hk]
    simp[qN]at h1|-
    omega
   ·rw[iM hx,Tm.jt]
    have:qN (Tm.mk x.op x.n (x.kids.map (aZ (ah l)))).kids=(x.kids.map fun k=>(aZ (ah l) k).sz).sum:=by
     show qN (x.kids.map (aZ (ah l)))=_
     unfold qN
     rw[List.map_map];rfl
    rw[this]
    omega
theorem Kp{s:aB}{b:List (Int×Tm)}{l:List TB}{ρ:Int->Nat}{R:Nat}(h:lX s b l ρ R){t:Tm}(ht:Vs s t)(hf:sX b t):(aZ (ah l) t).sz<=40:=by
 obtain⟨f,r,h1,h2⟩:=hf
 have:=Ko h f t 40 12 r ht h1 h2
 omega
theorem aar{s:aB}{b:List (Int×Tm)}(hb:∀v,(Lv b v).sz<=40):∀t:Tm,Vs s t->(aZ b t).sz<=40*t.sz:=by
 refine Tm.fg fun t ih ht=> ?_
 by_cases h1:t.op=1
 ·rw[iw ht h1]
  have:=hb t.n
  have:=Tm.rE t
  omega
 ·rw[iM h1,Tm.jt,Tm.jt t]
  show 1+qN (t.kids.map (aZ b))<=40*(1+qN t.kids)
  have key:∀ks:List Tm,(∀k∈ks,(aZ b k).sz<=40*k.sz)->qN (ks.map (aZ b))<=40*qN ks:=by
   intro ks
   induction ks with
   |nil=>intro _;simp[qN]
   |cons k ks DJ=>
    intro h
    have h1:=h k aG
    have h2:=DJ fun y hy=>h y mg
    rw[List.map_cons,qm,qm]
    omega
  have:=key t.kids fun k hk=>ih k hk (ht.lW hk)
  omega
theorem lO{s:aB}{b:List (Int×Tm)}{l:List TB}{ρ:Int->Nat}{R:Nat}(h:lX s b l ρ R)(hf:∀p∈b,sX b p.2){t:Tm}(ht:Vs s t):(aZ (ah l) t).sz<=40*t.sz:=by
 refine aar (fun v=> ?_) t ht
 cases hx:bL b v with
 |none=>
  have:Lv (ah l) v= .mk 1 v []:=by simp[Lv,(h.zN v).1 hx]
  rw[this,Tm.jt]
  simp[Tm.kids,qN]
 |some x=>
  obtain⟨g1,g2,_⟩:=h.ok v x hx
  rw[g2]
  exact Kp h g1 (hf _ (cB hx))
end Go.Proofs.YtlhemmpklhhgoaaGreat
section
namespace Go.Proofs.YtlhemmpklhhgoaaGreat
open Classical in
noncomputable def dY(lim:Bool)(b:List (Int×Tm))(n:Int)(t:Tm):Int×List (Int×Tm):=
 if lY b n t then(5,b)else if lim=true/\ ¬ (∀p∈b++[(n,t)],sX (b++[(n,t)]) p.2)then(3,b++[(n,t)])else(0,b++[(n,t)])
open Classical in
noncomputable def fV(b:List (Int×Tm))(t:Tm):Option Tm:=if h:∃x g,jG g b t=some x then some h.choose else none
theorem cw{b:List (Int×Tm)}{g:Nat}{t x:Tm}(h:jG g b t=some x):fV b t=some x:=by
 have hx:∃x g,jG g b t=some x:=⟨x,g,h⟩
 unfold fV
 rw[dif_pos hx]
 obtain⟨g',h'⟩:=hx.choose_spec
 have e1:=eK h (Nat.le_max_left g g')
 rw[eK h' (Nat.le_max_right g g')]at e1
 exact e1
theorem kR{b:List (Int×Tm)}{t x:Tm}(h:fV b t=some x):∃g,jG g b t=some x:=by
 unfold fV at h
 split at h
 ·rename_i hx
  injection h with h
  subst h
  exact hx.choose_spec
 ·cases h
def np(F:Tm->Tm->List (Int×Tm)->Option (Int×List (Int×Tm))):List Tm->List Tm->List (Int×Tm)->Option (Int×List (Int×Tm))
 |k::ks,k'::dE,b=>match F k k' b with
  |some (e,b1)=>if e=0 then np F ks dE b1 else some (e,b1)
  |none=>none
 |_,_,b=>some (0,b)
noncomputable def iQ(lim:Bool):Nat->Tm->Tm->List (Int×Tm)->Option (Int×List (Int×Tm))
 |0,_,_,_=>none
 |f+1,a,c,b=>match fV b a,fV b c with
  |some x,some y=>
   if x.op=1 then
    if y.op=1 then(if x.n=y.n then some (0,b)else some (dY lim b (max x.n y.n) (.mk 1 (min x.n y.n) [])))
    else some (dY lim b x.n y)
   else if y.op=1 then some (dY lim b y.n x)
   else if x.op=y.op/\x.n=y.n/\x.kids.length=y.kids.length then np (iQ lim f) x.kids y.kids b
   else some (5,b)
  |_,_=>none
noncomputable def jw(lim:Bool)(top:Nat):Nat->List (Tm×Tm)->List (Int×Tm)->Option (Int×List (Int×Tm))
 |0,_,_=>none
 |f+1,[],b=>some (0,b)
 |f+1,(a,c)::st,b=>if st.length≥top then none else match fV b a,fV b c with
  |some x,some y=>
   if x.op=1 then
    if y.op=1 then(if x.n=y.n then jw lim top f st b else
     if(dY lim b (max x.n y.n) (.mk 1 (min x.n y.n) [])).1=0 then jw lim top f st (dY lim b (max x.n y.n) (.mk 1 (min x.n y.n) [])).2 else some (dY lim b (max x.n y.n) (.mk 1 (min x.n y.n) [])))
    else if(dY lim b x.n y).1=0 then jw lim top f st (dY lim b x.n y).2 else some (dY lim b x.n y)
   else if y.op=1 then(if(dY lim b y.n x).1=0 then jw lim top f st (dY lim b y.n x).2 else some (dY lim b y.n x))
   else if x.op=y.op/\x.n=y.n/\x.kids.length=y.kids.length then jw lim top f (x.kids.zip y.kids++st) b
   else some (5,b)
  |_,_=>none
theorem kS{F G:Tm->Tm->List (Int×Tm)->Option (Int×List (Int×Tm))}(B0:∀k k' b r,F k k' b=some r->G k k' b=some r):∀ {ks dE:List Tm} {b:List (Int×Tm)} {r:Int×List (Int×Tm)},np F ks dE b=some r->np G ks dE b=some r
 |[],_,_,_,h=>by simpa[np]using h
 |_::_,[],_,_,h=>by simpa[np]using h
 |k::ks,k'::dE,b,r,h=>by
  simp only[np]at h|-
  cases e:F k k' b with
  |none=>rw[e]at h;cases h
  |some q=>
   rw[e]at h
   rw[B0 _ _ _ _ e]
   dsimp only at h|-
   split at h
   ·rename_i e0;rw[if_pos e0];exact kS B0 h
   ·rename_i e0;rw[if_neg e0];exact h
theorem gE{lim:Bool}:∀ {f g:Nat} {t u:Tm} {b:List (Int×Tm)} {r:Int×List (Int×Tm)},iQ lim f t u b=some r->f<=g->iQ lim g t u b=some r
 |0,_,_,_,_,_,h,_=>by cases h
 |f+1,0,_,_,_,_,h,hg=>ae
 |f+1,g+1,t,u,b,r,h,hg=>by
  simp only[iQ]at h|-
  cases ha:fV b t with
  |none=>rw[ha]at h;cases h
  |some x=>
  cases hc:fV b u with
  |none=>rw[ha,hc]at h;cases h
  |some y=>
  rw[ha,hc]at h
  skip
  dsimp only at h|-
  split at h
  ·rename_i h1;rw[if_pos h1];exact h
  ·rename_i h1
   rw[if_neg h1]
   split at h
   ·rename_i h2;rw[if_pos h2];exact h
   ·rename_i h2
    rw[if_neg h2]
    split at h
    ·rename_i h3;rw[if_pos h3];exact kS (fun k k' b r hk=>gE hk ae) h
    ·rename_i h3;rw[if_neg h3];exact h
theorem fW{lim:Bool}{top:Nat}:∀ {f g:Nat} {st:List (Tm×Tm)} {b:List (Int×Tm)} {r:Int×List (Int×Tm)},jw lim top f st b=some r->f<=g->jw lim top g st b=some r
 |0,_,_,_,_,h,_=>by cases h
 |f+1,0,_,_,_,h,hg=>ae
 |f+1,g+1,[],b,r,h,hg=>h
 |f+1,g+1,(t,u)::st,b,r,h,hg=>by
  simp only[jw]at h|-
  by_cases h0:st.length≥top
  ·rw[if_pos h0]at h;cases h
  rw[if_neg h0]at h|-
  cases ha:fV b t with
  |none=>rw[ha]at h;cases h
  |some x=>
  cases hc:fV b u with
  |none=>rw[ha,hc]at h;cases h
  |some y=>
  rw[ha,hc]at h
  skip
  dsimp only at h|-
  by_cases h1:x.op=1
  ·rw[if_pos h1]at h|-
   by_cases h2:y.op=1
   ·rw[if_pos h2]at h|-
    by_cases h3:x.n=y.n
    ·rw[if_pos h3]at h|-;exact fW h ae
    ·rw[if_neg h3]at h|-
     split at h
     ·rename_i h4;rw[if_pos h4];exact fW h ae
     ·rename_i h4;rw[if_neg h4];exact h
   ·rw[if_neg h2]at h|-
    split at h
    ·rename_i h4;rw[if_pos h4];exact fW h ae
    ·rename_i h4;rw[if_neg h4];exact h
  ·rw[if_neg h1]at h|-
   by_cases h2:y.op=1
   ·rw[if_pos h2]at h|-
    split at h
    ·rename_i h4;rw[if_pos h4];exact fW h ae
    ·rename_i h4;rw[if_neg h4];exact h
   ·rw[if_neg h2]at h|-
    split at h
    ·rename_i h4;rw[if_pos h4];exact fW h ae
    ·rename_i h4;rw[if_neg h4];exact h
theorem DV{lim:Bool}{top W:Nat}{P:Tm->Prop}{I:List (Int×Tm)->Prop}(hP:∀t,P t->t.kids.length<=W/\∀k∈t.kids,P k)(hR:∀b t x,I b->P t->fV b t=some x->P x)
 (hI:∀f t u b b',iQ lim f t u b=some (0,b')->I b->P t->P u->I b'):∀ (f:Nat) (t u:Tm) (b:List (Int×Tm)) (e:Int) (b':List (Int×Tm)),iQ lim f t u b=some (e,b')->I b->P t->P u->∀ (st:List (Tm×Tm)) (n:Nat) (r:Int×List (Int×Tm)),st.length+f*W+1<=top->(if e=0 then jw lim top n st b'=some r else r=(e,b'))->∃m,jw lim top m ((t,u)::st) b=some r
 |0,_,_,_,_,_,h,_,_,_,_,_,_,_,_=>by cases h
 |f+1,t,u,b,e,b',h,TI,hpt,hpu,st,n,r,ac2,hr=>by
  simp only[iQ]at h
  cases ha:fV b t with
  |none=>rw[ha]at h;cases h
  |some x=>
  cases hc:fV b u with
  |none=>rw[ha,hc]at h;cases h
  |some y=>
  rw[ha,hc]at h
  dsimp only at h
  have hpx:=hR b t x TI hpt ha
  have hpy:=hR b u y TI hpu hc
  have jB: ¬st.length≥top:=ae
  have bnd:∀q:Int×List (Int×Tm),q=(e,b')->∀m,n<=m->(if q.1=0 then jw lim top m st q.2 else some q)=some r:=by
   rintro q rfl m hm
   dsimp only
   split
   ·rename_i e0;rw[if_pos e0]at hr;exact fW hr hm
   ·rename_i e0;rw[if_neg e0]at hr;rw[hr]
  by_cases h1:x.op=1
  ·rw[if_pos h1]at h
   by_cases h2:y.op=1
   ·rw[if_pos h2]at h
    by_cases h3:x.n=y.n
    ·rw[if_pos h3]at h
     injection h with h
     injection h with h4 h5
     subst h4;subst h5
     rw[if_pos rfl]at hr
     refine⟨max f n+1, ?_⟩
     simp only[jw]
     rw[if_neg jB,ha,hc]
     dsimp only
     rw[if_pos h1,if_pos h2,if_pos h3]
     exact fW hr (Nat.le_max_right _ _)
    ·rw[if_neg h3]at h
     injection h with h
     refine⟨max f n+1, ?_⟩
     simp only[jw]
     rw[if_neg jB,ha,hc]
     dsimp only
     rw[if_pos h1,if_pos h2,if_neg h3]
     exact H3
   ·rw[if_neg h2]at h
    injection h with h
    refine⟨max f n+1, ?_⟩
    simp only[jw]
    rw[if_neg jB,ha,hc]
    dsimp only
    rw[if_pos h1,if_neg h2]
    exact H3
  ·rw[if_neg h1]at h
   by_cases h2:y.op=1
   ·rw[if_pos h2]at h
    injection h with h
    refine⟨max f n+1, ?_⟩
    simp only[jw]
    rw[if_neg jB,ha,hc]
    dsimp only
    rw[if_neg h1,if_pos h2]
    exact H3
   ·rw[if_neg h2]at h
    by_cases h3:x.op=y.op/\x.n=y.n/\x.kids.length=y.kids.length
    ·rw[if_pos h3]at h
     have hW:(f+1)*W=f*W+W:=by rw[Nat.add_mul,Nat.one_mul]
     have key:∀ (ks dE:List Tm) (b:List (Int×Tm)),(∀k∈ks,P k)->(∀k∈dE,P k)->I b->ks.length<=W->np (iQ lim f) ks dE b=some (e,b')->∃m,jw lim top m (ks.zip dE++st) b=some r:=by
      intro ks
      induction ks with
      |nil=>
       intro dE b _ _ _ _ h
       exact Wy
      |cons k ks ih=>
       intro dE b m1 m2 TI hlk h
       cases dE with
       |nil=>
        exact Wy
       |cons k' dE=>
        simp only[np]at h
        cases he:iQ lim f k k' b with
        |none=>rw[he]at h;cases h
        |some q=>
         obtain⟨e1,b1⟩:=q
         rw[he]at h
         dsimp only at h
         have We:(ks.zip dE++st).length+f*W+1<=top:=by
          rw[List.length_append,List.length_zip]
          rw[List.length_cons]at hlk
          omega
         by_cases e0:e1=0
         ·rw[if_pos e0]at h
          obtain⟨m,hm⟩:=ih dE b1 (fun z hz=>m1 z tz) (fun z hz=>m2 z tz) (hI f k k' b b1 (e0 ▸ he) TI (m1 k aG) (m2 k' aG)) (by rw[List.length_cons]at hlk;omega) h
          exact DV hP hR hI f k k' b e1 b1 he TI (m1 k aG) (m2 k' aG) (ks.zip dE++st) m r We (by rw[if_pos e0];exact hm)
         ·rw[if_neg e0]at h
          injection h with h
          injection h with h4 h5
          subst h4;subst h5
          rw[if_neg e0]at hr
          exact DV hP hR hI f k k' b e1 b1 he TI (m1 k aG) (m2 k' aG) (ks.zip dE++st) n r We (by rw[if_neg e0];exact hr)
     obtain⟨m,hm⟩:=key x.kids y.kids b (hP x hpx).2 (hP y hpy).2 TI (hP x hpx).1 h
     refine⟨max f m+1, ?_⟩
     simp only[jw]
     rw[if_neg jB,ha,hc]
     dsimp only
     rw[if_neg h1,if_neg h2,if_pos h3]
     exact fW hm (Nat.le_max_right _ _)
    ·rw[if_neg h3]at h
     injection h with h
     injection h with h4 h5
     subst h4;subst h5
     rw[if_neg (by omega)]at hr
     subst hr
     refine⟨f+1, ?_⟩
     simp only[jw]
     rw[if_neg jB,ha,hc]
     dsimp only
     rw[if_neg h1,if_neg h2,if_neg h3]
end Go.Proofs.YtlhemmpklhhgoaaGreat
end
namespace Go.Proofs.YtlhemmpklhhgoaaGreat
theorem M5{s:aB}{lim:Bool}{b:List (Int×Tm)}{l:List TB}{ρ:Int->Nat}{R:Nat}(h:lX s b l ρ R):∀ (z:Nat) (t u:Tm),Vs s t->Vs s u->(aZ (ah l) t).sz<=z->aZ (ah l) t=aZ (ah l) u->∃g,iQ lim g t u b=some (0,b):=by
 intro z
 induction z with
 |zero=>intro t u _ _ hz;have:=Tm.rE (aZ (ah l) t);omega
 |succ z ih=>
  intro t u ht hu hz he
  obtain⟨x,a1,a2,a3,a4,_,_⟩:=h.root ht
  obtain⟨y,b1,b2,b3,b4,_,_⟩:=h.root hu
  obtain⟨p1,p2,p3,p4,p5⟩:=tq h a2 a4
  obtain⟨q1,q2,q3,q4,q5⟩:=tq h b2 b4
  have Vd:aZ (ah l) x=aZ (ah l) y:=by rw[a3,b3,he]
  have e1:x.op=y.op:=by rw[<- p1, <- q1,Vd]
  have e2:x.n=y.n:=by rw[<- p2, <- q2,Vd]
  have e3:x.kids.length=y.kids.length:=by rw[<- p3, <- q3,Vd]
  by_cases h1:x.op=1
  ·refine⟨R+3, ?_⟩
   simp only[iQ,cw a1,cw b1,if_pos h1,if_pos (e1 ▸ h1:y.op=1),if_pos e2]
  ·have h2: ¬y.op=1:=e1 ▸ h1
   have key:∀ (ks dE:List Tm),(∀k∈ks,k∈x.kids)->(∀k∈dE,k∈y.kids)->ks.map (aZ (ah l))=dE.map (aZ (ah l))->∃g,np (iQ lim g) ks dE b=some (0,b):=by
    intro ks
    induction ks with
    |nil=>intro dE _ _ _;exact⟨0,by simp only[np]⟩
    |cons k ks DJ=>
     intro dE m1 m2 hm
     cases dE with
     |nil=>exact⟨0,by simp only[np]⟩
     |cons k' dE=>
      rw[List.map_cons,List.map_cons]at hm
      injection hm with Hv K5
      have hk:=m1 k aG
      have hkz:(aZ (ah l) k).sz<=z:=by
       have h3:aZ (ah l) k∈(aZ (ah l) x).kids:=by rw[p5 h1];exact List.mem_map.2 ⟨k,hk,rfl⟩
       have h4:=Tm.mi h3
       rw[a3]at h4
       omega
      obtain⟨g,hg⟩:=ih k k' (a2.lW hk) (b2.lW (m2 k' aG)) hkz Hv
      obtain⟨g2,hg2⟩:=DJ dE (fun y hy=>m1 y mg) (fun y hy=>m2 y mg) K5
      refine⟨max g g2, ?_⟩
      simp only[np]
      rw[gE hg (Nat.le_max_left _ _)]
      exact kS (fun k k' b r hk=>gE hk (Nat.le_max_right _ _)) hg2
   obtain⟨g,hg⟩:=key x.kids y.kids (fun _ h=>h) (fun _ h=>h) (by rw[<- p5 h1, <- q5 h2,Vd])
   refine⟨max g (R+2)+1, ?_⟩
   simp only[iQ]
   rw[cw a1,cw b1]
   simp only[if_neg h1,if_neg h2,if_pos (⟨e1,e2,e3⟩:x.op=y.op/\x.n=y.n/\x.kids.length=y.kids.length)]
   exact kS (fun k k' b r hk=>gE hk (Nat.le_max_left _ _)) hg
def EqR(s:aB)(lim:Bool)(r:List TB×Bool)(e:Int)(b':List (Int×Tm)):Prop:=
 (e=0/\r.2=true/\∃MR R',lX s b' r.1 MR R')\/(e=5/\r.2=false)\/(e=3/\lim=true)
theorem zq{s:aB}{lim:Bool}{b:List (Int×Tm)}{l:List TB}{ρ:Int->Nat}{R:Nat}(h:lX s b l ρ R)(hl:kO s l){n:Int}{y:Tm}(hn:bL b n=none)(hy:Vs s y):
 EqR s lim (jU l n (aZ (ah l) y), !(cA (aZ (ah l) y)).contains n) (dY lim b n y).1 (dY lim b n y).2:=by
 have hc:(cA (aZ (ah l) y)).contains n=true↔fU n (aZ (ah l) y)=true:=by rw[List.contains_iff_mem];exact(dm _).2 _
 have hr:=zh h hl hn hy
 unfold dY
 by_cases h1:lY b n y
 ·rw[if_pos h1]
  exact .inr (.inl ⟨rfl,by rw[hc.2 (hr.2 h1)];rfl⟩)
 ·rw[if_neg h1]
  split
  ·rename_i h2
   exact .inr (.inr ⟨rfl,h2.1⟩)
  ·refine .inl ⟨rfl, ?_,h.ext hl hn hy fun hf=>h1 (hr.1 hf)⟩
   cases hcc:(cA (aZ (ah l) y)).contains n with
   |false=>rfl
   |true=>exact absurd (hr.1 (hc.1 hcc)) h1
theorem Kq{s:aB}{lim:Bool}:∀ (f:Nat) (a c:Tm) (l:List TB) (r:List TB×Bool),l9 f a c l=some r->kO s l->Vs s a->Vs s c->∀ (t u:Tm) (b:List (Int×Tm)) (ρ:Int->Nat) (R:Nat),lX s b l ρ R->Vs s t->Vs s u->aZ (ah l) t=aZ (ah l) a->aZ (ah l) u=aZ (ah l) c->
 ∃g e b',iQ lim g t u b=some (e,b')/\EqR s lim r e b'
 |0,_,_,_,_,h,_,_,_,_,_,_,_,_,_,_,_,_,_=>by cases h
 |f+1,a,c,l,r,h,hl,ha,hc,t,u,b,ρ,R,hs,ht,hu,eta,euc=>by
  obtain⟨x,a1,a2,a3,a4,_,_⟩:=hs.root ht
  obtain⟨y,b1,b2,b3,b4,_,_⟩:=hs.root hu
  obtain⟨p1,p2,p3,p4,p5⟩:=tq hs a2 a4
  obtain⟨q1,q2,q3,q4,q5⟩:=tq hs b2 b4
  have ex:aZ (ah l) a=aZ (ah l) x:=by rw[a3,eta]
  have ey:aZ (ah l) c=aZ (ah l) y:=by rw[b3,euc]
  simp only[l9,ex,ey,p1,q1,p2,q2,p3,q3]at h
  split at h
  ·rename_i ya
   injection h with h
   subst h
   rw[fT]at ya
   obtain⟨g,hg⟩:=M5 (lim:=lim) hs _ t u ht hu (Nat.le_refl _) (by rw[<- a3, <- b3,ya])
   exact⟨g,0,b,hg, .inl ⟨rfl,rfl,ρ,R,hs⟩⟩
  ·rename_i j8
   split at h
   ·rename_i h12
    injection h with h
    subst h
    obtain⟨h1,h2⟩:=h12
    have Vd:x.n≠y.n:=fun e=>j8 (by rw[fT,p4 h1,q4 h2,a2.eta h1,b2.eta h2];rw[e])
    have rx:=a2.range ((hU h1).2 rfl)
    have ry:=b2.range ((hU h2).2 rfl)
    have M6:bL b (max x.n y.n)=none:=by
     rw[Int.max_def];split
     ·exact b4 h2
     ·exact a4 h1
    have lmn:bL b (min x.n y.n)=none:=by
     rw[Int.min_def];split
     ·exact a4 h1
     ·exact b4 h2
    have hvm:aZ (ah l) (.mk 1 (min x.n y.n) [])= .mk 1 (min x.n y.n) []:=by
     rw[oX];simp[Lv,(hs.zN _).1 lmn]
    have hb:=zq (lim:=lim) hs hl M6 (Vs.var (s:=s) (v:=min x.n y.n) ae)
    rw[hvm]at hb
    have Xl:(cA (Tm.mk 1 (min x.n y.n) [])).contains (max x.n y.n)=false:=by
     rw[Bool.eq_false_iff,Ne,List.contains_iff_mem,(dm _).2,m8]
     simp
     omega
    rw[Xl]at hb
    exact⟨R+3,_,_,by simp only[iQ,cw a1,cw b1,if_pos h1,if_pos h2,if_neg Vd],hb⟩
   ·rename_i h12
    split at h
    ·rename_i h1
     injection h with h
     subst h
     have h2: ¬y.op=1:=fun h2=>h12 ⟨h1,h2⟩
     exact⟨R+3,_,_,by simp only[iQ,cw a1,cw b1,if_pos h1,if_neg h2],zq hs hl (a4 h1) b2⟩
    ·rename_i h1
     split at h
     ·rename_i h2
      injection h with h
      subst h
      exact⟨R+3,_,_,by simp only[iQ,cw a1,cw b1,if_neg h1,if_pos h2],zq hs hl (b4 h2) a2⟩
     ·rename_i h2
      split at h
      ·rename_i h3
       injection h with h
       subst h
       refine⟨R+3,5,b, ?_, .inr (.inl ⟨rfl,rfl⟩)⟩
       simp only[iQ,cw a1,cw b1,if_neg h1,if_neg h2]
       rw[if_neg]
       rintro⟨g1,g2,g3⟩
       rcases h3 with h3|h3|h3
       ·exact h3 g1
       ·exact h3 g2
       ·exact h3 g3
      ·rename_i h3
       have lT:x.op=y.op/\x.n=y.n/\x.kids.length=y.kids.length:=⟨Classical.byContradiction fun e=>h3 (Or.inl e),Classical.byContradiction fun e=>h3 (Or.inr (Or.inl e)),Classical.byContradiction fun e=>h3 (Or.inr (Or.inr e))⟩
       have key:∀ (xs ys:List Tm) (l1:List TB) (b:List (Int×Tm)) (ρ:Int->Nat) (R:Nat),(∀k∈xs,Vs s k)->(∀k∈ys,Vs s k)->kO s l1->nU l l1->lX s b l1 ρ R->e9 (l9 f) (xs.map (aZ (ah l))) (ys.map (aZ (ah l))) l1=some r->
        ∃g e b',np (iQ lim g) xs ys b=some (e,b')/\EqR s lim r e b':=by
        intro xs
        induction xs with
        |nil=>intro ys l1 b ρ R _ _ qL _ pg h;simp only[List.map_nil,e9]at h;injection h with h;subst h;exact⟨0,0,b,by simp only[np], .inl ⟨rfl,rfl,ρ,R,pg⟩⟩
        |cons k xs DJ=>
         intro ys l1 b ρ R m1 m2 qL he pg h
         cases ys with
         |nil=>simp only[List.map_nil,List.map_cons,e9]at h;injection h with h;subst h;exact⟨0,0,b,by simp only[np], .inl ⟨rfl,rfl,ρ,R,pg⟩⟩
         |cons k' ys=>
          have vk:=m1 k aG
          have vk':=m2 k' aG
          have vsk:=Vs.sub hl.bd k vk
          have aas:=Vs.sub hl.bd k' vk'
          simp only[List.map_cons,e9]at h
          cases e:l9 f (aZ (ah l) k) (aZ (ah l) k') l1 with
          |none=>rw[e]at h;cases h
          |some r1=>
           obtain⟨g,e1,b',g1,g2⟩:=Kq (lim:=lim) f _ _ l1 r1 e qL vsk aas k k' b ρ R pg vk vk' (he.sub vk).symm (he.sub vk').symm
           obtain⟨l2,ok⟩:=r1
           rw[e]at h
           rcases g2 with⟨e0,rfl,ρ2,R2,Ct⟩|⟨e0,rfl⟩|⟨e0,hlm⟩
           ·simp only at h
            obtain⟨o1,o2⟩:=DI f _ _ l1 l2 e qL vsk aas
            obtain⟨g',e2,b2,k1,k2⟩:=DJ ys l2 b' ρ2 R2 (fun y hy=>m1 y mg) (fun y hy=>m2 y mg) o1 (he.trans hl o2 fun v=>hl.zN) Ct h
            refine⟨max g g',e2,b2, ?_,k2⟩
            simp only[np]
            rw[gE g1 (Nat.le_max_left _ _)]
            dsimp only
            rw[if_pos e0]
            exact kS (fun k k' b r hk=>gE hk (Nat.le_max_right _ _)) k1
           ·simp only at h
            injection h with h
            subst h
            refine⟨g,e1,b', ?_, .inr (.inl ⟨e0,rfl⟩)⟩
            simp only[np,g1]
            rw[if_neg (by omega)]
           ·refine⟨g,e1,b', ?_, .inr (.inr ⟨e0,hlm⟩)⟩
            simp only[np,g1]
            rw[if_neg (by omega)]
       rw[p5 h1,q5 h2]at h
       obtain⟨g,e,b',g1,g2⟩:=key x.kids y.kids l b ρ R (fun k hk=>a2.lW hk) (fun k hk=>b2.lW hk) hl (nU.refl hl) hs h
       refine⟨max g (R+2)+1,e,b', ?_,g2⟩
       simp only[iQ]
       rw[cw a1,cw b1]
       simp only[if_neg h1,if_neg h2,if_pos lT]
       exact kS (fun k k' b r hk=>gE hk (Nat.le_max_left _ _)) g1
end Go.Proofs.YtlhemmpklhhgoaaGreat
namespace Go.Proofs.YtlhemmpklhhgoaaGreat
theorem qC{s:aB}{t:Tm}:br s t=true↔lH s=true/\(t.sz<=40/\t.l7<=12)/\Vs s t:=by
 unfold br iH
 simp only[Bool.and_eq_true,List.all_cons,List.all_nil,Bool.and_true,oV]
 constructor
 ·rintro⟨⟨h1,h2⟩,h3⟩
  rw[nG h2]at h3
  have h4:=Fk h2
  rw[ew,Bool.and_eq_true]at h2
  exact⟨h1,h4.2,h2.2,h3⟩
 ·rintro⟨h1,h2,h3,h4⟩
  have h5:ew s t=true:=by
   rw[ew,Bool.and_eq_true,decide_eq_true_eq,qn]
   exact⟨ae,h3⟩
  exact⟨⟨h1,h5⟩,by rw[nG h5];exact h4⟩
theorem tu{s:aB}{t k:Tm}(h:br s t=true)(hk:k∈t.kids):br s k=true:=by
 obtain⟨h0,⟨h1,h2⟩,h3⟩:=qC.1 h
 have hz:=Tm.mi hk
 have hh:=Tm.tc hk
 exact qC.2 ⟨h0,⟨ae,ae⟩,h3.lW hk⟩
theorem FA{s:aB}(hs:lH s=true){v:Int}(h:0<=v/\v<20):br s (.mk 1 v [])=true:=by
 refine qC.2 ⟨hs,⟨?_, ?_⟩,Vs.var h⟩
 ·rw[Tm.jt];simp[Tm.kids,qN]
 ·rw[Tm.rF];simp[Tm.kids,Tm.iq]
structure Inv (s:aB) (lim:Bool) (b:List (Int×Tm)):Prop where
 ok:∀p∈b,(0<=p.1/\p.1<20)/\br s p.2=true
 Qe:lim=true->∀p∈b,sX b p.2
theorem vj{s:aB}{b:List (Int×Tm)}(hb:∀p∈b,br s p.2=true):∀ (f:Nat) (t x:Tm),jG f b t=some x->br s t=true->br s x=true
 |0,_,_,h,_=>by cases h
 |f+1,t,x,h,ht=>by
  simp only[jG]at h
  split at h
  ·split at h
   ·rename_i y hy;exact vj hb f y x h (hb _ (cB hy))
   ·exact FQ
  ·exact FQ
theorem zr{s:aB}{lim:Bool}{b:List (Int×Tm)}(h:Inv s lim b){n:Int}{y:Tm}(hn:0<=n/\n<20)(hy:br s y=true)(h0:(dY lim b n y).1=0):Inv s lim (dY lim b n y).2/\∃ext,(dY lim b n y).2=b++ext:=by
 unfold dY at h0|-
 split at h0
 ·exact Eg
 ·rename_i h1
  rw[if_neg h1]
  split at h0
  ·exact Eg
  ·rename_i h2
   rw[if_neg h2]
   refine⟨⟨fun p hp=> ?_,fun hl=> ?_⟩,_,rfl⟩
   ·rcases List.mem_append.1 hp with hp|hp
    ·exact h.ok p hp
    ·simp at hp;subst hp;exact⟨hn,hy⟩
   ·exact Classical.byContradiction fun hc=>h2 ⟨hl,hc⟩
theorem nK{s:aB}{t:Tm}(h:br s t=true)(h1:t.op=1):(0<=t.n/\t.n<20)/\t= .mk 1 t.n []:=by
 have hv:=(cV h).1
 exact⟨hv.range ((hU h1).2 rfl),hv.eta h1⟩
theorem eq_inv{s:aB}{lim:Bool}:∀ (f:Nat) (t u:Tm) (b b':List (Int×Tm)),iQ lim f t u b=some (0,b')->Inv s lim b->br s t=true->br s u=true->Inv s lim b'/\∃ext,b'=b++ext
 |0,_,_,_,_,h,_,_,_=>by cases h
 |f+1,t,u,b,b',h,hb,ht,hu=>by
  simp only[iQ]at h
  cases ha:fV b t with
  |none=>rw[ha]at h;cases h
  |some x=>
  cases hc:fV b u with
  |none=>rw[ha,hc]at h;cases h
  |some y=>
  rw[ha,hc]at h
  dsimp only at h
  obtain⟨ga,Kd⟩:=kR ha
  obtain⟨gc,tY⟩:=kR hc
  have hx:=vj (fun p hp=>(hb.ok p hp).2) ga t x Kd ht
  have hy:=vj (fun p hp=>(hb.ok p hp).2) gc u y tY hu
  by_cases h1:x.op=1
  ·obtain⟨rx,ex⟩:=nK hx h1
   rw[if_pos h1]at h
   by_cases h2:y.op=1
   ·obtain⟨ry,ey⟩:=nK hy h2
    rw[if_pos h2]at h
    by_cases h3:x.n=y.n
    ·exact N6
    ·rw[if_neg h3]at h
     injection h with h
     have:=zr hb (n:=max x.n y.n) (y:= .mk 1 (min x.n y.n) []) ae (FA (qC.1 hx).1 ae) (by rw[h])
     rwa [h]at this
   ·rw[if_neg h2]at h
    injection h with h
    have:=zr hb rx hy (by rw[h])
    rwa [h]at this
  ·rw[if_neg h1]at h
   by_cases h2:y.op=1
   ·obtain⟨ry,ey⟩:=nK hy h2
    rw[if_pos h2]at h
    injection h with h
    have:=zr hb ry hx (by rw[h])
    rwa [h]at this
   ·rw[if_neg h2]at h
    split at h
    ·have key:∀ (ks dE:List Tm) (b:List (Int×Tm)),(∀k∈ks,br s k=true)->(∀k∈dE,br s k=true)->Inv s lim b->np (iQ lim f) ks dE b=some (0,b')->Inv s lim b'/\∃ext,b'=b++ext:=by
      intro ks
      induction ks with
      |nil=>
       exact WM
      |cons k ks ih=>
       intro dE b m1 m2 hb h
       cases dE with
       |nil=>
        exact Wg
       |cons k' dE=>
        simp only[np]at h
        cases he:iQ lim f k k' b with
        |none=>rw[he]at h;cases h
        |some q=>
         obtain⟨e1,b1⟩:=q
         rw[he]at h
         dsimp only at h
         by_cases e0:e1=0
         ·rw[if_pos e0]at h
          subst e0
          obtain⟨g1,x1,g2⟩:=eq_inv f k k' b b1 he hb (m1 k aG) (m2 k' aG)
          exact Wn
         ·exact N1
     exact key x.kids y.kids b (fun k hk=>tu hx hk) (fun k hk=>tu hy hk) hb h
    ·injection h with h
     injection h with h _
     exact absurd h cE
def wc(b:List (Int×Tm)):List TB:=b.map fun p=>⟨p.1,p.2⟩
theorem tv(b:List (Int×Tm)):ah (wc b)=b:=by
 unfold ah wc
 rw[List.map_map]
 exact List.map_id _
theorem dZ(l l':List TB):ah (l++l')=ah l++ah l':=List.map_append
theorem FB{s:gG}(h:ck s){a c:Tm}(ha:br s.sig a=true)(hc:br s.sig c=true):∃f e b',iQ true f a c (ah s.binds)=some (e,b')/\((e=0/\∃ext,b'=ah (s.binds++ext)/\kQ s.sig (s.binds++ext))\/e=5\/e=3):=by
 obtain⟨l,ρ,R,hS,hl⟩:=nJ h.lZ.keys h.lZ.ok h.lZ.Ha
 have va:=(cV ha).1
 have vc:=(cV hc).1
 obtain⟨f,r,hr⟩:=G8 _ _ a c l (Nat.le_refl _) (Nat.le_refl _) hl va vc
 obtain⟨g,e,b',h1,h2⟩:=Kq (lim:=true) f a c l r hr hl va vc a c _ ρ R hS va vc rfl rfl
 refine⟨g,e,b',h1, ?_⟩
 rcases h2 with⟨rfl,_,MR,R',He⟩|⟨rfl,_⟩|⟨rfl,_⟩
 ·left
  refine⟨rfl, ?_⟩
  obtain⟨hI,ext,hx⟩:=eq_inv g a c _ b' h1 ⟨fun p hp=>by obtain⟨x,hx,rfl⟩:=dg hp;exact h.lZ.ok x hx,fun _ p hp=>by obtain⟨x,hx,rfl⟩:=dg hp;exact h.lZ.Qe x hx⟩ ha hc
  have hb:b'=ah (s.binds++wc ext):=by rw[dZ,tv,hx]
  have hk:=He.keys
  rw[hb]at hk hI He
  refine⟨wc ext,hb,⟨?_,hk,fun x hx=>hI.ok _ (gY hx),He.Ha,fun x hx=>hI.Qe rfl _ (gY hx)⟩⟩
  have:=DM hk fun v hv=>by
   obtain⟨p,hp,rfl⟩:=List.mem_map.1 hv
   exact(hI.ok p hp).1
  rw[List.length_map]at this
  unfold ah at this
  rwa [List.length_map]at this
 ·exact .inr (.inl rfl)
 ·exact .inr (.inr rfl)
end Go.Proofs.YtlhemmpklhhgoaaGreat
