/-
  A PART. Conditions: none.
-/
import Derived.Test.YtnkamdiiakdkgaaGreatEe10
set_option linter.unusedSimpArgs false
set_option linter.unusedVariables false
set_option maxHeartbeats 8000000
namespace Go.Proofs.YtnkamdiiakdkgaaGreat
abbrev D.i (n:Int):D:= .int .i64 n
structure jX where
 name:List UInt8
 args:Int
structure cB where
 cons:List jX
 bX:List jX
inductive Tm where
 |mk (op n:Int) (kids:List Tm)
 deriving Inhabited
structure TB where
 var:Int
 term:Tm
def Tm.op:Tm->Int| .mk op _ _=>op
def Tm.n:Tm->Int| .mk _ n _=>n
def Tm.kids:Tm->List Tm| .mk _ _ l=>l
theorem Tm.ind {P:Tm->Prop}(h:∀op n kids,(∀k∈kids,P k)->P (.mk op n kids)):∀t,P t:=
 fun t=>Tm.rec (motive_1:=P) (motive_2:=fun l=>∀k∈l,P k) (fun op n kids ih=>h op n kids ih) (fun _ h=>by cases h)
  (fun x l hx hl k hk=>(List.mem_cons.1 hk).elim (fun e=>e ▸ hx) (hl k)) t
mutual
def Tm.d:Tm->D
 | .mk op n kids=> .agg [.i op, .i n, .sl (Tm.ds kids)]
def Tm.ds:List Tm->List D
 |[]=>[]
 |t::l=>t.d::Tm.ds l
end
theorem Tm.Hg:∀l:List Tm,Tm.ds l=l.map Tm.d
 |[]=>rfl
 |t::l=>by simp[Tm.ds,Tm.Hg l]
theorem Tm.aeq (t:Tm):t.d= .agg [.i t.op, .i t.n, .sl (t.kids.map Tm.d)]:=by cases t;simp[Tm.d,Tm.Hg,Tm.op,Tm.n,Tm.kids]
@[go_sem] theorem Tm.ahR (t:Tm):D.agg [.i t.op, .i t.n, .sl (t.kids.map Tm.d)]=t.d:=(Tm.aeq t).symm
@[go_sem] theorem Tm.agZ (t:Tm):D.cells t.d=[.i t.op, .i t.n, .sl (t.kids.map Tm.d)]:=by rw[Tm.aeq];rfl
theorem Tm.eJ {P:Tm->Prop}(h:∀t:Tm,(∀k∈t.kids,P k)->P t):∀t,P t:=Tm.ind fun op n kids ih=>h (.mk op n kids) ih
theorem Tm.B4 (op n:Int)(l:List Tm):(Tm.mk op n l).d= .agg [.i op, .i n, .sl (l.map Tm.d)]:=by simp[Tm.d,Tm.Hg]
@[reducible] def jX.d (x:jX):D:= .agg [.str x.name, .i x.args]
@[reducible] def cB.d (s:cB):D:= .agg [.sl (s.cons.map jX.d), .sl (s.bX.map jX.d)]
mutual
def Tm.fits:Tm->Prop
 | .mk _ _ kids=>kids.length<=9223372036854775807/\Tm.Es kids
def Tm.Es:List Tm->Prop
 |[]=>True
 |t::l=>t.fits/\Tm.Es l
end
theorem Tm.Ap:∀l:List Tm,Tm.Es l↔∀k∈l,k.fits
 |[]=>by simp[Tm.Es]
 |t::l=>by simp[Tm.Es,Tm.Ap l]
theorem Tm.bK (t:Tm):t.fits↔t.kids.length<=9223372036854775807/\∀k∈t.kids,k.fits:=by cases t;simp[Tm.fits,Tm.Ap,Tm.kids]
mutual
def Tm.nK:Tm->Nat
 | .mk _ _ kids=>1+Tm.nr kids
def Tm.nr:List Tm->Nat
 |[]=>0
 |k::l=>Nat.max k.nK (Tm.nr l)
end
theorem Tm.Et:∀ {l:List Tm} {k:Tm},k∈l->k.nK<=Tm.nr l
 |x::l,k,h=>by
  simp only[Tm.nr]
  rcases List.mem_cons.1 h with rfl|h
  ·exact Nat.le_max_left _ _
  ·exact Nat.le_trans (Tm.Et h) (Nat.le_max_right _ _)
theorem Tm.pI {t k:Tm}(h:k∈t.kids):k.nK+1<=t.nK:=by
 cases t;simp only[Tm.kids]at h;simp only[Tm.nK];have:=Tm.Et h;omega
mutual
def pre:Tm->Int->List (Tm×Int)
 | .mk op n kids,d=>(.mk op n kids,d)::Su kids (d+1)
def Su:List Tm->Int->List (Tm×Int)
 |[],_=>[]
 |k::l,d=>pre k d++Su l d
end
theorem Lw(l:List Tm)(d:Int):Su l d=l.flatMap fun k=>pre k d:=by
 induction l with
 |nil=>rfl
 |cons k l ih=>simp[Su,ih]
theorem kS(t:Tm)(d:Int):pre t d=(t,d)::t.kids.flatMap fun k=>pre k (d+1):=by cases t;simp[pre,Lw,Tm.kids]
def ft(n low high:Int):Bool:=decide (low<=n)&&decide (n<=high)
def letterF(b:UInt8):Bool:= !((decide ((b.toNat:Int)<97)||decide (122<(b.toNat:Int)))&&(decide ((b.toNat:Int)<65)||decide (90<(b.toNat:Int))))
def kT(s:List UInt8):Bool:=s.all letterF&&ft s.length 1 8
def cC:List jX->List (List UInt8)->Option (List (List UInt8))
 |[],before=>some before
 |x::l,before=>if before.any (· ==x.name)then none else if(!kT x.name|| !ft x.args 0 4)=true then none else cC l (before++[x.name])
def fB:List UInt8:=[70,97,108,115,101]
def tB:List UInt8:=[84,114,117,101]
def nT(x:jX)(s:List UInt8):Bool:=x.name==s&&x.args==0
def ke(s:cB):Bool:=
 if(!ft s.cons.length 2 12||decide (8<(s.bX.length:Int)))=true then false else
 match s.cons with
 |a::b::_=>if(!nT a fB|| !nT b tB)=true then false else
  match cC s.cons []with
  |none=>false
  |some l=>(cC s.bX l).isSome
 |_=>false
mutual
def jz:Tm->Int->Int->Int
 | .mk _ _ kids,left,depth=>if left<1\/depth<1 then -1 else cV kids (left - 1) (depth - 1)
def cV:List Tm->Int->Int->Int
 |[],left,_=>left
 |k::l,left,depth=>if 0<=left then cV l (jz k left depth) depth else left
end
def ji(l:List jX)(n:Int):Int:=match l[n.toNat]? with|some x=>x.args|none=>0
def bJ(s:cB)(t:Tm):Bool:=
 let k:Int:=t.kids.length
 if t.op=1 then k==0&&ft t.n 0 19
 else if t.op=2 then k==0&&ft t.n (-1000000) 1000000
 else if t.op=3 then ft t.n 0 (s.cons.length - 1)&&k==ji s.cons t.n
 else if t.op=4 then ft t.n 0 (s.bX.length - 1)&&k==ji s.bX t.n
 else if t.op=5 then ft t.n 0 (s.bX.length - 1)&&decide (k<ji s.bX t.n)
 else if t.op=8 then k==2&&ft t.n 0 19
 else if(ft t.op 6 15)=true then k==2&&t.n==0
 else false
mutual
def kU(s:cB):Tm->Bool
 | .mk op n kids=>bJ s (.mk op n kids)&&vS s kids
def vS(s:cB):List Tm->Bool
 |[]=>true
 |k::l=>kU s k&&vS s l
end
def gD(s:cB)(t:Tm):Bool:=decide (0<=jz t 40 12)&&kU s t
mutual
def iK:Tm->Tm->Bool
 | .mk op n kids, .mk op' n' V5=>op==op'&&n==n'&&kids.length==V5.length&&jR kids V5
def jR:List Tm->List Tm->Bool
 |[],_=>true
 |k::l,k'::l'=>iK k k'&&jR l l'
 |_::_,[]=>true
end
def ma(t:Tm):Bool:=decide (0<=jz t 50 14)
def gJ(l:List jX):Bool:=l.all fun x=>decide ((x.name.length:Int)<=30)
def jj(s:cB):Bool:= !(decide (16<(s.cons.length:Int))||decide (12<(s.bX.length:Int)))&&gJ s.cons&&gJ s.bX
structure cu where
 f:Int
 t:Int
 l:Bool
@[reducible] def cu.d (a:cu):D:= .agg [.i a.f, .i a.t, .bool a.l]
def cu.k (a:cu):Nat:=(a.f*4+a.t).toNat
def cu.v (a:cu):Int:=if a.l=true then 2 else 1
def cu.Ra (a:cu):Prop:=0<=a.f/\a.f<4/\0<=a.t/\a.t<4
def lD:List cu->Int->List Int->Option (List Int)
 |[],_,m=>some m
 |a::l,last,m=>if a.f<0\/4<=a.f\/a.t<0\/4<=a.t\/a.f*4+a.t<=last then none else lD l (a.f*4+a.t) (m.set a.k a.v)
def Aq:List Int:=[0,0,0,0,0,0,0,0,0,0,0,0,0,0,0,0]
def uR:Int->List cu->Prop
 |_,[]=>True
 |last,a::l=>a.Ra/\last<a.f*4+a.t/\uR (a.f*4+a.t) l
theorem rZ:∀ (l:List cu) (last:Int) (m:List Int),(lD l last m).isSome=true↔uR last l
 |[],_,_=>by simp[lD,uR]
 |a::l,last,m=>by
  have ih:=rZ l (a.f*4+a.t) (m.set a.k a.v)
  unfold lD uR cu.Ra
  split
  ·rename_i h
   simp only[Option.isSome_none,Bool.false_eq_true,false_iff]
   rintro⟨⟨h1,h2,h3,h4⟩,h5,_⟩
   omega
  ·rename_i h
   rw[ih]
   constructor
   ·intro h2;exact⟨ae,ae,h2⟩
   ·intro h2;exact h2.2.2
theorem ku:∀ (l:List cu) (last:Int),uR last l->∀a∈l,a.Ra/\last<a.f*4+a.t
 |[],_,_,a,h=>by cases h
 |b::l,last,hs,a,h=>by
  obtain⟨h1,h2,h3⟩:=hs
  rcases List.mem_cons.1 h with rfl|h
  ·exact⟨h1,h2⟩
  ·have:=ku l _ h3 a h
   exact⟨this.1,ae⟩
theorem Jj:∀ (l:List cu) (last:Int) (m m':List Int),m.length=16->lD l last m=some m'->m'.length=16/\∀p,p<16->m'[p]? =(match l.find? (fun a=>a.k==p)with|some a=>some a.v|none=>m[p]?)
 |[],_,m,m',hm,h=>by simp only[lD,Option.some.injEq]at h;subst h;exact⟨hm,fun p _=>rfl⟩
 |a::l,last,m,m',hm,h=>by
  have hs:uR last (a::l):=(rZ _ _ m).1 (by rw[h];rfl)
  obtain⟨h1,h2,h3⟩:=hs
  unfold lD at h
  rw[if_neg (by unfold cu.Ra at h1;omega)]at h
  obtain⟨e1,e2⟩:=Jj l _ _ m' (by simpa using hm) h
  refine⟨e1,fun p hp=> ?_⟩
  rw[e2 p hp,List.find?_cons]
  by_cases e:a.k=p
  ·have e':(a.k==p)=true:=by simpa using e
   rw[e']
   have:l.find? (fun a=>a.k==p)=none:=by
    rw[List.find?_eq_none]
    intro b hb
    have h4:=ku l _ h3 b hb
    have h5:=h4.1
    unfold cu.Ra at h1 h5
    simp only[beq_iff_eq]
    unfold cu.k at e|-
    omega
   rw[this]
   simp only
   rw[List.getElem?_set,if_pos e,if_pos (by rw[hm];omega)]
  ·have e':(a.k==p)=false:=by simpa using e
   rw[e']
   simp only
   cases l.find? (fun a=>a.k==p)with
   |some b=>rfl
   |none=>
    simp only
    rw[List.getElem?_set,if_neg e]
def vx(a b:List Int)(i j:Nat)(acc:Int)(k:Nat):Int:=
 if a.getD (i*4+k) 0≠0/\b.getD (k*4+j) 0≠0 then max (max acc (a.getD (i*4+k) 0)) (b.getD (k*4+j) 0)else acc
def dy(a b:List Int)(i j:Nat)(n:Nat):Int:=(List.range n).foldl (vx a b i j) 0
def p8(a b:List cu)(i j:Int):Bool×Bool:=
 (a.any fun x=>b.any fun y=>x.f==i&&x.t==y.f&&y.t==j,a.any fun x=>b.any fun y=>(x.f==i&&x.t==y.f&&y.t==j)&&(x.l||y.l))
def OI(l:List cu)(m:List Int):Prop:=∀i k:Nat,i<4->k<4->(m.getD (i*4+k) 0≠0↔∃x∈l,x.f=i/\x.t=k)/\(m.getD (i*4+k) 0=2↔∃x∈l,x.f=i/\x.t=k/\x.l=true)/\0<=m.getD (i*4+k) 0/\m.getD (i*4+k) 0<=2
theorem Jk{l:List cu}{m:List Int}(h:lD l (-1) Aq=some m):m.length=16/\OI l m:=by
 have hs:uR (-1) l:=(rZ _ _ Aq).1 (by rw[h];rfl)
 obtain⟨e1,e2⟩:=Jj l _ _ m rfl h
 refine⟨e1,fun i k hi hk=> ?_⟩
 have hp:i*4+k<16:=ae
 have e3:=e2 _ hp
 have z0:Aq[i*4+k]? =some 0:=by
  have:∀p,p<16->Aq[p]? =some 0:=bG
  exact this _ hp
 have key:∀x∈l,(x.k=i*4+k↔x.f=i/\x.t=k):=fun x hx=>by
  have h1:=(ku l _ hs x hx).1
  unfold cu.Ra at h1
  unfold cu.k
  omega
 rw[List.getD_eq_getElem?_getD,e3]
 cases hf:l.find? (fun a=>a.k==i*4+k)with
 |some x=>
  have hx:=List.mem_of_find?_eq_some hf
  have IE:=List.find?_some hf
  simp only[beq_iff_eq]at IE
  have hx2:=(key x hx).1 IE
  simp only[Option.getD_some]
  unfold cu.v
  have uniq:∀y∈l,y.f=i/\y.t=k->y.l=x.l:=by
   intro y hy hyk
   have:∀ (l:List cu) (last:Int),uR last l->∀x∈l,∀y∈l,x.f=y.f->x.t=y.t->y=x:=by
    intro l
    induction l with
    |nil=>intro _ _ x hx;cases hx
    |cons a l ih=>
     intro last hs x hx y hy h1 h2
     obtain⟨g1,g2,g3⟩:=hs
     rcases List.mem_cons.1 hx with e1|wX
     ·rcases List.mem_cons.1 hy with e2|Lj
      ·rw[e1,e2]
      ·have:=(ku l _ g3 y Lj).2;rw[<- e1]at this;omega
     ·rcases List.mem_cons.1 hy with e2|Lj
      ·have:=(ku l _ g3 x wX).2;rw[<- e2]at this;omega
      ·exact ih _ g3 x wX y Lj h1 h2
   rw[this l _ hs x hx y hy (by omega) (by omega)]
  refine⟨⟨fun _=>⟨x,hx,hx2.1,hx2.2⟩,fun _=>by split<;>decide⟩,⟨fun h=>⟨x,hx,hx2.1,hx2.2, ?_⟩,fun h=> ?_⟩,by split<;>decide,by split<;>decide⟩
  ·cases hl:x.l with
   |true=>rfl
   |false=>rw[hl]at h;simp at h
  ·obtain⟨y,hy,h1,h2,h3⟩:=h
   rw[<- uniq y hy ⟨h1,h2⟩,h3];rfl
 |none=>
  rw[List.find?_eq_none]at hf
  simp only[z0,Option.getD_some]
  refine⟨⟨fun h=>absurd rfl h,fun⟨x,hx,h⟩=>absurd ((key x hx).2 h) (by simpa using hf x hx)⟩,⟨(fun h=>by cases h),fun⟨x,hx,h1,h2,_⟩=>absurd ((key x hx).2 ⟨h1,h2⟩) (by simpa using hf x hx)⟩,bG,bG⟩
theorem Sv{a b:List cu}{m n:List Int}(hm:OI a m)(hn:OI b n)(ha:∀x∈a,x.Ra)(i j:Nat)(hi:i<4)(hj:j<4):
 (dy m n i j 4≠0↔(p8 a b i j).1=true)/\(dy m n i j 4=2↔(p8 a b i j).2=true)/\0<=dy m n i j 4/\dy m n i j 4<=2:=by
 have key:∀q,q<=4->(dy m n i j q≠0↔∃k:Nat,k<q/\(∃x∈a,x.f=i/\x.t=k)/\∃y∈b,y.f=k/\y.t=j)/\(dy m n i j q=2↔∃k:Nat,k<q/\∃x∈a,∃y∈b,x.f=i/\x.t=k/\y.f=k/\y.t=j/\(x.l||y.l)=true)/\0<=dy m n i j q/\dy m n i j q<=2:=by
  intro q
  induction q with
  |zero=>intro _;simp[dy]
  |succ q ih=>
   intro hq
   obtain⟨i1,i2,i3,i4⟩:=ih ae
   have e:dy m n i j (q+1)=vx m n i j (dy m n i j q) q:=by
    exact XP
   obtain⟨a1,a2,a3,a4⟩:=hm i q hi ae
   obtain⟨b1,b2,b3,b4⟩:=hn q j ae hj
   rw[e]
   unfold vx
   by_cases h:m.getD (i*4+q) 0≠0/\n.getD (q*4+j) 0≠0
   ·rw[if_pos h]
    obtain⟨x,hx,x1,x2⟩:=a1.1 h.1
    obtain⟨y,hy,y1,y2⟩:=b1.1 h.2
    refine⟨⟨fun _=>⟨q,ae,⟨x,hx,x1,x2⟩,y,hy,y1,y2⟩,fun _=>ae⟩,⟨fun h2=> ?_,fun h2=> ?_⟩,ae,ae⟩
    ·rcases(by omega:dy m n i j q=2\/m.getD (i*4+q) 0=2\/n.getD (q*4+j) 0=2)with g|g|g
     ·obtain⟨k,k1,k2⟩:=i2.1 g
      exact Iv
     ·obtain⟨x',wX,z1,z2,z3⟩:=a2.1 g
      exact⟨q,ae,x',wX,y,hy,z1,z2,y1,y2,by rw[z3];rfl⟩
     ·obtain⟨y',Lj,z1,z2,z3⟩:=b2.1 g
      exact⟨q,ae,x,hx,y',Lj,x1,x2,z1,z2,by rw[z3];simp⟩
    ·obtain⟨k,k1,x',wX,y',Lj,z1,z2,z3,z4,z5⟩:=h2
     rcases(by omega:k<q\/k=q)with g|g
     ·have:=i2.2 ⟨k,g,x',wX,y',Lj,z1,z2,z3,z4,z5⟩
      omega
     ·subst g
      rw[Bool.or_eq_true]at z5
      rcases z5 with z5|z5
      ·have:=a2.2 ⟨x',wX,z1,z2,z5⟩;omega
      ·have:=b2.2 ⟨y',Lj,z3,z4,z5⟩;omega
   ·rw[if_neg h]
    refine⟨⟨fun h2=> ?_,fun h2=> ?_⟩,⟨fun h2=> ?_,fun h2=> ?_⟩,i3,i4⟩
    ·obtain⟨k,k1,k2⟩:=i1.1 h2
     exact Iv
    ·obtain⟨k,k1,k2,k3⟩:=h2
     rcases(by omega:k<q\/k=q)with g|g
     ·exact i1.2 ⟨k,g,k2,k3⟩
     ·subst g;exact absurd ⟨a1.2 k2,b1.2 k3⟩ h
    ·obtain⟨k,k1,k2⟩:=i2.1 h2
     exact Iv
    ·obtain⟨k,k1,x',wX,y',Lj,z1,z2,z3,z4,z5⟩:=h2
     rcases(by omega:k<q\/k=q)with g|g
     ·exact i2.2 ⟨k,g,x',wX,y',Lj,z1,z2,z3,z4,z5⟩
     ·subst g;exact absurd ⟨a1.2 ⟨x',wX,z1,z2⟩,b1.2 ⟨y',Lj,z3,z4⟩⟩ h
 obtain⟨k1,k2,k3,k4⟩:=key 4 (Nat.le_refl _)
 refine⟨k1.trans ?_,k2.trans ?_,k3,k4⟩
 ·simp only[p8,List.any_eq_true,Bool.and_eq_true,beq_iff_eq]
  constructor
  ·rintro⟨k,_,⟨x,hx,x1,x2⟩,y,hy,y1,y2⟩
   exact⟨x,hx,y,hy,⟨x1,ae⟩,y2⟩
  ·rintro⟨x,hx,y,hy,⟨x1,x2⟩,y2⟩
   have h1:=ha x hx
   unfold cu.Ra at h1
   exact⟨x.t.toNat,ae,⟨x,hx,x1,ae⟩,y,hy,ae,y2⟩
 ·simp only[p8,List.any_eq_true,Bool.and_eq_true,beq_iff_eq]
  constructor
  ·rintro⟨k,_,x,hx,y,hy,x1,x2,y1,y2,h5⟩
   exact⟨x,hx,y,hy,⟨⟨x1,ae⟩,y2⟩,h5⟩
  ·rintro⟨x,hx,y,hy,⟨⟨x1,x2⟩,y2⟩,h5⟩
   have h1:=ha x hx
   unfold cu.Ra at h1
   exact⟨x.t.toNat,ae,x,hx,y,hy,x1,ae,ae,y2,h5⟩
def dn(m n:List Int):List Int:=(List.range 16).map fun p=>dy m n (p/4) (p%4) 4
def cn(m:List Int)(q:Nat):List cu:=(List.range q).filterMap fun p=>if m.getD p 0≠0 then some ⟨(p/4:Nat),(p%4:Nat),m.getD p 0==2⟩else none
def tS(a b:List cu)(q:Nat):List cu:=(List.range q).filterMap fun p=>if(p8 a b (p/4:Nat) (p%4:Nat)).1=true then some ⟨(p/4:Nat),(p%4:Nat),(p8 a b (p/4:Nat) (p%4:Nat)).2⟩else none
theorem xr{α β:Type}{f g:α->Option β}:∀ {l:List α},(∀x∈l,f x=g x)->l.filterMap f=l.filterMap g
 |[],_=>rfl
 |x::l,h=>by
  have ih:=xr (l:=l) fun y hy=>h y mj
  rw[List.filterMap_cons,List.filterMap_cons,h x (by simp),ih]
theorem OJ{a b:List cu}{m n:List Int}(h1:lD a (-1) Aq=some m)(h2:lD b (-1) Aq=some n):cn (dn m n) 16=tS a b 16:=by
 obtain⟨_,hm⟩:=Jk h1
 obtain⟨_,hn⟩:=Jk h2
 have ha:∀x∈a,x.Ra:=fun x hx=>(ku a (-1) ((rZ _ _ Aq).1 wx) x hx).1
 unfold cn tS
 refine xr fun p hp=> ?_
 have hp:p<16:=by simpa using hp
 have e:(dn m n).getD p 0=dy m n (p/4) (p%4) 4:=by
  unfold dn
  rw[List.getD_eq_getElem?_getD,List.getElem?_map,List.getElem?_range hp];rfl
 obtain⟨k1,k2,k3,k4⟩:=Sv hm hn ha (p/4) (p%4) ae ae
 rw[e]
 by_cases h:dy m n (p/4) (p%4) 4≠0
 ·rw[if_pos h,if_pos (k1.1 h)]
  have:(dy m n (p/4) (p%4) 4==2)=(p8 a b (p/4:Nat) (p%4:Nat)).2:=by
   rw[Bool.eq_iff_iff,beq_iff_eq];exact k2
  rw[this]
 ·rw[if_neg h,if_neg (fun h2=>h (k1.2 h2))]
def lE(m n:List Int)(i k j:Nat):List Int:=(List.range 16).map fun p=>if p/4<i then dy m n (p/4) (p%4) 4 else if p/4=i then dy m n (p/4) (p%4) (if p%4<j then k+1 else k)else 0
theorem gE(m n:List Int)(i k j:Nat):(lE m n i k j).length=16:=by simp[lE]
theorem kV(m n:List Int)(i k j p:Nat)(hp:p<16):(lE m n i k j)[p]? =some (if p/4<i then dy m n (p/4) (p%4) 4 else if p/4=i then dy m n (p/4) (p%4) (if p%4<j then k+1 else k)else 0):=by
 unfold lE;rw[List.getElem?_map,List.getElem?_range hp];rfl
theorem jA{l l':List Int}(h1:l.length=16)(h2:l'.length=16)(h:∀p,p<16->l[p]? =l'[p]?):l=l':=by
 apply List.ext_getElem?
 intro p
 by_cases hp:p<16
 ·exact h p hp
 ·rw[List.getElem?_eq_none (by omega),List.getElem?_eq_none (by omega)]
theorem outS_0(m n:List Int):lE m n 0 0 0=Aq:=by rfl
theorem Zc(m n:List Int)(i k:Nat):lE m n i k 4=lE m n i (k+1) 0:=by
 refine jA (gE ..) (gE ..) fun p hp=> ?_
 rw[kV _ _ _ _ _ _ hp,kV _ _ _ _ _ _ hp,if_pos (Nat.mod_lt p (by omega)),if_neg (Nat.not_lt_zero _)]
theorem Zd(m n:List Int)(i:Nat):lE m n i 4 0=lE m n (i+1) 0 0:=by
 refine jA (gE ..) (gE ..) fun p hp=> ?_
 rw[kV _ _ _ _ _ _ hp,kV _ _ _ _ _ _ hp,if_neg (Nat.not_lt_zero _)]
 by_cases h1:p/4<i
 ·rw[if_pos h1,if_pos (by omega)]
 ·rw[if_neg h1]
  by_cases h2:p/4=i
  ·rw[if_pos h2,if_pos (by omega)]
  ·rw[if_neg h2,if_neg (by omega)]
   split<;>rfl
theorem Ze(m n:List Int):lE m n 4 0 0=dn m n:=by
 unfold lE dn
 apply List.map_congr_left
 intro p hp
 have hp:p<16:=by simpa using hp
 rw[if_pos (by omega)]
theorem OK(m n:List Int)(i j k:Nat):dy m n i j (k+1)=vx m n i j (dy m n i j k) k:=by
 exact XP
theorem Jl(m n:List Int)(i k j:Nat)(hi:i<4)(hj:j<4):(lE m n i k j)[i*4+j]? =some (dy m n i j k):=by
 rw[kV _ _ _ _ _ _ (by omega)]
 have e1:(i*4+j)/4=i:=ae
 have e2:(i*4+j)%4=j:=ae
 rw[e1,e2,if_neg (Nat.lt_irrefl _),if_pos rfl,if_neg (Nat.lt_irrefl _)]
theorem Lx(m n:List Int)(i k j:Nat)(hi:i<4)(hj:j<4):lE m n i k (j+1)=(lE m n i k j).set (i*4+j) (vx m n i j (dy m n i j k) k):=by
 refine jA (gE ..) (by rw[List.length_set];exact gE ..) fun p hp=> ?_
 rw[List.getElem?_set,kV _ _ _ _ _ _ hp]
 by_cases h:i*4+j=p
 ·rw[if_pos h,if_pos (show i*4+j<(lE m n i k j).length by rw[gE];omega)]
  have e1:p/4=i:=ae
  have e2:p%4=j:=ae
  rw[e1,e2,if_neg (Nat.lt_irrefl _),if_pos rfl,if_pos (by omega),OK]
 ·rw[if_neg h,kV _ _ _ _ _ _ hp]
  by_cases h1:p/4=i
  ·by_cases h2:p%4<j
   ·rw[if_pos (by omega:p%4<j+1),if_pos h2]
   ·rw[if_neg (by omega: ¬p%4<j+1),if_neg h2]
  ·rw[if_neg h1,if_neg h1]
theorem OL(m:List Int)(q:Nat):cn m (q+1)=cn m q++(if m.getD q 0≠0 then [⟨(q/4:Nat),(q%4:Nat),m.getD q 0==2⟩]else []):=by
 unfold cn
 rw[List.range_succ,List.filterMap_append]
 congr 1
 by_cases h:m.getD q 0≠0
 ·exact Us
 ·exact Ut
theorem OM(a b:List cu)(q:Nat):tS a b (q+1)=tS a b q++(if(p8 a b (q/4:Nat) (q%4:Nat)).1=true then [⟨(q/4:Nat),(q%4:Nat),(p8 a b (q/4:Nat) (q%4:Nat)).2⟩]else []):=by
 unfold tS
 rw[List.range_succ,List.filterMap_append]
 congr 1
 by_cases h:(p8 a b (q/4:Nat) (q%4:Nat)).1=true
 ·exact Us
 ·exact Ut
theorem eK(m:List Int)(q:Nat):(cn m q).length<=q:=by
 unfold cn
 have:=List.length_filterMap_le (fun p=>if m.getD p 0≠0 then some (⟨(p/4:Nat),(p%4:Nat),m.getD p 0==2⟩:cu)else none) (List.range q)
 simpa using this
def il(m:List Int):Prop:=m.length=16/\∀x∈m,0<=x/\x<=2
def mg(m:List Int)(i j:Nat):Int:=m.getD (i*4+j) 0
theorem B5{m:List Int}(h:il m)(i j:Nat):0<=mg m i j/\mg m i j<=2:=by
 unfold mg
 rw[List.getD_eq_getElem?_getD]
 cases e:m[i*4+j]? with
 |none=>simp
 |some x=>exact h.2 x (List.mem_of_getElem? e)
theorem Jm{m n:List Int}(hm:il m)(hn:il n)(h:∀i j,i<4->j<4->(mg m i j≠0↔mg n i j≠0)/\(mg m i j=2↔mg n i j=2)):m=n:=by
 apply List.ext_getElem (by rw[hm.1,hn.1])
 intro p h1 h2
 have e:=h (p/4) (p%4) (by rw[hm.1]at h1;omega) ae
 have a1:=B5 hm (p/4) (p%4)
 have a2:=B5 hn (p/4) (p%4)
 have e1:mg m (p/4) (p%4)=m[p]:=by
  unfold mg;rw[show p/4*4+p%4=p by omega,List.getD_eq_getElem?_getD,List.getElem?_eq_getElem h1];rfl
 have e2:mg n (p/4) (p%4)=n[p]:=by
  unfold mg;rw[show p/4*4+p%4=p by omega,List.getD_eq_getElem?_getD,List.getElem?_eq_getElem h2];rfl
 rw[<- e1, <- e2];omega
theorem mx3(P a b:Int)(h1:0<=P)(h2:P<=2)(h3:0<=a)(h4:a<=2)(h5:0<=b)(h6:b<=2)(h7:a≠0):max (max P a) b≠0/\(max (max P a) b=2↔P=2\/a=2\/b=2)/\0<=max (max P a) b/\max (max P a) b<=2:=ae
theorem vT{m n:List Int}(hm:il m)(hn:il n)(i j:Nat):∀q,(dy m n i j q≠0↔∃k,k<q/\mg m i k≠0/\mg n k j≠0)/\(dy m n i j q=2↔∃k,k<q/\mg m i k≠0/\mg n k j≠0/\(mg m i k=2\/mg n k j=2))/\0<=dy m n i j q/\dy m n i j q<=2
 |0=>by simp[dy]
 |q+1=>by
  obtain⟨i1,i2,i3,i4⟩:=vT hm hn i j q
  have e:dy m n i j (q+1)=vx m n i j (dy m n i j q) q:=by
   exact XP
  have a:=B5 hm i q
  have b:=B5 hn q j
  rw[e]
  unfold vx
  change (((if mg m i q≠0/\mg n q j≠0 then max (max (dy m n i j q) (mg m i q)) (mg n q j)else dy m n i j q)≠0)↔_)/\((if mg m i q≠0/\mg n q j≠0 then max (max (dy m n i j q) (mg m i q)) (mg n q j)else dy m n i j q)=2↔_)/\0<=(if mg m i q≠0/\mg n q j≠0 then max (max (dy m n i j q) (mg m i q)) (mg n q j)else dy m n i j q)/\(if mg m i q≠0/\mg n q j≠0 then max (max (dy m n i j q) (mg m i q)) (mg n q j)else dy m n i j q)<=2
  by_cases h:mg m i q≠0/\mg n q j≠0
  ·rw[if_pos h]
   obtain⟨x1,x2,x3,x4⟩:=mx3 _ _ _ i3 i4 a.1 a.2 b.1 b.2 h.1
   refine⟨⟨fun _=>⟨q,ae,h⟩,fun _=>x1⟩,x2.trans ⟨fun h2=> ?_,fun⟨k,k1,k2,k3,k4⟩=> ?_⟩,x3,x4⟩
   ·rcases h2 with g|g
    ·obtain⟨k,k1,k2⟩:=i2.1 g
     exact Iv
    ·exact⟨q,ae,h.1,h.2,g⟩
   ·rcases(by omega:k<q\/k=q)with g|g
    ·exact .inl (i2.2 ⟨k,g,k2,k3,k4⟩)
    ·subst g;exact .inr k4
  ·rw[if_neg h]
   refine⟨⟨fun h2=> ?_,fun⟨k,k1,k2⟩=> ?_⟩,⟨fun h2=> ?_,fun⟨k,k1,k2,k3,k4⟩=> ?_⟩,i3,i4⟩
   ·obtain⟨k,k1,k2⟩:=i1.1 h2;exact⟨k,ae,k2⟩
   ·rcases(by omega:k<q\/k=q)with g|g
    ·exact i1.2 ⟨k,g,k2⟩
    ·subst g;exact absurd k2 h
   ·obtain⟨k,k1,k2⟩:=i2.1 h2;exact⟨k,ae,k2⟩
   ·rcases(by omega:k<q\/k=q)with g|g
    ·exact i2.2 ⟨k,g,k2,k3,k4⟩
    ·subst g;exact absurd ⟨k2,k3⟩ h
theorem ON(m n:List Int){i j:Nat}(hi:i<4)(hj:j<4):mg (dn m n) i j=dy m n i j 4:=by
 unfold mg dn
 exact adj
theorem fQ{m n:List Int}(hm:il m)(hn:il n):il (dn m n):=by
 refine⟨by simp[dn],fun x hx=> ?_⟩
 unfold dn at hx
 obtain⟨p,_,rfl⟩:=List.mem_map.1 hx
 exact(vT hm hn _ _ 4).2.2
theorem gf{m n:List Int}(hm:il m)(hn:il n){i j:Nat}(hi:i<4)(hj:j<4):mg (dn m n) i j≠0↔∃k,k<4/\mg m i k≠0/\mg n k j≠0:=by
 rw[ON m n hi hj];exact(vT hm hn i j 4).1
theorem kW{m n:List Int}(hm:il m)(hn:il n){i j:Nat}(hi:i<4)(hj:j<4):mg (dn m n) i j=2↔∃k,k<4/\mg m i k≠0/\mg n k j≠0/\(mg m i k=2\/mg n k j=2):=by
 rw[ON m n hi hj];exact(vT hm hn i j 4).2.1
theorem V6{m:List Int}{i j:Nat}(h:mg m i j=2):mg m i j≠0:=ae
theorem Ly{a b c:List Int}(ha:il a)(hb:il b)(hc:il c):dn (dn a b) c=dn a (dn b c):=by
 have hab:=fQ ha hb
 have Rb:=fQ hb hc
 refine Jm (fQ hab hc) (fQ ha Rb) fun i j hi hj=>⟨?_, ?_⟩
 ·rw[gf hab hc hi hj,gf ha Rb hi hj]
  constructor
  ·rintro⟨k,hk,h1,h2⟩
   obtain⟨l,hl,h3,h4⟩:=(gf ha hb hi hk).1 h1
   exact⟨l,hl,h3,(gf hb hc hl hj).2 ⟨k,hk,h4,h2⟩⟩
  ·rintro⟨l,hl,h3,h1⟩
   obtain⟨k,hk,h4,h2⟩:=(gf hb hc hl hj).1 h1
   exact⟨k,hk,(gf ha hb hi hk).2 ⟨l,hl,h3,h4⟩,h2⟩
 ·rw[kW hab hc hi hj,kW ha Rb hi hj]
  constructor
  ·rintro⟨k,hk,h1,h2,h5⟩
   rcases h5 with h5|h5
   ·obtain⟨l,hl,h3,h4,h6⟩:=(kW ha hb hi hk).1 h5
    refine⟨l,hl,h3,(gf hb hc hl hj).2 ⟨k,hk,h4,h2⟩, ?_⟩
    rcases h6 with h6|h6
    ·exact .inl h6
    ·exact .inr ((kW hb hc hl hj).2 ⟨k,hk,h4,h2, .inl h6⟩)
   ·obtain⟨l,hl,h3,h4⟩:=(gf ha hb hi hk).1 h1
    exact⟨l,hl,h3,(gf hb hc hl hj).2 ⟨k,hk,h4,h2⟩, .inr ((kW hb hc hl hj).2 ⟨k,hk,h4,h2, .inr h5⟩)⟩
  ·rintro⟨l,hl,h3,h1,h5⟩
   rcases h5 with h5|h5
   ·obtain⟨k,hk,h4,h2⟩:=(gf hb hc hl hj).1 h1
    exact⟨k,hk,(gf ha hb hi hk).2 ⟨l,hl,h3,h4⟩,h2, .inl ((kW ha hb hi hk).2 ⟨l,hl,h3,h4, .inl h5⟩)⟩
   ·obtain⟨k,hk,h4,h2,h6⟩:=(kW hb hc hl hj).1 h5
    refine⟨k,hk,(gf ha hb hi hk).2 ⟨l,hl,h3,h4⟩,h2, ?_⟩
    rcases h6 with h6|h6
    ·exact .inl ((kW ha hb hi hk).2 ⟨l,hl,h3,h4, .inr h6⟩)
    ·exact .inr h6
def uS:List Int:=[1,0,0,0,0,1,0,0,0,0,1,0,0,0,0,1]
theorem r8:il uS:=⟨rfl,bG⟩
theorem B6{i j:Nat}(hi:i<4)(hj:j<4):mg uS i j=if i=j then 1 else 0:=by
 have:∀i,i<4->∀j,j<4->mg uS i j=if i=j then 1 else 0:=bG
 exact this i hi j hj
theorem Jn{m:List Int}(hm:il m):dn uS m=m:=by
 refine Jm (fQ r8 hm) hm fun i j hi hj=>⟨?_, ?_⟩
 ·rw[gf r8 hm hi hj]
  constructor
  ·rintro⟨k,hk,h1,h2⟩
   rw[B6 hi hk]at h1
   by_cases e:i=k
   ·subst e;exact h2
   ·rw[if_neg e]at h1;exact absurd rfl h1
  ·intro h;exact⟨i,hi,by rw[B6 hi hi,if_pos rfl];decide,h⟩
 ·rw[kW r8 hm hi hj]
  constructor
  ·rintro⟨k,hk,h1,h2,h3⟩
   rw[B6 hi hk]at h1 h3
   by_cases e:i=k
   ·subst e;rw[if_pos rfl]at h3;rcases h3 with h3|h3
    ·cases h3
    ·exact h3
   ·rw[if_neg e]at h1;exact absurd rfl h1
  ·intro h;exact⟨i,hi,by rw[B6 hi hi,if_pos rfl];decide,V6 h, .inr h⟩
def qp(m:List Int):Nat->List Int
 |0=>m
 |k+1=>dn (qp m k) m
theorem nu{m:List Int}(hm:il m):∀k,il (qp m k)
 |0=>hm
 |k+1=>fQ (nu hm k) hm
theorem OO{m:List Int}(hm:il m)(a:Nat):∀b,dn (qp m a) (qp m b)=qp m (a+b+1)
 |0=>rfl
 |b+1=>by
  show dn (qp m a) (dn (qp m b) m)=dn (qp m (a+(b+1))) m
  rw[<- Ly (nu hm a) (nu hm b) hm,OO hm a b];rfl
def OP(m:List Int):Prop:=∃k i,i<4/\mg (qp m k) i i=2
def wR(r:Nat->Nat->Bool):Nat->Nat->Nat->Bool
 |0,i,j=>r i j
 |k+1,i,j=>wR r k i j||(wR r k i k&&wR r k k j)
theorem r9(r:Nat->Nat->Bool):∀k m i j,m<k->wR r k i m=true->wR r k m j=true->wR r k i j=true
 |0,m,i,j,h,_,_=>absurd h (Nat.not_lt_zero _)
 |k+1,m,i,j,h,h1,h2=>by
  have ih:=r9 r k
  simp only[wR,Bool.or_eq_true,Bool.and_eq_true]at h1 h2|-
  rcases(by omega:m<k\/m=k)with g|g
  ·rcases h1 with h1|h1<;>rcases h2 with h2|h2
   ·exact .inl (ih m i j g h1 h2)
   ·exact .inr ⟨ih m i k g h1 h2.1,h2.2⟩
   ·exact .inr ⟨h1.1,ih m k j g h1.2 h2⟩
   ·exact .inr ⟨h1.1,h2.2⟩
  ·subst g
   refine .inr ⟨?_, ?_⟩
   ·rcases h1 with h1|h1
    ·exact h1
    ·exact h1.1
   ·rcases h2 with h2|h2
    ·exact h2
    ·exact h2.2
theorem B7(r:Nat->Nat->Bool):∀k i j,r i j=true->wR r k i j=true
 |0,_,_,h=>h
 |k+1,i,j,h=>by simp only[wR,B7 r k i j h,Bool.true_or]
theorem OQ(r:Nat->Nat->Bool)(T:Nat->Nat->Prop)(hT:∀i m j,m<4->T i m->T m j->T i j)(hr:∀i j,r i j=true->T i j):∀k,k<=4->∀i j,wR r k i j=true->T i j
 |0,_,i,j,h=>hr i j h
 |k+1,hk,i,j,h=>by
  simp only[wR,Bool.or_eq_true,Bool.and_eq_true]at h
  have ih:=OQ r T hT hr k ae
  rcases h with h|h
  ·exact ih i j h
  ·exact hT i k j ae (ih i k h.1) (ih k j h.2)
def gV(m:List Int)(i j:Nat):Bool:=decide (i<4)&&decide (j<4)&&decide (mg m i j≠0)
theorem fg{m:List Int}{i j:Nat}:gV m i j=true↔i<4/\j<4/\mg m i j≠0:=by simp[gV,and_assoc]
def qq(m:List Int):Bool:=(List.range 4).any fun i=>(List.range 4).any fun j=>decide (mg m i j=2)&&(decide (i=j)||wR (gV m) 4 j i)
theorem Ar{m:List Int}:qq m=true↔∃i j,i<4/\j<4/\mg m i j=2/\(i=j\/wR (gV m) 4 j i=true):=by
 simp only[qq,List.any_eq_true,List.mem_range,Bool.and_eq_true,decide_eq_true_eq,Bool.or_eq_true]
 constructor
 ·rintro⟨i,hi,j,hj,h⟩;exact⟨i,j,hi,hj,h⟩
 ·rintro⟨i,j,hi,hj,h⟩;exact⟨i,hi,j,hj,h⟩
def V7(m:List Int)(q:Nat):Prop:=∃k i,k<q/\i<4/\mg (qp m k) i i=2
theorem Jo{m:List Int}(hm:il m):∀k i j,i<4->j<4->(mg (qp m k) i j≠0->wR (gV m) 4 i j=true)/\(mg (qp m k) i j=2->∃u v,u<4/\v<4/\mg m u v=2/\(i=u\/wR (gV m) 4 i u=true)/\(v=j\/wR (gV m) 4 v j=true))
 |0,i,j,hi,hj=>⟨fun h=>B7 _ 4 i j (fg.2 ⟨hi,hj,h⟩),fun h=>⟨i,j,hi,hj,h, .inl rfl, .inl rfl⟩⟩
 |k+1,i,j,hi,hj=>by
  have ih:=Jo hm k
  have hP:=nu hm k
  refine⟨fun h=> ?_,fun h=> ?_⟩
  ·obtain⟨l,hl,h1,h2⟩:=(gf hP hm hi hj).1 h
   exact r9 _ 4 l i j hl ((ih i l hi hl).1 h1) (B7 _ 4 l j (fg.2 ⟨hl,hj,h2⟩))
  ·obtain⟨l,hl,h1,h2,h3⟩:=(kW hP hm hi hj).1 h
   have w2:=B7 _ 4 l j (fg.2 ⟨hl,hj,h2⟩)
   rcases h3 with h3|h3
   ·obtain⟨u,v,hu,hv,g1,g2,g3⟩:=(ih i l hi hl).2 h3
    refine⟨u,v,hu,hv,g1,g2, .inr ?_⟩
    rcases g3 with g3|g3
    ·rw[g3];exact w2
    ·exact r9 _ 4 l v j hl g3 w2
   ·exact⟨l,j,hl,hj,h3, .inr ((ih i l hi hl).1 h1), .inl rfl⟩
theorem xu{m:List Int}(hm:il m)(h:OP m):qq m=true:=by
 obtain⟨k,i,hi,h⟩:=h
 obtain⟨u,v,hu,hv,h1,h2,h3⟩:=(Jo hm k i i hi hi).2 h
 refine Ar.2 ⟨u,v,hu,hv,h1, ?_⟩
 rcases h2 with h2|h2<;>rcases h3 with h3|h3
 ·left;omega
 ·right;rw[<- h2];exact h3
 ·right;rw[h3];exact h2
 ·right;exact r9 _ 4 i v u hi h3 h2
theorem ahS:∀e1 e2 e3 e4 e5 e6 e7 e8 e9:Bool,
 let p:=e1||e2&&(e6||e7&&e8)||e3&&(e8||e9&&e6)
 let q:=e2||e1&&(e4||e5&&e9)||e3&&(e9||e8&&e4)
 let s:=e3||e1&&(e5||e4&&e7)||e2&&(e7||e6&&e5)
 (p&&e4->q)/\(p&&e5->s)/\(q&&e6->p)/\(q&&e7->s)/\(s&&e8->p)/\(s&&e9->q):=bG
theorem Sw(m:List Int)(j p q s:Nat)(bu:∀x,x<4->x=j\/x=p\/x=q\/x=s)(h4:j<4/\p<4/\q<4/\s<4)(hd:j≠p/\j≠q/\j≠s/\p≠q/\p≠s/\q≠s)(i:Nat)(Sa:i≠j)(h:wR (gV m) 4 j i=true)(hm:il m):
 ∃k,k<3/\mg (qp m k) j i≠0:=by
 obtain⟨hj,hp,hq,hs⟩:=h4
 obtain⟨d1,d2,d3,d4,d5,d6⟩:=hd
 have c9:=ahS (gV m j p) (gV m j q) (gV m j s) (gV m p q) (gV m p s) (gV m q p) (gV m q s) (gV m s p) (gV m s q)
 have s1:∀ {x y},gV m x y=true->mg (qp m 0) x y≠0:=fun h=>(fg.1 h).2.2
 have s2:∀ {x y z},gV m x y=true->gV m y z=true->mg (qp m 1) x z≠0:=fun h h'=>(gf hm hm (fg.1 h).1 (fg.1 h').2.1).2 ⟨_,(fg.1 h).2.1,(fg.1 h).2.2,(fg.1 h').2.2⟩
 have s3:∀ {x y z w},gV m x y=true->gV m y z=true->gV m z w=true->mg (qp m 2) x w≠0:=fun h h' Zf=>(gf (nu hm 1) hm (fg.1 h).1 (fg.1 Zf).2.1).2 ⟨_,(fg.1 Zf).1,s2 h h',(fg.1 Zf).2.2⟩
 generalize eP:(gV m j p||gV m j q&&(gV m q p||gV m q s&&gV m s p)||gV m j s&&(gV m s p||gV m s q&&gV m q p))=P at c9
 generalize eQ:(gV m j q||gV m j p&&(gV m p q||gV m p s&&gV m s q)||gV m j s&&(gV m s q||gV m s p&&gV m p q))=Q at c9
 generalize eS:(gV m j s||gV m j p&&(gV m p s||gV m p q&&gV m q s)||gV m j q&&(gV m q s||gV m q p&&gV m p s))=S at c9
 simp only[Bool.and_eq_true,and_imp]at c9
 obtain⟨c1,c2,c3,c4,c5,c6⟩:=c9
 have bP:gV m j p=true->P=true:=fun h=>by rw[<- eP,h];rfl
 have bQ:gV m j q=true->Q=true:=fun h=>by rw[<- eQ,h];rfl
 have bS:gV m j s=true->S=true:=fun h=>by rw[<- eS,h];rfl
 have key:=OQ (gV m) (fun u v=>(u=j\/(u=p/\P=true)\/(u=q/\Q=true)\/(u=s/\S=true))->(v=j\/(v=p/\P=true)\/(v=q/\Q=true)\/(v=s/\S=true))) (fun _ _ _ _ h1 h2 h3=>h2 (h1 h3)) (fun u v Rc hu=>by
  have hv:=(fg.1 Rc).2.1
  rcases bu v hv with e|e|e|e<;>rcases hu with g|⟨g,g'⟩|⟨g,g'⟩|⟨g,g'⟩<;>subst e<;>subst g<;>first
   |exact .inl rfl
   |exact .inr (.inl ⟨rfl,g'⟩)
   |exact .inr (.inr (.inl ⟨rfl,g'⟩))
   |exact .inr (.inr (.inr ⟨rfl,g'⟩))
   |exact .inr (.inl ⟨rfl,bP Rc⟩)
   |exact .inr (.inr (.inl ⟨rfl,bQ Rc⟩))
   |exact .inr (.inr (.inr ⟨rfl,bS Rc⟩))
   |exact .inr (.inl ⟨rfl,c3 g' Rc⟩)
   |exact .inr (.inl ⟨rfl,c5 g' Rc⟩)
   |exact .inr (.inr (.inl ⟨rfl,c1 g' Rc⟩))
   |exact .inr (.inr (.inl ⟨rfl,c6 g' Rc⟩))
   |exact .inr (.inr (.inr ⟨rfl,c2 g' Rc⟩))
   |exact .inr (.inr (.inr ⟨rfl,c4 g' Rc⟩))) 4 (Nat.le_refl _) j i h (.inl rfl)
 have fin:∀y z w:Nat,(gV m j y||gV m j z&&(gV m z y||gV m z w&&gV m w y)||gV m j w&&(gV m w y||gV m w z&&gV m z y))=true->∃k,k<3/\mg (qp m k) j y≠0:=fun y z w h=>by
  simp only[Bool.or_eq_true,Bool.and_eq_true]at h
  rcases h with(h|⟨h,h'|⟨h',Zf⟩⟩)|⟨h,h'|⟨h',Zf⟩⟩
  ·exact⟨0,ae,s1 h⟩
  ·exact⟨1,ae,s2 h h'⟩
  ·exact⟨2,ae,s3 h h' Zf⟩
  ·exact⟨1,ae,s2 h h'⟩
  ·exact⟨2,ae,s3 h h' Zf⟩
 rcases key with g|⟨g,g'⟩|⟨g,g'⟩|⟨g,g'⟩
 ·exact absurd g Sa
 ·rw[g];exact fin p q s (eP.trans g')
 ·rw[g];exact fin q p s (eQ.trans g')
 ·rw[g];exact fin s p q (eS.trans g')
theorem As{m:List Int}(hm:il m)(h:qq m=true):V7 m 4:=by
 obtain⟨i,j,hi,hj,h1,h2⟩:=Ar.1 h
 by_cases e:i=j
 ·subst e;exact⟨0,i,ae,hi,h1⟩
 rcases h2 with h2|h2
 ·exact absurd h2 e
 have:∃k,k<3/\mg (qp m k) j i≠0:=by
  rcases(by omega:j=0\/j=1\/j=2\/j=3)with rfl|rfl|rfl|rfl
  ·exact Sw m 0 1 2 3 ae ae ae i e h2 hm
  ·exact Sw m 1 0 2 3 ae ae ae i e h2 hm
  ·exact Sw m 2 0 1 3 ae ae ae i e h2 hm
  ·exact Sw m 3 0 1 2 ae ae ae i e h2 hm
 obtain⟨k,hk,h3⟩:=this
 refine⟨k+1,i,ae,hi, ?_⟩
 have:=OO hm 0 k
 rw[show k+1=0+k+1 by omega, <- this]
 exact(kW hm (nu hm k) hi hi).2 ⟨j,hj,V6 h1,h3, .inl h1⟩
theorem Eu{m:List Int}(hm:il m):qq m=true↔OP m:=⟨fun h=>let⟨k,i,_,hi,h'⟩:=As hm h;⟨k,i,hi,h'⟩,xu hm⟩
theorem Hh{m:List Int}(hm:il m):qq m=true↔V7 m 4:=⟨As hm,fun⟨k,i,_,hi,h⟩=>xu hm ⟨k,i,hi,h⟩⟩
theorem Jp{m:List Int}(h:dn m m=m):∀k,qp m k=m
 |0=>rfl
 |k+1=>by show dn (qp m k) m=m;rw[Jp h k,h]
theorem Hi{m:List Int}(h:dn m m=m):OP m↔∃i,i<4/\mg m i i=2:=
 ⟨fun⟨k,i,hi,h2⟩=>⟨i,hi,by rwa [Jp h k]at h2⟩,fun⟨i,hi,h2⟩=>⟨0,i,hi,h2⟩⟩
def OR(m:List Int)(p n:Nat):List cu:=(List.range' p n).filterMap fun p=>if m.getD p 0≠0 then some ⟨(p/4:Nat),(p%4:Nat),m.getD p 0==2⟩else none
theorem Zg(m:List Int)(q:Nat):cn m q=OR m 0 q:=by unfold cn OR;rw[List.range_eq_range']
theorem xw{m:List Int}(hm:il m):∀ (n p:Nat) (last:Int) (acc:List Int),p+n=16->last<p->acc.length=16->(∀k,k<p->acc[k]? =m[k]?)->(∀k,p<=k->k<16->acc[k]? =some 0)->lD (OR m p n) last acc=some m
 |0,p,last,acc,h1,h2,h3,h4,h5=>by
  have:acc=m:=List.ext_getElem? fun k=>by
   by_cases hk:k<p
   ·exact h4 k hk
   ·rw[List.getElem?_eq_none (by omega),List.getElem?_eq_none (by have:=hm.1;omega)]
  rw[this];rfl
 |n+1,p,last,acc,h1,h2,h3,h4,h5=>by
  have hl:=hm.1
  have hp:m[p]? =some (m.getD p 0):=by rw[List.getD_eq_getElem?_getD,List.getElem?_eq_getElem (by omega)];rfl
  have hr:0<=m.getD p 0/\m.getD p 0<=2:=hm.2 _ (List.mem_of_getElem? hp)
  unfold OR
  rw[List.range'_succ,List.filterMap_cons]
  by_cases h0:m.getD p 0≠0
  ·rw[if_pos h0]
   show lD (_::OR m (p+1) n) last acc=some m
   unfold lD
   have e1:((p/4:Nat):Int)*4+((p%4:Nat):Int)=p:=ae
   rw[if_neg (by dsimp only;omega)]
   have ek:cu.k ⟨(p/4:Nat),(p%4:Nat),m.getD p 0==2⟩=p:=by unfold cu.k;dsimp only;omega
   have ev:cu.v ⟨(p/4:Nat),(p%4:Nat),m.getD p 0==2⟩=m.getD p 0:=by
    unfold cu.v;dsimp only
    split
    ·rename_i h;rw[beq_iff_eq]at h;exact h.symm
    ·rename_i h;rw[beq_iff_eq]at h;omega
   rw[ek,ev]
   refine xw hm n (p+1) _ _ ae jr (by rw[List.length_set];exact h3) (fun k hk=> ?_) (fun k hk hk2=> ?_)
   ·rw[List.getElem?_set]
    split
    ·rename_i e;rw[if_pos (by omega), <- e,hp]
    ·exact h4 k ae
   ·rw[List.getElem?_set,if_neg (by omega)];exact h5 k ae hk2
  ·rw[if_neg h0]
   refine xw hm n (p+1) _ _ ae ae h3 (fun k hk=> ?_) (fun k hk hk2=>h5 k ae hk2)
   by_cases e:k=p
   ·subst e
    rw[hp,h5 k (by omega) (by omega)];congr 1;exact(Decidable.not_not.1 h0).symm
   ·exact h4 k ae
theorem sb{m:List Int}(hm:il m):lD (cn m 16) (-1) Aq=some m:=by
 rw[Zg]
 refine xw hm 16 0 (-1) Aq ae bG rfl (fun k hk=>absurd hk (Nat.not_lt_zero _)) (fun k _ hk=> ?_)
 have:∀p,p<16->Aq[p]? =some 0:=bG
 exact this k hk
theorem pK{m n:List Int}(hm:il m)(hn:il n):tS (cn m 16) (cn n 16) 16=cn (dn m n) 16:=(OJ (sb hm) (sb hn)).symm
theorem Sx{m n:List Int}(hm:il m)(hn:il n)(h:cn m 16=cn n 16):m=n:=by
 have h1:=sb hm
 rw[h,sb hn]at h1
 exact(Option.some.inj h1).symm
def mI(l:List cu):Bool:=l.any fun a=>a.f==a.t&&a.l
theorem Ev(m:List Int):mI (cn m 16)=true↔∃i,i<4/\mg m i i=2:=by
 unfold mI cn
 simp only[List.any_eq_true,List.mem_filterMap,List.mem_range,Bool.and_eq_true,beq_iff_eq]
 constructor
 ·rintro⟨a,⟨p,hp,h1⟩,h2,h3⟩
  split at h1
  ·obtain rfl:=Option.some.inj h1
   dsimp only at h2 h3
   rw[beq_iff_eq]at h3
   refine⟨p/4,ae, ?_⟩
   unfold mg
   rw[show p/4*4+p/4=p by omega];exact h3
  ·cases h1
 ·rintro⟨i,hi,h⟩
  unfold mg at h
  refine⟨_,⟨i*4+i,ae,if_pos ae⟩, ?_, ?_⟩
  ·dsimp only;omega
  ·dsimp only;rw[beq_iff_eq];exact h
def sd(one:List cu):Nat->List cu->Bool
 |0,_=>false
 |q+1,now=>mI now||sd one q (tS now one 16)
theorem Jq{m:List Int}(hm:il m):∀q k,sd (cn m 16) q (cn (qp m k) 16)=true↔∃p i,k<=p/\p<k+q/\i<4/\mg (qp m p) i i=2
 |0,k=>by
  simp only[sd,Bool.false_eq_true,false_iff]
  rintro⟨p,i,h1,h2,_⟩;omega
 |q+1,k=>by
  simp only[sd,Bool.or_eq_true]
  rw[pK (nu hm k) hm,Ev]
  rw[show dn (qp m k) m=qp m (k+1)from rfl,Jq hm q (k+1)]
  constructor
  ·rintro(⟨i,hi,h⟩|⟨p,i,h1,h2,h3⟩)
   ·exact⟨k,i,ae,ae,hi,h⟩
   ·exact⟨p,i,ae,ae,h3⟩
  ·rintro⟨p,i,h1,h2,h3⟩
   rcases(by omega:k=p\/k+1<=p)with g|g
   ·subst g;exact .inl ⟨i,h3⟩
   ·exact .inr ⟨p,i,g,ae,h3⟩
theorem LA{m:List Int}(hm:il m):sd (cn m 16) 4 (cn m 16)=qq m:=by
 rw[Bool.eq_iff_iff,Hh hm]
 refine(Jq hm 4 0).trans ?_
 constructor
 ·rintro⟨p,i,_,h2,h3⟩;exact⟨p,i,ae,h3⟩
 ·rintro⟨p,i,h2,h3⟩;exact⟨p,i,ae,ae,h3⟩
section
def kX(id:Nat)(K X:V->(Nat->aa)->Nat->Prop)(e:fW)(s:S):Prop:=
 match e with
 | .normal=>∃nf m en p c d st pd,s.o id= .loop nf m en p c d st pd/\K (.d (.bool true)) (au s.o id (.loop nf m en p c d .ready none)) s.nx
 | .ret=>∃nf m en p c d st pd,s.o id= .loop nf m en p c d st pd/\K (.d (.bool false)) (au s.o id (.loop nf m en p c d .done (some .ret))) s.nx
 | .exit j=>∃nf m en p c d st pd,s.o id= .loop nf m en p c d st pd/\K (.d (.bool false)) (au s.o id (.loop nf m en p c d .done (some (.exit j)))) s.nx
 | .bU v=>X v s.o s.nx
def Zh(P:Program)(n b id:Nat)(fm:IC)(K X:V->(Nat->aa)->Nat->Prop)(e:fW)(s:S):Prop:=
 match e with
 | .normal=>∃nf m en p c d pd,s.o id= .loop nf m en p c d .ready pd/\vQ P n b true fm (kX id K X) ⟨s.env,au s.o id (.loop nf m en p c d .busy pd),s.nx⟩
 | .bU v=>X v s.o s.nx
 |_=>False
section
variable {P:Program}{M:Nat->Prop}{φ cY:Place}{H0:Hp}{w w0:World}{n:Nat}{s:S}{a:Act}{cx:Cx}
theorem Ew{id:Nat}{x:aa}{s:S}(cS:id<s.nx)(j:Nat)(hu:(s.H.put [(id,x)]).us j):j<s.nx:=by
 simp only[eF]at hu
 rcases hu with hu|hu
 ·exact hu
 ·subst hu;exact cS
theorem xy{B:Nat->Prop}{H:Hp}{n:Nat}:∀ (ps:List Nat) (vs:List V) (us:List Value) (env:Nat->V) (tmps:Array Value),tmps.size=n->ps.length=vs.length->V.aG B φ H w vs us->ps.all (fun t=>decide (t<n))=true->(∀i,V.den B φ H w (env i) (tmps.getD i undef))->
 ((ps.zip us).foldl (fun tmps p=>tmps.setIfInBounds p.1 p.2) tmps).size=n/\∀i,V.den B φ H w (oP env ps vs i) (((ps.zip us).foldl (fun tmps p=>tmps.setIfInBounds p.1 p.2) tmps).getD i undef)
 |[],[],us,env,tmps,dU,_,hd,_,he=>by simp only[V.aG]at hd;subst hd;exact⟨dU,he⟩
 |[],v::vs,us,env,tmps,_,h,_,_,_=>by simp at h
 |t::ps,[],us,env,tmps,_,h,_,_,_=>by simp at h
 |t::ps,v::vs,us,env,tmps,dU,hl,hd,hp,he=>by
  obtain⟨u,us,rfl,h1,h2⟩:=hd
  simp only[List.all_cons,Bool.and_eq_true,decide_eq_true_eq]at hp
  simp only[List.zip_cons_cons,List.foldl_cons,oP]
  refine xy ps vs us (au env t v) (tmps.setIfInBounds t u) (by simp[dU]) (by simpa using hl) h2 hp.2 (fun i=> ?_)
  simp only[aR]
  by_cases hi:i=t
  ·subst hi
   have:(tmps.setIfInBounds i u).getD i undef=u:=by simp[Array.getD,dU,hp.1]
   rw[if_pos rfl,this];exact h1
  ·have:(tmps.setIfInBounds t u).getD i undef=tmps.getD i undef:=by
    exact X4
   rw[if_neg hi,this];exact he i
theorem eu.xn (bB:P.follows .mixedOrders=true){id:Nat}{args:List V}{o:Nat->aa}{nx:Nat}{K X:V->(Nat->aa)->Nat->Prop}{env:List V}{ps:List Nat}{jM fm:IC}{st:LoopState}{pd:Option lC}
 (ho:o id= .loop P.funcs.size n env ps jM fm st pd) (cS:id<nx) (pL:ps.all (fun t=>decide (t<n))=true) (hl:args.length=ps.length)
 (h:vQ P n nx true jM (Zh P n nx id fm K X) ⟨oP (aT env) ps args,o,nx⟩):eu P id args o nx K X:=by
 refine⟨by rw[ho];rfl,fun M φ w vals b hH hd dz=> ?_⟩
 have bp:=hH.ok id
 simp only[aO,hp,ho]at bp
 obtain⟨b',r,h1,h2,h0,h3,h4,h5,h6,h7,h8,h9⟩:=bp
 rw[dz]at h1;simp at h1;subst h1
 have hlen:=V.aE _ _ hd
 have dU:vals.size=r.params.size:=by
  have:r.params.toList.length=ps.length:=by rw[h5]
  simp at hlen this;omega
 let tm:Array Value:=(ps.zip vals.toList).foldl (fun tmps p=>tmps.setIfInBounds p.1 p.2) r.tmps
 have aer:(r.params.zip vals).foldl (fun tmps (p:Tmp×Value)=>tmps.setIfInBounds p.1 p.2) r.tmps=tm:=by
  rw[<- Array.foldl_toList,Array.toList_zip,h5]
 obtain⟨p1,p2⟩:=xy (B:=ao M φ (hp o nx)) (H:=hp o nx) (φ:=φ) (w:=w) ps args vals.toList (aT env) r.tmps h6 hl.symm hd pL h9
 refine⟨r.fn,tm,r.assign,r.body, ?_,fun k=> ?_⟩
 ·simp only[Instr.yield,Sem.run_bind,lT h2,Result.andThen_ok,dU,ne_eq,not_true_eq_false,if_false,Sem.run_pure]
  rw[<- aer]
 ·
   let s0:S:=⟨oP (aT env) ps args,o,nx⟩
   let a0:Act:={tmps:=tm,defers:=[]}
   have kO:cG M φ (hp o nx) w n ⟨[],true⟩ φ s0 a0 w:=⟨hH,Trans.refl _ _ _,p1,⟨[],rfl,List.nodup_nil,fun _=>rfl,fun r hr=>by cases hr⟩,p2⟩
   have xz:∀ {aH s' a' w'},cG M φ (hp o nx) w n ⟨[],true⟩ aH s' a' w'->a'.defers=[]:=by
    intro aH s' a' w' hs
    obtain⟨ms,g1,_,g3,_⟩:=hs.defers
    rw[g3 rfl]at g1;exact g1
   have aes:∀ {aH s' a' w'} {nf m:Nat} {en:List V} {p:List Nat} {c d:IC} {st:LoopState} {pd:Option lC} (st':LoopState) (pd':Option lC),cG M φ (hp o nx) w n ⟨[],true⟩ aH s' a' w'->s'.o id= .loop nf m en p c d st pd->
    ∃r',w'.heap[b]? =some (.loop r')/\r'.state=st/\r'.pending=pd.map lC.code/\
     cG M φ (hp o nx) w n ⟨[],true⟩ aH ⟨s'.env,au s'.o id (.loop nf m en p c d st' pd'),s'.nx⟩ a' {w' with heap:=w'.heap.setIfInBounds b (.loop {r' with state:=st',pending:=pd'.map lC.code})}:=by
    intro aH s' a' w' nf m en p c d st pd st' pd' hs qZ
    have Yu:aH id= .pointer (some ⟨b,0,none⟩):=by
     have:=(hs.tr.rel.row id cS (by show(s'.o id).bF=true;rw[qZ];rfl)).2
     rw[this];exact dz
    have aet:id<s'.nx:=hs.tr.rel.us id cS
    obtain⟨r',r1,r2,r3,r4,r5⟩:=Ab (st':=st') (pd':=pd') hs.heap aet (show s'.H.o id=_ from qZ) Yu
    exact⟨r',r1,r2,r3,fu hs r4 r5 rfl (Ew aet)⟩
   have ha:=jh (P:=P) (n:=n) (b:=nx) (rd:=true) bB r.assign _ _ s0 (fun _ _ h=>h) (by rw[h7];exact h)
   refine xa h0 (iI (jc (P:=P) (H0:=hp o nx) (b:=nx) (cx:=⟨[],true⟩) (ro:=some b) (fun id hu=>hu) (fun h=>by cases h) r.assign _ s0 φ a0 w ha kO) ?_)
   rintro e a1 w1 ⟨x,s1,jJ,hq,Ad,hm⟩
   cases e<;>cases x<;>first|(exact hm.elim)|skip
   ·
     obtain⟨nf,m,en,p,c,d,pd1,q1,q2⟩:=hq
     obtain⟨r',r1,r2,r3,La⟩:=aes .busy pd1 Ad q1
     have Zi:(Instr.beginRound b).run P w1= .ok () {w1 with heap:=w1.heap.setIfInBounds b (.loop {r' with state:= .busy,pending:=pd1.map lC.code})}:=by
      have e1:({r' with state:= .busy}:Loop)={r' with state:= .busy,pending:=pd1.map lC.code}:=by rw[<- r3]
      simp only[Instr.beginRound,Sem.run_bind,lT r1,Result.andThen_ok,jO _ r1,r2,Sem.run_pure,e1]
     refine⟨_,Zi, ?_⟩
     have bN:=La.heap.ok id
     simp only[aO,S.H,aR,if_true]at bN
     obtain⟨b2,r2',_,_,_,_,_,_,_,_,_,_⟩:=bN
     have hb:=jh (P:=P) (n:=n) (b:=nx) (rd:=true) bB r.body _ _ _ (fun _ _ h=>h) (by rw[h8];exact q2)
     refine iI (jc (P:=P) (H0:=hp o nx) (b:=nx) (cx:=⟨[],true⟩) (ro:=some b) (fun id hu=>hu) (fun h=>by cases h) r.body _ _ jJ a1 _ hb La) ?_
     rintro e a2 w2 ⟨x,s2,Lb,hq2,I4,RY⟩
     have fin:∀ {nf m:Nat} {en:List V} {p:List Nat} {c d:IC} {st:LoopState} {pd:Option lC} (jump:Option lC) (t:Bool) (st':LoopState),t=jump.isNone->st'=(if jump.isNone then .ready else .done)->s2.o id= .loop nf m en p c d st pd->K (.d (.bool t)) (au s2.o id (.loop nf m en p c d st' jump)) s2.nx->
      ∃v w',(Instr.endRound b (jump.map lC.code)).run P w2= .ok v w'/\oE M φ (hp o nx) w K X (.returned v) w':=by
      intro nf m en p c d st pd jump t st' ht fj Re hK
      obtain⟨r3',g1,g2,g3,hs4⟩:=aes st' jump I4 Re
      refine⟨.bool t,_, ?_,Lb,_,_,_,hs4.heap,hs4.tr,by simp only[V.den,D.den],hK⟩
      subst ht;subst fj
      simp only[Instr.endRound,Sem.run_bind,lT g1,Result.andThen_ok,jO _ g1,Sem.run_pure,Option.isNone_map]
     cases e<;>cases x<;>first|(exact RY.elim)|skip
     ·obtain⟨nf,m,en,p,c,d,st,pd,k1,k2⟩:=hq2
      exact fin none true .ready rfl rfl k1 k2
     ·rename_i j
      subst RY
      obtain⟨nf,m,en,p,c,d,st,pd,k1,k2⟩:=hq2
      exact fin (some (.exit _)) false .done rfl rfl k1 k2
     ·obtain⟨nf,m,en,p,c,d,st,pd,k1,k2⟩:=hq2
      exact fin (some .ret) false .done rfl rfl k1 k2
     ·obtain⟨val,rfl,k2⟩:=RY
      exact⟨xz I4,Lb,_,_,_,I4.heap,I4.tr,val,rfl,k2,hq2⟩
   ·exact hq.elim
   ·exact hq.elim
   ·obtain⟨val,rfl,k2⟩:=hm
    exact⟨xz Ad,jJ,_,_,_,Ad.heap,Ad.tr,val,rfl,k2,hq⟩
end
end
section
def Zj(ops:Array Oper)(t t1:Nat):Prop:=
 (∃o1 o2,ops=#[o1,o2]/\o1.op= .call ⟨.builtin .recover,#[],#[]⟩/\o1.dst=some t/\o1.guard=none/\o2.op= .assign (.tmp t)/\o2.dst=some t1/\o2.guard=none)\/
 (∃o1,ops=#[o1]/\t1=t/\o1.op= .call ⟨.builtin .recover,#[],#[]⟩/\o1.dst=some t/\o1.guard=none)
structure Ex (P:Program) (g:FuncId) (n t t1:Nat) (ic:IC):Prop where
 get:∃fn id ops c,P.funcs[g]? =some fn/\(fn.name== "runtime.NumGoroutine")=false/\fn.ntmps=n/\fn.results=#[]/\fn.body=some (.seq (.region id ops false) c)/\
  Zj ops t t1/\t<n/\t1<n/\low n c=ic
structure Jr (P:Program) (f:FuncId) (n:Nat) (jM fm:IC) (g:FuncId) (t:Nat) (aX:List Operand) (rs:List ResultVar):Prop where
 get:∃fn id o1 o2 a b d,P.funcs[f]? =some fn/\(fn.name== "runtime.NumGoroutine")=false/\fn.ntmps=n/\fn.results.toList=rs/\fn.body=some (.seq a d)/\(d= .seq (.region id #[o1,o2] false) b\/d= .scope (.seq (.region id #[o1,o2] false) b))/\
  o1.op= .makeFunc (.func g) #[] aX.toArray/\o1.dst=some t/\o1.guard=none/\o2.op= .defer ⟨.value (.tmp t),#[],#[]⟩/\o2.dst=none/\o2.guard=none/\t<n/\low n a=jM/\low n b=fm
def LB(K:(Nat->aa)->Nat->Prop)(e:fW)(s:S):Prop:=match e with| .normal| .ret=>K s.o s.nx|_=>False
def Hj(P:Program)(n t t1:Nat)(ic:IC)(aX:List V)(u:V)(o:Nat->aa)(nx:Nat)(K:(Nat->aa)->Nat->Prop):Prop:=
 aX.length<=n/\vQ P n nx true ic (LB K) ⟨au (au (cR aX) t u) t1 u,o,nx⟩
def B8(P:Program)(n t t1:Nat)(ic:IC)(aX:List V)(rs:List ResultVar)(K X:V->(Nat->aa)->Nat->Prop)(e:fW)(s:S):Prop:=
 match e with
 | .normal| .ret=>Hj P n t t1 ic aX (.d .fN) s.o s.nx fun o nx=>nk P rs K X .ret ⟨s.env,o,nx⟩
 | .bU v=>Hj P n t t1 ic aX v s.o s.nx fun o nx=>nk P rs K X .ret ⟨s.env,o,nx⟩
 | .exit _=>False
def Ey(P:Program)(n t:Nat)(fm:IC)(fR:List Operand)(g:FuncId)(D:List V->fW->S->Prop)(e:fW)(s:S):Prop:=
 match e with
 | .normal=>vQ P n s.nx false fm (D (fR.map s.ev)) ⟨au s.env t (.func (.func g) [] (fR.map s.ev)),s.o,s.nx⟩
 |_=>False
section
variable {P:Program}{M:Nat->Prop}{φ cY:Place}{H H0:Hp}{w w0:World}{n:Nat}{s:S}{a:Act}{cx:Cx}{k:Nat}
theorem LC(bB:P.follows .mixedOrders=true){g:FuncId}{t t1:Nat}{ic:IC}(hg:Ex P g n t t1 ic){aX:List V}{u:V}{o:Nat->aa}{nx:Nat}{K:(Nat->aa)->Nat->Prop}(h:Hj P n t t1 ic aX u o nx K)
 {vals:Array Value} {val:Value} {m:FrameMode} (hH:ay M φ (hp o nx) w) (hd:V.aG (ao M φ (hp o nx)) φ (hp o nx) w aX vals.toList) (hv:V.den (ao M φ (hp o nx)) φ (hp o nx) w u val)
 (hm:(m= .returning/\val= .nilIface)\/m= .panicking [{v:=val,recovered:=false}]):
 CallsDIn (eB none) k P g vals m w fun e u' w'=>∃v aH o' nx',e= .returned v/\settle u'= .returning/\ay M aH (hp o' nx') w'/\Trans φ (hp o nx) w aH (hp o' nx') w'/\K o' nx':=by
 obtain⟨fn,id,ops,c,hf,V8,hnt,BC,rP,NF,ht,zS,pY⟩:=hg.get
 have cS:g<P.funcs.size:=(Array.getElem?_eq_some_iff.1 hf).1
 obtain⟨mY,h⟩:=h
 have hlen:=V.aE _ _ hd
 refine⟨trivial,fun qP cs OS IP=> ?_⟩
 let b:Frame:={(default:Frame)with fn:=g,kind:= .deferred,roundOf:=none}
 let vU:Array Value:=vals++Array.replicate (fn.ntmps - vals.size) undef
 have ahT:vU.size=n:=by simp only[vU,Array.size_append,Array.size_replicate];simp at hlen;omega
 have nj:Frame.enter P g vals .deferred=b.atR {tmps:=vU,defers:=[]} [.code (.seq (.region id ops false) c)]:=by
  simp[Frame.enter,Frame.atR,hf,rP,b,vU]
 obtain⟨m',hm',bN⟩:∃m',settle m'= .returning/\((recoverD (qP::cs)=none/\m'=m/\val= .nilIface)\/recoverD (qP::cs)=some (val,{qP with mode:=m'}::cs)):=by
  rcases hm with⟨rfl,rfl⟩|rfl
  ·exact⟨.returning,rfl, .inl ⟨by simp[recoverD,OS],rfl,rfl⟩⟩
  ·exact⟨.panicking [{v:=val,recovered:=true}],rfl, .inr (by simp[recoverD,OS])⟩
 have Dl:({qP with mode:=m}:Frame)=qP:=by subst OS;rfl
 let a1:Act:={tmps:=(vU.setIfInBounds t val).setIfInBounds t1 val,defers:=[]}
 have Sc:(Code.region id ops false).wpSIn (eB none) k P (fun e a' cs' w'=>e= .normal/\a'=a1/\cs'={qP with mode:=m'}::cs/\w'=w) {tmps:=vU,defers:=[]} (qP::cs) w:=by
  rcases NF with⟨o1,o2,rfl,e1,e2,e3,e4,e5,e6⟩|⟨o1,rfl,rfl,e1,e2,e3⟩
  ·refine wpSIn_region ?_
   have hr:List.range (#[o1,o2]:Array Oper).size=[0,1]:=rfl
   have g0:(#[o1,o2]:Array Oper)[0]? =some o1:=rfl
   have g1:(#[o1,o2]:Array Oper)[1]? =some o2:=rfl
   rw[hr]
   have x1:∀ (ρ:Operand->Value) (w:World),(execOp ρ o1).run P w= .ok .recover w:=by
    intro ρ w
    simp[execOp,e1,resolve,invoke,builtin]
   have x2:∀ (ρ:Operand->Value) (w:World),(execOp ρ o2).run P w= .ok (.value (ρ (.tmp t))) w:=by
    intro ρ w
    simp[execOp,e4]
   have last:∀cs',cs'={qP with mode:=m'}::cs->wpOpsSIn (eB none) k P #[o1,o2] (fun e a' cs' w'=>e= .normal/\a'=a1/\cs'={qP with mode:=m'}::cs/\w'=w) [1] (({tmps:=vU,defers:=[]}:Act).put (some t) val) cs' w:=by
    rintro cs' rfl
    have hw:Region.wanted o2 (yielded #[o1,o2] (({tmps:=vU,defers:=[]}:Act).put (some t) val).tmps)=true:=by simp[Region.wanted,e6]
    have dF:(({tmps:=vU,defers:=[]}:Act).put (some t) val).eval (.tmp t)=val:=by
     have:t<vU.size:=ae
     simp[Act.put,Act.eval,Array.getD,this]
    simp only[wpOpsSIn,g1,hw,if_true,x2,dF,e5]
    refine⟨fun _ _=>trivial, ?_⟩
    simp[a1,Act.put]
   have hw:Region.wanted o1 (yielded #[o1,o2] vU)=true:=by simp[Region.wanted,e3]
   rw[wpOpsSIn,g0]
   refine⟨fun _ _=>trivial, ?_⟩
   simp only[hw,if_true,x1,e2]
   rcases bN with⟨hr,rfl,rfl⟩|hr
   ·simp only[hr]
    exact last _ (by rw[Dl])
   ·simp only[hr]
    exact last _ rfl
  ·refine wpSIn_region ?_
   have hr:List.range (#[o1]:Array Oper).size=[0]:=rfl
   have g0:(#[o1]:Array Oper)[0]? =some o1:=rfl
   rw[hr]
   have x1:∀ (ρ:Operand->Value) (w:World),(execOp ρ o1).run P w= .ok .recover w:=by
    intro ρ w
    simp[execOp,e1,resolve,invoke,builtin]
   have same:a1=({tmps:=vU,defers:=[]}:Act).put (some t1) val:=by
    simp only[a1,Act.put]
    congr 1
    apply Array.ext_getElem?
    intro j
    simp only[Array.getElem?_setIfInBounds]
    by_cases hj:t1=j
    ·subst hj;simp
    ·simp[hj]
   have last:∀cs',cs'={qP with mode:=m'}::cs->wpOpsSIn (eB none) k P #[o1] (fun e a' cs' w'=>e= .normal/\a'=a1/\cs'={qP with mode:=m'}::cs/\w'=w) [] (({tmps:=vU,defers:=[]}:Act).put (some t1) val) cs' w:=by
    rintro cs' rfl
    simp only[wpOpsSIn]
    exact⟨trivial,same.symm,trivial,trivial⟩
   have hw:Region.wanted o1 (yielded #[o1] vU)=true:=by simp[Region.wanted,e3]
   rw[wpOpsSIn,g0]
   refine⟨fun _ _=>trivial, ?_⟩
   simp only[hw,if_true,x1,e2]
   rcases bN with⟨hr,rfl,rfl⟩|hr
   ·simp only[hr]
    exact last _ (by rw[Dl])
   ·simp only[hr]
    exact last _ rfl
 obtain⟨er,ar,csr,wr,hl,⟨rfl,rfl,rfl,hwr⟩,dE⟩:=Sc b [.code c] rfl rfl trivial (fun d hd=>by simp[eB]at hd)
 rw[hwr]at dE
 let s0:S:=⟨au (au (cR aX) t u) t1 u,o,nx⟩
 have kO:cG M φ (hp o nx) w n ⟨[],true⟩ φ s0 a1 w:=by
  refine⟨hH,Trans.refl _ _ _,by simp[a1,ahT],⟨[],rfl,List.nodup_nil,fun _=>rfl,fun r hr=>by cases hr⟩,fun i=> ?_⟩
  have eA:=Dn (m:=fn.ntmps - vals.size) hd i
  simp only[s0,a1,aR]
  have ht0:t<vU.size:=ae
  have ahU:t1<vU.size:=ae
  by_cases h1:i=t1
  ·subst h1
   simp only[if_true]
   have:((vU.setIfInBounds t val).setIfInBounds i val).getD i undef=val:=by simp[Array.getD,ahU]
   rw[this];exact hv
  ·simp only[h1,if_false]
   have e1:((vU.setIfInBounds t val).setIfInBounds t1 val).getD i undef=(vU.setIfInBounds t val).getD i undef:=by
    exact U1
   rw[e1]
   by_cases h2:i=t
   ·subst h2
    simp only[if_true]
    have:(vU.setIfInBounds i val).getD i undef=val:=by simp[Array.getD,ht0]
    rw[this];exact hv
   ·simp only[h2,if_false]
    have e1:(vU.setIfInBounds t val).getD i undef=vU.getD i undef:=by
     simp only[Array.getD_eq_getD_getElem?]
     rw[Array.getElem?_setIfInBounds_ne (Ne.symm h2)]
    rw[e1];exact eA
 have hcw:=jh (P:=P) (n:=n) (b:=nx) (rd:=true) bB c _ _ s0 (fun _ _ h=>h) (by rw[pY];exact h)
 obtain⟨e,a',w',⟨x,s',aH,hq,j7,hx⟩,I3⟩:=jc (P:=P) (H0:=hp o nx) (b:=nx) (cx:=⟨[],true⟩) (ro:=none) (fun id hu=>hu) (fun h=>by cases h) c _ s0 φ a1 w hcw kO b [] ({qP with mode:=m'}::cs) rfl cS
 have i0:(lone (b.atR {tmps:=vU,defers:=[]} [.code (.seq (.region id ops false) c)]) (qP::cs) w).fenced P (eB none):=fenced_calm (n:=0) trivial iH rfl
 have V9:StepsIn (Machine.fenced P (eB none)) P (lone (b.atR {tmps:=vU,defers:=[]} [.code (.seq (.region id ops false) c)]) (qP::cs) w) (lone (b.atR a1 [.code c]) ({qP with mode:=m'}::cs) w):= .head i0 stepR_seq dE
 have xz:a'.defers=[]:=by
  obtain⟨ms,g1,_,g3,_⟩:=j7.defers
  rw[g3 rfl]at g1;exact g1
 have aeu:∀tm:Array Value,∃v,(results fn tm).run P w'= .ok v w':=by
  intro tm
  refine⟨_,oI (vals:=[]) ?_⟩
  rw[BC];rfl
 rw[nj]
 obtain⟨v,tc⟩:=aeu a'.tmps
 cases e<;>cases x<;>first|(exact hx.elim)|(exact hq.elim)|skip
 ·exact⟨.returned v,m',w',_,⟨v,aH,s'.o,s'.nx,rfl,hm',j7.heap,j7.tr,hq⟩,StepsIn.trans V9 (StepsIn.trans I3 (.one (fenced_calm (n:=0) (fr:=b.atR a' []) trivial iH rfl) (stepR_end rfl))),rfl,rfl,rfl,xz,fn,hf,tc⟩
 ·obtain⟨todo,hs⟩:=I3.1 rfl
  exact⟨.returned v,m',w',_,⟨v,aH,s'.o,s'.nx,rfl,hm',j7.heap,j7.tr,hq⟩,StepsIn.trans V9 hs,rfl,rfl,rfl,xz,fn,hf,tc⟩
theorem Ez{d c:Code}{ro:Option Nat}{Q:Exit->Act->World->Prop}{a:Act}{w:World}(h:d=c\/d= .scope c)(hg:∀l a w, ¬Q (.goto l) a w)(hc:c.vl P ro Q a w):d.vl P ro Q a w:=by
 rcases h with rfl|rfl
 ·exact hc
 ·exact z8 hc hg
theorem cX.EA (bB:P.follows .mixedOrders=true){f g:FuncId}{jM fm Au:IC}{t m r r1:Nat}{fR:List Operand}{rs:List ResultVar}(hf:Jr P f n jM fm g t fR rs)(hg:Ex P g m r r1 Au)
 {args:List V} {o:Nat->aa} {nx:Nat} {K X:V->(Nat->aa)->Nat->Prop} (hl:args.length<=n)
 (h:vQ P n nx true jM (Ey P n t fm fR g fun aX=>B8 P m r r1 Au aX rs K X) ⟨cR args,o,nx⟩):cX P f args o nx K X:=by
 obtain⟨fn,id,o1,o2,ca,cb,cd,MH,V8,hnt,BC,rP,hsc,e1,e2,e3,e4,e5,e6,ht,hla,Q4⟩:=hf.get
 obtain⟨gn,_,_,gc,Rf,Zk,_,_,Zl,_⟩:=hg.get
 refine⟨⟨fn,MH,V8,by rw[rP];rfl⟩,fun M φ w vals hH hd=> ?_⟩
 have hlen:=V.aE _ _ hd
 let s0:S:=⟨cR args,o,nx⟩
 let a0:Act:={tmps:=vals++Array.replicate (fn.ntmps - vals.size) undef,defers:=[]}
 have kO:cG M φ (hp o nx) w n ⟨[],true⟩ φ s0 a0 w:=by
  exact adv
 have ha:=jh (P:=P) (n:=n) (b:=nx) (rd:=true) bB ca _ _ s0 (fun _ _ h=>h) (by rw[hla];exact h)
 refine DP (ro:=none) (k:=0) (oJ MH rP (BB (iI (jc (P:=P) (H0:=hp o nx) (b:=nx) (cx:=⟨[],true⟩) (ro:=none) (fun id hu=>hu) (fun h=>by cases h) ca _ s0 φ a0 w ha kO) ?_)))
 rintro e a1 w1 ⟨x,s1,jJ,hq,Ad,hm⟩
 cases e<;>cases x<;>first|(exact hm.elim)|(exact hq.elim)|skip
 have xz:a1.defers=[]:=by
  obtain⟨ms,g1,_,g3,_⟩:=Ad.defers
  rw[g3 rfl]at g1;exact g1
 let cv:Array Value:=(fR.map a1.eval).toArray
 let fv:Value:= .func (.func g) #[] cv
 let dd:Deferred:={target:= .fn (.func g) cv,args:=#[]}
 let a2:Act:={tmps:=a1.tmps.setIfInBounds t fv,defers:=[dd]}
 have Wa:V.aG (ao M jJ s1.H) jJ s1.H w1 (fR.map s1.ev) cv.toList:=by
  simpa[cv]using lM (M:=M) (φ:=jJ) (H:=s1.H) (w:=w1) s1 a1 Ad.env fR
 refine Ez hsc (fun l a w h=> ?_) ?_
 ·exact h.elim
 refine BB (iI (Q:=fun e a w=>e= .normal/\a=a2/\w=w1) (qH (k:=0) (wpIn_region_list ?_)) ?_)
 ·have y1:Region.wanted o1 (yielded #[o1,o2] a1.tmps)=true:=by simp[Region.wanted,e3]
  have y2:∀tm,Region.wanted o2 (yielded #[o1,o2] tm)=true:=by intro tm;simp[Region.wanted,e6]
  have dF:(a1.put (some t) fv).eval (.tmp t)=fv:=by
   have:t<a1.tmps.size:=by rw[Ad.size];exact ht
   simp[Act.put,Act.eval,Array.getD,this]
  show wpListIn (eB none) 0 P #[o1,o2] _ [o1,o2] a1 w1
  unfold wpListIn
  rw[if_pos y1]
  have x1:(execOp a1.eval o1).run P w1= .ok (.value fv) w1:=by simp[execOp,e1,fv,cv,Instr.makeFunc]
  refine lR (fun c hc=>by rw[e1]at hc;cases hc) ?_
  rw[x1]
  show wpListIn (eB none) 0 P #[o1,o2] _ [o2] (a1.put o1.dst fv) w1
  rw[e2]
  unfold wpListIn
  rw[if_pos (y2 _)]
  have x2:(execOp (a1.put (some t) fv).eval o2).run P w1= .ok (.defer dd) w1:=by
   simp[execOp,e4,resolve,dF,Deferred.ofValue,fv,dd]
  refine⟨fun _ _=>trivial, ?_⟩
  have:(o2.semAt (eB none).round (a1.put (some t) fv).eval)=execOp (a1.put (some t) fv).eval o2:=rfl
  rw[this,x2]
  unfold Oper.uponIn
  simp only[e5,wpListIn,Act.put,xz,a2,and_self]
 rintro e a w2 ⟨rfl,rfl,rfl⟩
 have zS:t<a1.tmps.size:=by rw[Ad.size];exact ht
 let s2:S:=⟨au s1.env t (.func (.func g) [] (fR.map s1.ev)),s1.o,s1.nx⟩
 have La:cG M jJ s1.H w2 n ⟨[dd],false⟩ jJ s2 a2 w2:=by
  refine⟨Ad.heap,Trans.refl _ _ _,by simp[a2,Ad.size],⟨[],rfl,List.nodup_nil,fun _=>rfl,fun r hr=>by cases hr⟩,fun i=> ?_⟩
  simp only[s2,a2,aR]
  by_cases h1:i=t
  ·subst h1
   have:(a1.tmps.setIfInBounds i fv).getD i undef=fv:=by simp[Array.getD,zS]
   simp only[if_true];rw[this]
   exact⟨#[],cv,rfl,rfl,Wa⟩
  ·have:(a1.tmps.setIfInBounds t fv).getD i undef=a1.tmps.getD i undef:=by
    exact U1
   simp only[h1,if_false];rw[this]
   exact Ad.env i
 have hb:=jh (P:=P) (n:=n) (b:=s1.nx) (rd:=false) bB cb _ _ s2 (fun _ _ h=>h) (by rw[Q4];exact hq)
 refine iI (jc (P:=P) (H0:=s1.H) (b:=s1.nx) (cx:=⟨[dd],false⟩) (ro:=none) (fun id hu=>hu) (fun _=>rfl) cb _ s2 jJ a2 w2 hb La) ?_
 rintro e a3 w3 ⟨x,s3,φ3,hq3,I4,zc⟩
 obtain⟨ms,g1,g2,_,g4⟩:=I4.defers
 have hinv:(invoke dd.target dd.args).run P=fun w=> .ok (.enter g cv) w:=by
  funext w
  have:=mA (w:=w) ⟨gn,Rf,Zk,by rw[Zl];rfl⟩ cv
  simpa[dd,invoke]using this
 have last:∀ {w4:World} {tm:Array Value} {u:V} {val:Value} {m0:FrameMode},m0≠ .run->BE M jJ s1.H w2 φ3 s3 a3.tmps w4->V.den (ao M φ3 s3.H) φ3 s3.H w4 u val->
  ((m0= .returning/\val= .nilIface)\/m0= .panicking [{v:=val,recovered:=false}])->
  (Hj P m r r1 Au (fR.map s1.ev) u s3.o s3.nx fun o nx=>nk P rs K X .ret ⟨s3.env,o,nx⟩)->
  LeavesInM (eB none) 0 P fn a3.tmps (oE M φ (hp o nx) w K X) [dd] m0 w4:=by
  intro w4 tm u val m0 fO hB Gf hm0 bN
  have Zm:=V.aQ hB.tr _ _ Wa
  refine⟨fO, .inr ⟨fun h=>by simp[eB]at h, .func g,cv,g,cv,rfl,by rw[hinv],fun _ _=>trivial,CallsDIn.mono (LC (k:=0 - 1) bB hg bN (m:=m0) hB.heap Zm Gf hm0) ?_⟩⟩
  rintro e u' w5 ⟨v,φ5,o5,nx5,rfl,ahV,k1,k2,k3⟩
  show LeavesInM (eB none) 0 P fn a3.tmps (oE M φ (hp o nx) w K X) [] (settle u') w5
  rw[ahV]
  obtain⟨vs,h1,h2⟩:=DX k3
  rw[<- BC]at h1
  have aev:∀i,V.den (ao M φ5 (hp o5 nx5)) φ5 (hp o5 nx5) w5 (s3.env i) (a3.tmps.getD i undef):=fun i=>V.aS k2 _ _ (hB.env i)
  obtain⟨ajl,h3,h4⟩:=vP (P:=P) (s:=⟨s3.env,o5,nx5⟩) (a:=a3) k1 aev _ _ h1
  exact⟨_,oI h3,φ5,o5,nx5,_,k1,Ad.tr.trans (hB.tr.trans k2),DY h4,h2⟩
 have done:Hj P m r r1 Au (fR.map s1.ev) (.d .fN) s3.o s3.nx (fun o nx=>nk P rs K X .ret ⟨s3.env,o,nx⟩)->LeavesInM (eB none) 0 P fn a3.tmps (oE M φ (hp o nx) w K X) a3.defers .returning w3:=by
  intro bN
  rw[g1]
  exact iJ (P:=P) (k:=0) (fn:=fn) (R:=oE M φ (hp o nx) w K X) (u:= .returning) aJ (ds:=[dd]) (fun w4 hB=>last (tm:=a3.tmps) aJ hB (u:= .d .fN) (val:= .nilIface) (by simp[V.den,D.den]) (.inl ⟨rfl,rfl⟩) bN) ms w3 g2 g4 I4.toB
 cases e<;>cases x<;>first|(exact zc.elim)|skip
 ·exact done hq3
 ·exact hq3.elim
 ·exact done hq3
 ·rename_i v
  obtain⟨val,rfl,hd'⟩:=zc
  show LeavesInM (eB none) 0 P fn a3.tmps (oE M φ (hp o nx) w K X) a3.defers _ w3
  rw[g1]
  let aew:Nat->V:=fun i=>match i with|0=>v|i+1=>s3.env i
  have aex:(#[val]++a3.tmps).getD 0 undef=val:=by simp[Array.getD]
  have aey:∀i,(#[val]++a3.tmps).getD (i+1) undef=a3.tmps.getD i undef:=by
   intro i
   simp only[Array.getD_eq_getD_getElem?]
   rw[Array.getElem?_append_right (by simp)]
   simp
  have Yw:BE M jJ s1.H w2 φ3 ⟨aew,s3.o,s3.nx⟩ (#[val]++a3.tmps) w3:=⟨I4.heap,I4.tr,fun i=>by
   cases i with
   |zero=>rw[aex];exact hd'
   |succ i=>rw[aey];exact I4.env i⟩
  have Js:∀w4,BE M jJ s1.H w2 φ3 ⟨aew,s3.o,s3.nx⟩ (#[val]++a3.tmps) w4->LeavesInM (eB none) 0 P fn a3.tmps (oE M φ (hp o nx) w K X) [dd] (.panicking [{v:=val,recovered:=false}]) w4:=by
   intro w4 hB
   have hv4:=hB.env 0
   rw[aex]at hv4
   refine last (tm:=a3.tmps) aJ ⟨hB.heap,hB.tr,fun i=> ?_⟩ hv4 (.inr rfl) hq3
   have hs:=hB.env (i+1)
   rw[aey]at hs
   exact hs
  exact iJ (P:=P) (k:=0) (fn:=fn) (R:=oE M φ (hp o nx) w K X) (u:= .panicking [{v:=val,recovered:=false}]) aJ (ds:=[dd]) Js ms w3 g2 g4 Yw
end
end
theorem BO.OT {P:Program}{g:FuncId}{ds:List D}{o:Nat->aa}{fr:Nat}{ty:TypeId}{sz:Nat}{es:List D}
 (h:cX P g (ds.map .d) (fun _=> .no) 0 (fun v o1 _=>(∃j ep,v= .osl j ep/\o1 j= .arr ep ty sz es)\/(v= .aU/\es=[]/\0<sz)) (fun _ _ _=>False)):
 BO P g (ds.map .d) [] o fr (.osl fr 0) [(fr, .arr 0 ty sz es)]:=by
 refine⟨h.1,fun o' us M φ w vals _ c8 hH hd=> ?_⟩
 let cY:Place:=fun _=> .nilFunc
 have tJ:∀b, ¬cw cY (hp (fun _=> .no) 0) b:=by rintro b ⟨id,hl,_⟩;simp[hp,aa.live]at hl
 have hM:∀b,ao M φ ⟨o',us⟩ b->b<w.heap.size:=fun b hb=>hb.elim (hH.Bh b) fun hl=>(hH.ours b hl).2
 have zN:=(V.cA _ _).1 hd
 refine(h.2 (ao M φ ⟨o',us⟩) cY w vals (mB cY hM) ((V.cA _ _).2 (D.aQ (w:=w) (w':=w) (B:=ao M φ ⟨o',us⟩) (fun b _ hB=>⟨rfl,fun h=>h.elim hB (tJ b)⟩) _ _ zN))).mono ?_
 rintro e w' ⟨jJ,o1,n1,v,k1,k2,k3⟩
 have hk:ed (fun _=>False) w w':=⟨k2.keep.os,k2.keep.tape,k2.keep.output,k2.keep.size,fun k hk _=>k2.keep.block k hk (tJ k)⟩
 have C2:(⟨o',us⟩:Hp).put [(fr, .arr 0 ty sz es)]=⟨put o' [(fr, .arr 0 ty sz es)],fun id=>us id\/id=fr⟩:=by
  simp only[Hp.put]
  congr 1
  funext id
  simp
 have fin:∀ (val:Value) (xs:List Value),(∀b,dG val=some b->w.heap.size<=b/\b<w'.heap.size)->0<sz->w'.ownsRow 0 ty sz val es.length xs->
  (eY (ao M (au φ fr val) ((⟨o',us⟩:Hp).put [(fr, .arr 0 ty sz es)])) w' sz es xs)->
  val.oneCell'=true->
  ∃aH,ay M aH ⟨put o' [(fr, .arr 0 ty sz es)],fun id=>us id\/id=fr⟩ w'/\Trans φ ⟨o',us⟩ w aH ⟨put o' [(fr, .arr 0 ty sz es)],fun id=>us id\/id=fr⟩ w'/\
   ∃OU,Ending.returned val= .returned OU/\V.den (ao M aH ⟨put o' [(fr, .arr 0 ty sz es)],fun id=>us id\/id=fr⟩) aH ⟨put o' [(fr, .arr 0 ty sz es)],fun id=>us id\/id=fr⟩ w' (.osl fr 0) OU:=by
  intro val xs kJ dU dI bD Rg
  have rO:=js hH hk c8 (.arr 0 ty sz es) val kJ (by
   unfold aO
   rw[show((⟨o',us⟩:Hp).put [(fr, .arr 0 ty sz es)]).o fr= .arr 0 ty sz es by simp]
   refine⟨dU,xs, ?_,bD⟩
   rw[show au φ fr val fr=val by simp]
   exact dI)
  have Wb:=eg (φ:=φ) (H:=⟨o',us⟩) hk c8 (.arr 0 ty sz es) val (fun b hb=>(kJ b hb).1)
  rw[C2]at rO Wb
  refine⟨au φ fr val,rO,Wb,val,rfl,Rg, .inr rfl,fun e he=> ?_⟩
  have mc:0=e:=by
   have:(put o' [(fr,aa.arr 0 ty sz es)] fr).bV=some 0:=by simp[put,aa.bV]
   exact adh
  exact⟨ae,fun _=>aJ⟩
 cases e with
 |outgrown=>exact k3.elim
 |panicked ch=>obtain⟨_,_,_,h⟩:=k3;exact h.elim
 |returned val=>
  obtain⟨g1,⟨j,ep,rfl,hj⟩|⟨rfl,rfl,dU⟩⟩:=k3
  ·obtain⟨v0,v1,v2⟩:=g1
   have fK:val=jJ j:=(v2 ep (by show(o1 j).bV=some ep;rw[hj];rfl)).2 rfl
   have cU:∀b,dG val=some b->cw jJ (hp o1 n1) b:=fun b hb=>⟨j,by show(o1 j).live=true;rw[hj];rfl,by rw[<- fK];exact hb⟩
   have kJ:∀b,dG val=some b->w.heap.size<=b/\b<w'.heap.size:=fun b hb=>⟨(k2.grow b (cU b hb)).resolve_left (tJ b),(k1.ours b (cU b hb)).2⟩
   have Hk:=k1.ok j
   unfold aO at Hk
   rw[show(hp o1 n1).o j= .arr ep ty sz es from hj]at Hk
   obtain⟨dU,xs,dI,bD⟩:=Hk
   have hBs:∀b,ao M (au φ fr val) ((⟨o',us⟩:Hp).put [(fr, .arr 0 ty sz es)]) b->ao (ao M φ ⟨o',us⟩) jJ (hp o1 n1) b:=by
    rintro b (hb|⟨id,hl,hb⟩)
    ·exact .inl (.inl hb)
    ·by_cases e:id=fr
     ·subst e
      simp at hb
      exact .inr (cU b hb)
     ·simp[e]at hl hb
      exact .inl (.inr ⟨id,hl,hb⟩)
   exact fin val xs kJ dU (by rw[fK];exact dI) (bD.mono (w:=w') (w':=w') (fun b _ hB=>⟨rfl,fun h=>hB (hBs b h)⟩)) v0
  ·have g1:val= .slice none 0 0:=g1
   subst g1
   exact acN
theorem BO.Sy {P:Program}{g:FuncId}{args:List V}{ds:List D}{o:Nat->aa}{fr:Nat}{ty:TypeId}{sz:Nat}{es:List D}
 (fL:cF o args=some ds) (nX:D.kN es=true) (h:cX P g (ds.map .d) (fun _=> .no) 0 (fun v o1 _=>(∃j ep,v= .osl j ep/\o1 j= .arr ep ty sz es)\/(v= .aU/\es=[]/\0<sz)) (fun _ _ _=>False)):
 BO P g args (V.bC args) o fr (.osl fr 0) [(fr, .arr 0 ty sz es)]:=by
 refine⟨h.1,fun o' us M φ w vals hag c8 hH hd=> ?_⟩
 obtain⟨f1,f2,f3,f4,f5⟩:=cW hH (V.bC args) (fun id aq=>(hag id aq).2)
 generalize hHF:(⟨o',us⟩:Hp).put (bY (⟨o',us⟩:Hp).o (V.bC args))=HF at f1 f2 f3
 let cY:Place:=fun _=> .nilFunc
 have tJ:∀b, ¬cw cY (hp (fun _=> .no) 0) b:=by rintro b ⟨id,hl,_⟩;simp[hp,aa.live]at hl
 have hM:∀b,ao M φ HF b->b<w.heap.size:=fun b hb=>hb.elim (f1.Bh b) fun hl=>(f1.ours b hl).2
 have zN:D.aG (ao M φ HF) w ds vals.toList:=dN f1 args ds _ (fun id aq=>by rw[f3 id aq];show(o' id).fz=(o id).fz;rw[(hag id aq).1]) fL (V.aQ f2 _ _ hd)
 refine(h.2 (ao M φ HF) cY w vals (mB cY hM) ((V.cA _ _).2 (D.aQ (w:=w) (w':=w) (B:=ao M φ HF) (fun b _ hB=>⟨rfl,fun h=>h.elim hB (tJ b)⟩) _ _ zN))).mono ?_
 rintro e w' ⟨jJ,o1,n1,v,k1,k2,k3⟩
 have hk:ed (fun _=>False) w w':=⟨k2.keep.os,k2.keep.tape,k2.keep.output,k2.keep.size,fun k hk _=>k2.keep.block k hk (tJ k)⟩
 have C2:(⟨o',us⟩:Hp).put [(fr, .arr 0 ty sz es)]=⟨put o' [(fr, .arr 0 ty sz es)],fun id=>us id\/id=fr⟩:=by
  simp only[Hp.put]
  congr 1
  funext id
  simp
 have fin:∀ (val:Value) (xs:List Value),(∀b,dG val=some b->w.heap.size<=b/\b<w'.heap.size)->0<sz->w'.ownsRow 0 ty sz val es.length xs->
  (eY (ao M (au φ fr val) ((⟨o',us⟩:Hp).put [(fr, .arr 0 ty sz es)])) w' sz es xs)->
  val.oneCell'=true->
  ∃aH,ay M aH ⟨put o' [(fr, .arr 0 ty sz es)],fun id=>us id\/id=fr⟩ w'/\Trans φ ⟨o',us⟩ w aH ⟨put o' [(fr, .arr 0 ty sz es)],fun id=>us id\/id=fr⟩ w'/\
   ∃OU,Ending.returned val= .returned OU/\V.den (ao M aH ⟨put o' [(fr, .arr 0 ty sz es)],fun id=>us id\/id=fr⟩) aH ⟨put o' [(fr, .arr 0 ty sz es)],fun id=>us id\/id=fr⟩ w' (.osl fr 0) OU:=by
  intro val xs kJ dU dI bD Rg
  have rO:=js hH hk c8 (.arr 0 ty sz es) val kJ (by
   unfold aO
   rw[show((⟨o',us⟩:Hp).put [(fr, .arr 0 ty sz es)]).o fr= .arr 0 ty sz es by simp]
   refine⟨dU,xs, ?_,bD⟩
   rw[show au φ fr val fr=val by simp]
   exact dI)
  have Wb:=eg (φ:=φ) (H:=⟨o',us⟩) hk c8 (.arr 0 ty sz es) val (fun b hb=>(kJ b hb).1)
  rw[C2]at rO Wb
  refine⟨au φ fr val,rO,Wb,val,rfl,Rg, .inr rfl,fun e he=> ?_⟩
  have mc:0=e:=by
   have:(put o' [(fr,aa.arr 0 ty sz es)] fr).bV=some 0:=by simp[put,aa.bV]
   exact adh
  exact⟨ae,fun _=>aJ⟩
 cases e with
 |outgrown=>exact k3.elim
 |panicked ch=>obtain⟨_,_,_,h⟩:=k3;exact h.elim
 |returned val=>
  obtain⟨g1,⟨j,ep,rfl,hj⟩|⟨rfl,rfl,dU⟩⟩:=k3
  ·obtain⟨v0,v1,v2⟩:=g1
   have fK:val=jJ j:=(v2 ep (by show(o1 j).bV=some ep;rw[hj];rfl)).2 rfl
   have cU:∀b,dG val=some b->cw jJ (hp o1 n1) b:=fun b hb=>⟨j,by show(o1 j).live=true;rw[hj];rfl,by rw[<- fK];exact hb⟩
   have kJ:∀b,dG val=some b->w.heap.size<=b/\b<w'.heap.size:=fun b hb=>⟨(k2.grow b (cU b hb)).resolve_left (tJ b),(k1.ours b (cU b hb)).2⟩
   have Hk:=k1.ok j
   unfold aO at Hk
   rw[show(hp o1 n1).o j= .arr ep ty sz es from hj]at Hk
   obtain⟨dU,xs,dI,bD⟩:=Hk
   obtain⟨evs,e1,e2,e3⟩:=bD
   exact fin val xs kJ dU (by rw[fK];exact dI) ⟨evs,e1,e2,D.ng _ _ nX e3⟩ v0
  ·have g1:val= .slice none 0 0:=g1
   subst g1
   exact acN
theorem BO.Sz {P:Program}{g:FuncId}{args:List V}{ds:List D}{o0 o:Nat->aa}{rd:List Nat}{fr:Nat}{v:V}{Δ:List (Nat×aa)}(aq:V.bC args=[])(fL:cF o0 args=some ds)
 (h:BO P g (ds.map .d) rd o fr v Δ):BO P g args rd o fr v Δ:=
 ⟨h.1,fun o' us M φ w vals h1 h2 hH hd=>h.2 o' us M φ w vals h1 h2 hH ((V.cA _ _).2 (dN hH args ds _ (by rw[aq];intro id h;cases h) fL hd))⟩
def OV(P:Program)(f:FuncId):Prop:=
 Enters P f/\∀ (w:World) (b:Nat) (es:Array MapEntry) (clock:Nat),w.heap[b]? =some (.map es clock)->
  Calls P f #[.map (some b)] w fun e w'=>e= .returned (.map (some w.heap.size))/\w'=w.alloc (.map es clock)
theorem cX.Zn {P:Program}{f:FuncId}(h:OV P f){o:Nat->aa}{nx id:Nat}{kt vt:TypeId}{l:List (D×D)}(ho:o id= .map kt vt l){K X:V->(Nat->aa)->Nat->Prop}
 (hK:K (.mp nx) (au o nx (.map kt vt l)) (nx+1)):cX P f [.mp id] o nx K X:=by
 refine⟨h.1,fun M φ w vals hH hd=> ?_⟩
 have hlen:=V.aE _ _ hd
 obtain⟨v,rfl⟩:∃v,vals=#[v]:=by
  match vals,hlen with
  |⟨[v]⟩,_=>exact⟨v,rfl⟩
 obtain⟨v',tc,Gf⟩:=V.dL _ _ 0 (.mp id) hd rfl
 simp only[List.getElem?_cons_zero,Option.some.injEq]at tc
 subst tc
 have bp:=hH.ok id
 have wu:(hp o nx).o id= .map kt vt l:=ho
 simp only[aO,wu]at bp
 obtain⟨b,es,clock,e1,e2,e3,e4⟩:=bp
 have hv:v=φ id:=Gf.2.2 (by rw[wu];rfl)
 rw[hv,e1]
 refine(h.2 w b es clock e2).mono fun e w' ⟨he,hw⟩=> ?_
 subst he;subst hw
 have c8: ¬ (hp o nx).us nx:=fun h=>Nat.lt_irrefl _ h
 have C2:(hp o nx).put [(nx, .map kt vt l)]=hp (au o nx (.map kt vt l)) (nx+1):=by
  simp only[Hp.put,hp]
  congr 1
  funext j
  simp only[List.map_cons,List.map_nil,List.mem_singleton,eq_iff_iff]
  omega
 have hvb:∀c,dG (.map (some w.heap.size))=some c->w.heap.size<=c/\c<(w.alloc (.map es clock)).heap.size:=by
  intro c hc;simp[dG]at hc;subst hc;simp
 have ht:=eg (φ:=φ) (H:=hp o nx) (cO w (.map es clock)) c8 (.map kt vt l) (.map (some w.heap.size)) fun c hc=>(hvb c hc).1
 refine⟨au φ nx (.map (some w.heap.size)),au o nx (.map kt vt l),nx+1, .mp nx, ?_, ?_, ?_,hK⟩
 ·exact ads
 ·rw[<- C2];exact ht
 ·rw[<- C2];exact⟨rfl,aJ,fun _=>aJ⟩
theorem cX.SA {P:Program}{f:FuncId}(h:OV P f){o:Nat->aa}{nx id:Nat}{kt vt:TypeId}{l:List (D×D)}(ho:o id= .gw l){K X:V->(Nat->aa)->Nat->Prop}
 (hK:K (.mp nx) (au o nx (.map kt vt l)) (nx+1)):cX P f [.mp id] o nx K X:=by
 refine⟨h.1,fun M φ w vals hH hd=> ?_⟩
 have hlen:=V.aE _ _ hd
 obtain⟨v,rfl⟩:∃v,vals=#[v]:=by
  match vals,hlen with
  |⟨[v]⟩,_=>exact⟨v,rfl⟩
 obtain⟨v',tc,Gf⟩:=V.dL _ _ 0 (.mp id) hd rfl
 simp only[List.getElem?_cons_zero,Option.some.injEq]at tc
 subst tc
 have bp:=hH.ok id
 have wu:(hp o nx).o id= .gw l:=ho
 simp only[aO,wu]at bp
 obtain⟨b,es,clock,e1,e2,_,e3,e4⟩:=bp
 have hv:v=φ id:=Gf.2.2 (by rw[wu];rfl)
 rw[hv,e1]
 refine(h.2 w b es clock e2).mono fun e w' ⟨he,hw⟩=> ?_
 subst he;subst hw
 have c8: ¬ (hp o nx).us nx:=fun h=>Nat.lt_irrefl _ h
 have C2:(hp o nx).put [(nx, .map kt vt l)]=hp (au o nx (.map kt vt l)) (nx+1):=by
  simp only[Hp.put,hp]
  congr 1
  funext j
  simp only[List.map_cons,List.map_nil,List.mem_singleton,eq_iff_iff]
  omega
 have hvb:∀c,dG (.map (some w.heap.size))=some c->w.heap.size<=c/\c<(w.alloc (.map es clock)).heap.size:=by
  intro c hc;simp[dG]at hc;subst hc;simp
 have ht:=eg (φ:=φ) (H:=hp o nx) (cO w (.map es clock)) c8 (.map kt vt l) (.map (some w.heap.size)) fun c hc=>(hvb c hc).1
 refine⟨au φ nx (.map (some w.heap.size)),au o nx (.map kt vt l),nx+1, .mp nx, ?_, ?_, ?_,hK⟩
 ·exact ads
 ·rw[<- C2];exact ht
 ·rw[<- C2];exact⟨rfl,aJ,fun _=>aJ⟩
end Go.Proofs.YtnkamdiiakdkgaaGreat
