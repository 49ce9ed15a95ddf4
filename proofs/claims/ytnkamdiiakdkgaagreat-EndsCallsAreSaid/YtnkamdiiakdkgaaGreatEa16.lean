/-
  A PART OF THE PROOF. Conditions: none.
-/
import Derived.Test.YtnkamdiiakdkgaaGreatEa15
set_option linter.unusedSimpArgs false
set_option linter.unusedVariables false
namespace Go.Proofs.YtnkamdiiakdkgaaGreat
theorem IJ(a b:List Tm)(ha:a.length<=9223372036854775807)(hb:b.length<=9223372036854775807)(g:Nat)(h:∀x∈a,∀y∈b,aR Tryz.prog g [x.d,y.d] (.ret [.bool (fF x y)]))(o:Nat->ab)(nx:Nat)(hg:Good o nx)(K X:V->(Nat->ab)->Nat->Prop)
 (hK:∀o' nx',nx<=nx'->Good o' nx'->(∀j,j<nx->o' j=o j)->K (.d (.bool (a.length==b.length&&gZ a b))) o' nx'):
 cZ Tryz.prog 149 [.d (.sl (a.map Tm.d)), .d (.sl (b.map Tm.d)), .func (.func g) [] []] o nx K X:=by
 refine cZ.aG mix On aK ?_
 rw[RR]
 refine qo ?_
 refine ai (fun h1=> ?_) (fun h1=> ?_)
 ·refine bc ?_
  have:(a.length==b.length&&gZ a b)=false:=by
   have:(a.length==b.length)=false:=by
    rw[Bool.eq_false_iff];intro h
    simp at h;simp[h]at h1
   rw[this];rfl
  rw[this]at hK
  exact hK _ _ ag (hg.mono ag) (fun _ _=>rfl)
 ·have hl:a.length=b.length:=by simp at h1;omega
  have Ky:(a.length==b.length)=true:=by simpa using hl
  rw[Ky,Bool.true_and]at hK
  refine qo ?_
  refine aC (fun k:Nat=>⟨aW [.d (.sl (a.map Tm.d)), .d (.sl (b.map Tm.d)), .func (.func g) [] [], .aa, .aa, .aa, .aa, .aa, .aa, .aa, .aa, .aa, .aa, .aa, .aa, .d (.sl (a.map Tm.d)), .d (.i a.length), .d (.i k)],o,nx⟩)
   (fun k=>k<=a.length/\∀i,i<k->∀x y,a[i]? =some x->b[i]? =some y->fF x y=true) (fun k=>a.length - k) 0 ⟨Nat.zero_le _,fun i h=>ag⟩ (bf.bC _ (Nat.le_refl _) ag hg (fun _ _=>rfl) ?_) (fun k hk=> ?_)
  ·exact cN
  refine bc ?_
  refine ai (fun h2=> ?_) (fun h2=> ?_)
  ·simp at h2
   obtain⟨x,hx⟩:=aB h2
   obtain⟨y,hy⟩:=aB (l:=b) (k:=k) ag
   refine Up hx hy ?_
   refine aD (h x (List.mem_of_getElem? hx) y (List.mem_of_getElem? hy)) rfl ?_
   refine bc ?_
   refine ai (fun h3=> ?_) (fun h3=> ?_)
   ·refine bc ?_
    simp at h3
    have:gZ a b=false:=by
     rw[Bool.eq_false_iff];intro h4
     have:=(ke _ _ hl).1 h4 k x y hx hy
     rw[h3]at this;cases this
    rw[this]at hK
    refine hK _ _ ag ?_ (fun j hj=>by(repeat(first|rfl|rw[ad]|rw[af _ _ _ _ (by omega)])))
    exact eH
   ·refine bc ?_
    simp at h3
    refine aj (k+1) ⟨h2,fun i hi u v hu hv=> ?_⟩ ag (bf.bC _ (Nat.le_refl _) ag hg (fun j hj=>by(repeat(first|rfl|rw[ad]|rw[af _ _ _ _ (by omega)]))) ?_)
    ·by_cases e:i=k
     ·subst e
      rw[hx]at hu;rw[hy]at hv
      exact Mt
     ·exact hk.2 i ag u v hu hv
    ·exact cN
  ·refine bc ?_
   simp at h2
   have:gZ a b=true:=(ke _ _ hl).2 fun i x y hx hy=>hk.2 i (by have:=(List.getElem?_eq_some_iff.1 hx).1;omega) x y hx hy
   rw[this]at hK
   exact hK _ _ ag (hg.mono ag) (fun _ _=>rfl)
def lk:List (Int×Int)->Int->Option Int
 |[],_=>none
 |p::m,v=>if p.1=v then some p.2 else lk m v
abbrev rv(m:List (Int×Int)):Prop:=(m.map (·.1)).Nodup
theorem DK{m:List (Int×Int)}{v k:Int}(hk:rv m):lk m v=some k↔(v,k)∈m:=by
 induction m with
 |nil=>simp[lk]
 |cons p m ih=>
  rw[rv,List.map_cons,List.nodup_cons]at hk
  simp only[lk,List.mem_cons]
  by_cases h:p.1=v
  ·rw[if_pos h]
   constructor
   ·intro e;injection e with e;exact .inl (by rw[<- h, <- e])
   ·rintro(e|e)
    ·rw[<- e]
    ·exact absurd (h ▸ List.mem_map.2 ⟨_,e,rfl⟩) hk.1
  ·rw[if_neg h,ih hk.2]
   constructor
   ·exact .inr
   ·rintro(e|e)
    ·exact absurd (by rw[<- e]) h
    ·exact e
def ints(m:List (Int×Int)):List (Int×D):=m.map fun p=>(p.1,D.i p.2)
theorem qc:∀ (m:List (Int×Int)) (v:Int) (i:Nat),(match eV v (ints m) i with|some (_,x)=>some x|none=>none)=(lk m v).map D.i
 |[],v,i=>rfl
 |p::m,v,i=>by
  have ih:=qc m v (i+1)
  simp only[ints,List.map_cons,eV,lk]at ih|-
  by_cases h:v=p.1
  ·subst h;simp
  ·have h2: ¬p.1=v:=fun e=>h e.symm
   simp only[beq_iff_eq,h,h2,if_false]
   exact ih
theorem kT{m:List (Int×Int)}{v k:Int}(h:lk m v=some k):∃j,eV v (ints m) 0=some (j,D.i k):=by
 have:=qc m v 0
 rw[h]at this
 cases ha:eV v (ints m) 0 with
 |none=>rw[ha]at this;cases this
 |some p=>obtain⟨j,x⟩:=p;rw[ha]at this;simp at this;exact⟨j,by rw[this]⟩
theorem kU{m:List (Int×Int)}{v:Int}(h:lk m v=none):eV v (ints m) 0=none:=by
 have:=qc m v 0
 rw[h]at this
 cases ha:eV v (ints m) 0 with
 |none=>rfl
 |some p=>obtain⟨j,x⟩:=p;rw[ha]at this;cases this
def fq(m:List (Int×Int))(v:Int):Int:=(lk m v).getD 0
def jO:List (Int×Int)->Int->Int->List (Int×Int)
 |[],v,w=>[(v,w)]
 |p::m,v,w=>if p.1=v then(v,w)::m else p::jO m v w
theorem Am(v:Int):∀ (m:List (Int×D)) (i:Nat),eV v m (i+1)=(eV v m i).map fun p=>(p.1+1,p.2)
 |[],_=>rfl
 |p::m,i=>by
  have ih:=Am v m (i+1)
  simp only[eV]
  by_cases h:(v==p.1)=true
  ·simp[h]
  ·simp only[h,if_false];exact ih
theorem Fu{v:Int}{p:Int×D}{m:List (Int×D)}{x:D}(h: ¬v=p.1):uC v x (p::m)=p::uC v x m:=by
 have hb: ¬ ((v==p.1)=true):=by simpa using h
 unfold uC
 simp only[eV,hb,if_false]
 rw[Am]
 cases eV v m 0 with
 |none=>rfl
 |some q=>obtain⟨i,y⟩:=q;rfl
theorem ki:∀ (m:List (Int×Int)) (v w:Int),uC v (D.i w) (ints m)=ints (jO m v w)
 |[],v,w=>by simp[uC,eV,ints,jO]
 |p::m,v,w=>by
  have ih:=ki m v w
  by_cases h:p.1=v
  ·subst h
   simp[uC,eV,ints,jO]
  ·have h': ¬v=p.1:=fun e=>h e.symm
   have e2:ints (p::m)=(p.1,D.i p.2)::ints m:=rfl
   rw[e2,Fu h',ih]
   simp[jO,h,ints]
def ry(m:List (Int×Int))(v:Int):List (Int×Int):=jO m v (IntKind.i64.wrap (fq m v+1))
@[reducible] def oV (m:List (Int×Int)):ab:= .map 3 3 (enc (D.int .i64) (ints m))
def de(op:Int)(m:List (Int×Int))(x:Tm):List (Int×Int):=if x.op=op then ry m x.n else m
def Zf(R:List (Int×Int)->Prop)(o:Nat->ab)(nx:Nat)(K:V->(Nat->ab)->Nat->Prop):Prop:=
 ∀o' nx' id m,nx<=id->id<nx'->Good o' nx'->(∀j,j<nx->o' j=o j)->o' id=oV m->R m->K (.mp id) o' nx'
theorem Sy(t:Tm)(ht:t.fits)(o:Nat->ab)(nx:Nat)(hg:Good o nx)(K X:V->(Nat->ab)->Nat->Prop)
 (hK:Zf (fun m=>m=(eN t).foldl (de 8) []) o nx K):cZ Tryz.prog 136 [.d t.d] o nx K X:=by
 refine cZ.aG mix Ol aK ?_
 rw[RP]
 refine qo ?_
 refine fh (vT t _ _ _ _ ?_)
 refine qo ?_
 have hG:∀j,j<nx+10->aA (aA (aA (aA (aA o nx (.row [.d (.i t.op), .d (.i t.n), .d (.sl (t.kids.map Tm.d))])) (nx+2) (.map 3 3 [])) (nx+3) (.row [.d .gE])) (nx+3) (.row [.mp (nx+2)])) (nx+6) (.row t.row) j=aA (aA (aA (aA o nx (.row t.row)) (nx+3) (.row [.mp (nx+2)])) (nx+6) (.row t.row)) (nx+2) (oV []) j:=by
  intro j _
  exact JV
 refine oT (σ:=List (Int×Int)) t ht [.aa, .ptr nx 0, .aa, .ptr (nx+3) 0] ?_ cl rfl eH nP (ad _ _ _)
  (fun s=>aA (aA (aA (aA o nx (.row t.row)) (nx+3) (.row [.mp (nx+2)])) (nx+6) (.row t.row)) (nx+2) (oV s)) (fun _=>none) (de 8) (fun _=>True) [] trivial rfl hG (fun _ _ _ _ _ _=>trivial) ?_ ?_
 ·exact Eb
 ·intro L hL uL x hx s' _ _ o3 n3 hI hn F6 K' X' cm
  simp only[lZ]
  have hg:=hI.bB
  have hle:=hI.le
  have q1:o3 (nx+3)= .row [.mp (nx+2)]:=by rw[hI.eq (nx+3) (by omega)];(repeat(first|rfl|rw[ad]|rw[af _ _ _ _ (by omega)]))
  have q2:o3 (nx+2)=oV s':=by rw[hI.eq (nx+2) (by omega)];(repeat(first|rfl|rw[ad]|rw[af _ _ _ _ (by omega)]))
  refine bc ?_
  refine kb hL (pd:=none) ?_ ?_
  ·(repeat(first|rfl|rw[ad]|rw[af _ _ _ _ (by omega)]))
   exact F6
  refine JD q1 q2 ?_
  have z1:nx≠n3:=ag
  have z2:∀k,nx≠n3+k:=fun k=>ag
  have z3:nx+2≠n3:=ag
  have z4:nx+3≠n3:=ag
  have same:∀ (o':Nat->ab) (n':Nat) (l:List (Int×Int)),Good o' n'->n3<=n'->(∀j,j<nx+10->o' j=aA o3 (nx+2) (oV l) j)->cF (nx+10) (aA (aA (aA (aA o nx (.row t.row)) (nx+3) (.row [.mp (nx+2)])) (nx+6) (.row t.row)) (nx+2) (oV l)) o' n':=fun o' n' l k1 k2 k3=>⟨k1,ag,fun j hj=>by
   rw[k3 j hj]
   by_cases e:j=nx+2
   ·subst e;rw[ad,ad]
   ·rw[af _ _ _ _ e,af _ _ _ _ e,hI.eq j hj,af _ _ _ _ e]⟩
  refine ai (fun h3=> ?_) (fun h3=> ?_)
  ·have mU:x.op=8:=by simpa using h3
   have hp:de 8 s' x=ry s' x.n:=by unfold de;rw[if_pos mU]
   rw[hp]at cm
   cases LH:lk s' x.n with
   |none=>
    have hc:ry s' x.n=jO s' x.n (0+1):=by unfold ry fq;rw[LH];rfl
    rw[hc]at cm
    simp+contextual (disch:=first|omega|simp only[go_sem,false_implies]) only[go_sem,wrap64,if_pos,q1,q2,z1,z2,z3,z4,kU LH,ki,Nat.add_assoc,Nat.left_eq_add,Nat.add_eq_left,Nat.add_left_cancel_iff]
    refine cm _ _ _ .busy none ag (same _ _ _ eH ag fun j hj=> ?_) eO (fun j h3 h4=>by(repeat(first|rfl|rw[ad]|rw[af _ _ _ _ (by omega)])))
    by_cases e:j=nx+2
    ·exact Ed
    ·exact eO
   |some c=>
    obtain⟨k,hk⟩:=kT LH
    have hc:ry s' x.n=jO s' x.n (IntKind.i64.wrap (c+1)):=by unfold ry fq;rw[LH];rfl
    rw[hc]at cm
    simp+contextual (disch:=first|omega|simp only[go_sem,false_implies]) only[go_sem,wrap64,if_pos,q1,q2,z1,z2,z3,z4,hk,ki,Nat.add_assoc,Nat.left_eq_add,Nat.add_eq_left,Nat.add_left_cancel_iff]
    refine cm _ _ _ .busy none ag (same _ _ _ eH ag fun j hj=> ?_) eO (fun j h3 h4=>by(repeat(first|rfl|rw[ad]|rw[af _ _ _ _ (by omega)])))
    by_cases e:j=nx+2
    ·exact Ed
    ·exact eO
  ·have hp:de 8 s' x=s':=by unfold de;rw[if_neg (by simpa using h3)]
   rw[hp]at cm
   refine bc ?_
   refine cm _ _ _ .busy none ag (same _ _ _ eH ag fun j hj=> ?_) eO (fun j h3 h4=>by(repeat(first|rfl|rw[ad]|rw[af _ _ _ _ (by omega)])))
   by_cases e:j=nx+2
   ·exact MK
   ·exact eO
 ·intro o' n' hI
  have hle:=hI.le
  simp only[nB]
  have q1:o' (nx+3)= .row [.mp (nx+2)]:=by rw[hI.eq (nx+3) (by omega)];(repeat(first|rfl|rw[ad]|rw[af _ _ _ _ (by omega)]))
  refine gD q1 ?_
  have vK:∀ (l:List Tm) (m:List (Int×Int)),(aq (xC (fun _=>none) (de 8)) m l).1=l.foldl (de 8) m:=by
   intro l
   induction l with
   |nil=>intro m;rfl
   |cons y l ih=>intro m;simp only[aq,xC,Option.isNone_none,if_true];exact ih _
  rw[vK]at hI
  refine hK _ _ _ _ ag ag (hI.bB.mono ag) (fun j hj=> ?_) (by rw[hI.eq (nx+2) (by omega),ad]) rfl
  rw[hI.eq j (by omega)];(repeat(first|rfl|rw[ad]|rw[af _ _ _ _ (by omega)]))
theorem An(l:List Tm)(hl:l.length<=1000000)(hf:∀t∈l,t.fits)(o:Nat->ab)(nx:Nat)(hg:Good o nx)(K X:V->(Nat->ab)->Nat->Prop)
 (hK:Zf (fun m=>m=(l.flatMap eN).foldl (de 1) []) o nx K):cZ Tryz.prog 135 [.d (.sl (l.map Tm.d))] o nx K X:=by
 refine cZ.aG mix Oj aK ?_
 rw[RN]
 refine O7 ?_
 let Hm:List (Int×Int)->Nat->ab:=fun m=>aA (aA o (nx+2) (.row [.mp (nx+1)])) (nx+1) (oV m)
 have hgm:∀m,Good (Hm m) (nx+7):=fun m=>((hg.mono ag).aA ag lA).aA ag rfl
 have Qd:∀m,Hm m (nx+1)=oV m:=fun m=>ad _ _ _
 have Kx:∀m,Hm m (nx+2)= .row [.mp (nx+1)]:=fun m=>by show aA _ (nx+1) _ (nx+2)=_;rw[af _ _ _ _ (by omega),ad]
 have uw:∀m j,j≠nx+1->Hm m j=Hm [] j:=fun m j h=>by show aA _ (nx+1) _ j=aA _ (nx+1) _ j;rw[af _ _ _ _ h,af _ _ _ _ h]
 refine aC (fun i:Nat×List (Int×Int)=>⟨aW [.aa, .aa, .aa, .ptr (nx+2) 0, .aa, .aa, .aa, .aa, .d (.sl (l.map Tm.d)), .d (.i l.length), .d (.i i.1)],Hm i.2,nx+7⟩)
  (fun i=>i.1<=l.length/\i.2=((l.take i.1).flatMap eN).foldl (de 1) []) (fun i=>l.length - i.1) (0,[]) ⟨Nat.zero_le _,rfl⟩ (bf.bC _ (show nx<=nx+7 from ag) ag (hgm _) (fun j hj=> ?_) ?_) ?_
 ·show _=aA (aA o (nx+2) (.row [.mp (nx+1)])) (nx+1) (oV []) j
  exact JV
 ·exact cN
 rintro⟨k,m⟩ ⟨hk,hm⟩
 simp only at hk hm
 refine bc ?_
 refine ai (fun h2=> ?_) (fun h2=> ?_)
 ·simp at h2
  obtain⟨x,hx⟩:=aB h2
  have eC:=List.mem_of_getElem? hx
  have jQ:((l.take (k+1)).flatMap eN).foldl (de 1) []=(eN x).foldl (de 1) m:=by
   rw[List.take_add_one,hx,hm];simp
  have abS:=hgm m
  have e1:=Qd m
  have e2:=Kx m
  have e3:=uw m
  clear_value Hm
  refine JR hx ?_
  refine fh (vT x _ _ _ _ ?_)
  refine qo ?_
  let G:List (Int×Int)->Nat->ab:=fun s=>aA (aA (aA (Hm m) (nx+10) (.row x.row)) (nx+13) (.row x.row)) (nx+1) (oV s)
  have hG:∀j,j<nx+17->aA (aA (aA (Hm m) (nx+10) (.row [.d (.int .i64 0), .d (.int .i64 0), .a8])) (nx+10) (.row [.d (.i x.op), .d (.i x.n), .d (.sl (x.kids.map Tm.d))])) (nx+13) (.row x.row) j=G m j:=by
   intro j _
   show _=aA (aA (aA (Hm m) (nx+10) (.row x.row)) (nx+13) (.row x.row)) (nx+1) (oV m) j
   by_cases e:j=nx+1
   ·subst e;(repeat(first|rfl|rw[ad]|rw[af _ _ _ _ (by omega)]))
    exact e1
   ·rw[af _ (nx+1) _ _ e,fI]
  have gm:∀s,G s (nx+1)=oV s:=fun s=>ad _ _ _
  have g2:∀s,G s (nx+2)= .row [.mp (nx+1)]:=fun s=>by
   show aA _ (nx+1) _ (nx+2)=_
   rw[af _ _ _ _ (by omega),af _ _ _ _ (by omega),af _ _ _ _ (by omega)];exact e2
  have g3:∀s s' j,j≠nx+1->G s j=G s' j:=fun s s' j h=>by show aA _ (nx+1) _ j=aA _ (nx+1) _ j;rw[af _ _ _ _ h,af _ _ _ _ h]
  have g4:∀s j,j<nx+7->j≠nx+1->G s j=Hm m j:=fun s j h h'=>by
   show aA _ (nx+1) _ j=_
   rw[af _ _ _ _ h',af _ _ _ _ (by omega),af _ _ _ _ (by omega)]
  clear_value G
  have hg:=abS
  refine oT (σ:=List (Int×Int)) x (hf x eC) [.aa, .aa, .aa, .ptr (nx+2) 0, .aa, .aa, .aa, .aa, .d (.sl (l.map Tm.d)), .d (.i l.length), .d (.i k)] ?_ cl rfl eH nP (ad _ _ _)
   G (fun _=>none) (de 1) (fun _=>True) m trivial rfl hG (fun _ _ _ _ _ _=>trivial) ?_ ?_
  ·exact Eb
  ·intro L hL uL y hy s' _ _ o3 n3 hI hn F6 K' X' cm
   simp only[lZ]
   have hg:=hI.bB
   have hle:=hI.le
   have q1:o3 (nx+2)= .row [.mp (nx+1)]:=by rw[hI.eq (nx+2) (by omega),g2]
   have q2:o3 (nx+1)=oV s':=by rw[hI.eq (nx+1) (by omega),gm]
   have z1:nx≠n3:=ag
   have z2:∀k,nx≠n3+k:=fun k=>ag
   have z3:nx+2≠n3:=ag
   have z4:nx+1≠n3:=ag
   have same:∀ (o':Nat->ab) (n':Nat) (l:List (Int×Int)),Good o' n'->n3<=n'->(∀j,j<nx+17->o' j=aA o3 (nx+1) (oV l) j)->cF (nx+17) (G l) o' n':=fun o' n' l k1 k2 k3=>⟨k1,ag,fun j hj=>by
    rw[k3 j hj]
    by_cases e:j=nx+1
    ·subst e;rw[ad,gm]
    ·rw[af _ _ _ _ e,hI.eq j hj];exact g3 _ _ _ e⟩
   refine bc ?_
   refine kb hL (pd:=none) ?_ ?_
   ·(repeat(first|rfl|rw[ad]|rw[af _ _ _ _ (by omega)]))
    exact F6
   refine JD q1 q2 ?_
   refine ai (fun h3=> ?_) (fun h3=> ?_)
   ·have mU:y.op=1:=by simpa using h3
    have hp:de 1 s' y=ry s' y.n:=by unfold de;rw[if_pos mU]
    rw[hp]at cm
    cases LH:lk s' y.n with
    |none=>
     have hc:ry s' y.n=jO s' y.n (0+1):=by unfold ry fq;rw[LH];rfl
     rw[hc]at cm
     simp+contextual (disch:=first|omega|simp only[go_sem,false_implies]) only[go_sem,wrap64,if_pos,q1,q2,z1,z2,z3,z4,kU LH,ki,Nat.add_assoc,Nat.left_eq_add,Nat.add_eq_left,Nat.add_left_cancel_iff]
     refine cm _ _ _ .busy none ag (same _ _ _ eH ag fun j hj=> ?_) eO (fun j h3 h4=>by(repeat(first|rfl|rw[ad]|rw[af _ _ _ _ (by omega)])))
     by_cases e:j=nx+1
     ·exact Ed
     ·exact eO
    |some c=>
     obtain⟨q,hq⟩:=kT LH
     have hc:ry s' y.n=jO s' y.n (IntKind.i64.wrap (c+1)):=by unfold ry fq;rw[LH];rfl
     rw[hc]at cm
     simp+contextual (disch:=first|omega|simp only[go_sem,false_implies]) only[go_sem,wrap64,if_pos,q1,q2,z1,z2,z3,z4,hq,ki,Nat.add_assoc,Nat.left_eq_add,Nat.add_eq_left,Nat.add_left_cancel_iff]
     refine cm _ _ _ .busy none ag (same _ _ _ eH ag fun j hj=> ?_) eO (fun j h3 h4=>by(repeat(first|rfl|rw[ad]|rw[af _ _ _ _ (by omega)])))
     by_cases e:j=nx+1
     ·exact Ed
     ·exact eO
   ·have hp:de 1 s' y=s':=by unfold de;rw[if_neg (by simpa using h3)]
    rw[hp]at cm
    refine bc ?_
    refine cm _ _ _ .busy none ag (same _ _ _ eH ag fun j hj=> ?_) eO (fun j h3 h4=>by(repeat(first|rfl|rw[ad]|rw[af _ _ _ _ (by omega)])))
    by_cases e:j=nx+1
    ·exact MK
    ·exact eO
  ·intro o' n' hI
   have hle:=hI.le
   simp only[nB]
   have vK:∀ (l:List Tm) (m:List (Int×Int)),(aq (xC (fun _=>none) (de 1)) m l).1=l.foldl (de 1) m:=by
    intro l
    induction l with
    |nil=>intro m;rfl
    |cons y l ih=>intro m;simp only[aq,xC,Option.isNone_none,if_true];exact ih _
   rw[vK]at hI
   refine bc ?_
   refine aj (k+1,(eN x).foldl (de 1) m) ⟨h2,jQ.symm⟩ nQ (bf.bC _ (show nx<=nx+7 from ag) ag (hgm _) (fun j hj=> ?_) ?_)
   ·rw[hI.eq j (by omega)]
    by_cases e:j=nx+1
    ·subst e;rw[gm,Qd]
    ·rw[g4 _ _ hj e,e3 j e];exact(uw _ j e).symm
   ·exact cN
 ·simp at h2
  rw[List.take_of_length_le h2]at hm
  refine gD Kx ?_
  exact hK _ _ _ _ ag ag ((hgm _).mono ag) (fun j hj=>by show aA _ (nx+1) _ j=_;rw[af _ _ _ _ (by omega),af _ _ _ _ (by omega)]) (Qd m) hm
section
section
variable {B:Nat->Prop}{w:World}
end
theorem aR.qT {P:Program}{f:FuncId}{ds:List D}{out:D}(h:cZ P f (ds.map .d) (fun _=> .no) 0 (fun v o _=>∃x,dp o v=some x/\∀B w val,D.den B w x val->D.den B w out val) (fun _ _ _=>False)):aR P f ds (.ret [out]):=by
 refine⟨h.1,fun M w vals hM hd=> ?_⟩
 let b7:Place:=fun _=> .nilFunc
 have ue:∀b, ¬cp b7 (hp (fun _=> .no) 0) b:=by rintro b ⟨id,hl,_⟩;simp[hp,ab.live]at hl
 refine(h.2 M b7 w vals (j7 b7 hM) ((V.bX _ _).2 (D.aN (w:=w) (w':=w) (B:=M) (fun b _ hB=>⟨rfl,fun h=>h.elim hB (ue b)⟩) _ _ hd))).mono ?_
 rintro e w' ⟨aE,o',nx',v,k1,k2,k3⟩
 have qF:dk (fun _=>False) w w':=⟨k2.keep.os,k2.keep.tape,k2.keep.output,k2.keep.size,fun k hk _=>k2.keep.block k hk (ue k)⟩
 refine⟨qF, ?_⟩
 cases e with
 |outgrown=>exact k3.elim
 |panicked ch=>obtain⟨_,_,_,h⟩:=k3;exact h.elim
 |returned val=>
  obtain⟨g1,x,g2,g3⟩:=k3
  obtain⟨f1,f2,f3,f4,f5⟩:=cA k1 v.ids (fun id au=>cy v val g1 id au)
  have h3:=ek f1 (o:=o') v x val (fun id au=>f3 id au) g2 (V.aL f2 _ _ g1)
  exact g3 _ _ _ (D.aL (w:=w') (w':=w') (fun k _ hB=>⟨rfl,fun hM=>hB (.inl hM)⟩) x val h3)
end
@[reducible] def IK (m:List (Int×Int)):D:= .mp ((enc (D.int .i64) (ints m)).map (·.1)) ((enc (D.int .i64) (ints m)).map (·.2))
theorem rC(m:List (Int×Int)):(((enc (D.int .i64) (ints m)).map (·.1)).zip ((enc (D.int .i64) (ints m)).map (·.2)))=enc (D.int .i64) (ints m):=Lz _ _
def df(op:Int)(l:List Tm):List (Int×Int):=(l.flatMap eN).foldl (de op) []
theorem Sz(t:Tm)(ht:t.fits):aR Tryz.prog 136 [t.d] (.ret [IK (df 8 [t])]):=by
 refine aR.qT (Sy t ht _ _ eH _ _ fun o' nx' id m _ _ _ _ ho hm=> ?_)
 refine⟨_,by simp only[dp,ho];rfl,fun B w val h=> ?_⟩
 have e:m=df 8 [t]:=by rw[hm];simp[df]
 rw[<- e];exact h
theorem qU(l:List Tm)(hl:l.length<=1000000)(hf:∀t∈l,t.fits):aR Tryz.prog 135 [.sl (l.map Tm.d)] (.ret [IK (df 1 l)]):=by
 refine aR.qT (An l hl hf _ _ eH _ _ fun o' nx' id m _ _ _ _ ho hm=> ?_)
 refine⟨_,by simp only[dp,ho];rfl,fun B w val h=> ?_⟩
 have e:m=df 1 l:=hm
 rw[<- e];exact h
theorem wh(o:Nat->ab)(m:List (Int×Int))(v:Int):gB Tryz.prog o 172 (.d (IK m)) (.d (.int .i64 v)) false=some (.d (.i (fq m v)),[],[]):=by
 cases h:lk m v with
 |none=>
  have e:fq m v=0:=by unfold fq;rw[h];rfl
  rw[e]
  simp+contextual (disch:=first|omega|simp only[go_sem,false_implies]) only[go_sem,wrap64,if_pos,rC,kU h]
 |some c=>
  have e:fq m v=c:=by unfold fq;rw[h];rfl
  obtain⟨j,hj⟩:=kT h
  rw[e]
  simp+contextual (disch:=first|omega|simp only[go_sem,false_implies]) only[go_sem,wrap64,if_pos,rC,hj]
theorem tA(l:List Int)(hl:l.length<=1000000)(o:Nat->ab)(fr:Nat):w7 Tryz.prog 76 [.d (.sl (l.map .i))] [] o fr (.osl fr 0) [(fr, .arr 0 3 1 (l.map .i))]:=by
 refine w7.HQ (ds:=[.sl (l.map .i)]) ?_
 refine cZ.aG mix Rw aK ?_
 rw[Z3]
 have hu:Tryz.prog.underlying 37=some (.slice 3):=ah
 cases l with
 |nil=>
  have heq:∀O,ua Tryz.prog O 37 true (.d (.sl [])) .a8=some .ey:=by
   intro O
   unfold ua
   rw[hu]
   rfl
  simp only[List.map_cons,List.map_nil]
  refine gD heq ?_
  simp only[List.isEmpty_nil,if_true]
  refine gD heq ?_
  exact .inl ⟨3,1,rfl,ad _ _ _⟩
 |cons a l=>
  have heq:∀O,ua Tryz.prog O 37 true (.d (.sl (D.i a::l.map D.i))) .a8=some (.d (.bool false)):=by
   intro O
   unfold ua
   rw[hu]
   rfl
  simp only[List.map_cons,List.map_nil]
  refine gD heq ?_
  simp only[List.isEmpty_nil,if_true]
  refine gD heq ?_
  rw[List.length_cons]at hl
  rw[if_pos (by omega)]
  refine bc ?_
  exact .inl ⟨3,1,rfl,ad _ _ _⟩
def SA:List Int->Int->Int->Int
 |[],_,_=> -1
 |x::l,v,k=>if v=x then k else SA l v (k+1)
theorem IL:∀ (l:List Int) (v k:Int),0<=k->(decide (0<=SA l v k)=l.contains v)
 |[],v,k,_=>rfl
 |x::l,v,k,hk=>by
  have ih:=IL l v (k+1) ag
  unfold SA
  by_cases h:v=x
  ·rw[if_pos h];subst h;simp[hk]
  ·rw[if_neg h,ih];simp[List.contains_cons,h]
theorem IM(l:List Int)(hl:l.length<=1000000)(v:Int):aR Tryz.prog 179 [.sl (l.map .i), .i v] (.ret [.i (SA l v 0)]):=by
 refine aR.aG mix OH aK ?_
 rw[R7]
 refine nk ?_
 refine aC (fun k:Nat=>⟨aW [.d (.sl (l.map .i)), .d (.i v), .aa, .aa, .aa, .aa, .aa, .d (.i l.length), .d (.i k)],fun _=> .no,1⟩)
  (fun k=>k<=l.length/\SA l v 0=SA (l.drop k) v k) (fun k=>l.length - k) 0 ⟨Nat.zero_le _,rfl⟩ (bf.bC _ (show 0<=1 from ag) ag eH (fun _ _=>rfl) ?_) (fun k hk=> ?_)
 ·exact cN
 obtain⟨hk,rZ⟩:=hk
 refine bc ?_
 refine ai (fun h2=> ?_) (fun h2=> ?_)
 ·simp at h2
  obtain⟨x,hx⟩:=aB h2
  have hd:l.drop k=x::l.drop (k+1):=by
   exact MM
  rw[hd]at rZ
  simp only[SA]at rZ
  refine gD hx ?_
  refine ai (fun h3=> ?_) (fun h3=> ?_)
  ·have mU:v=x:=by simpa using h3
   rw[if_pos mU]at rZ
   refine bc ?_
   rw[rZ]
  ·have mU: ¬v=x:=by simpa using h3
   rw[if_neg mU]at rZ
   refine bc ?_
   refine aj (k+1) ⟨h2,rZ⟩ ag (bf.bC _ (show 0<=1 from ag) ag eH (fun _ _=>rfl) ?_)
   exact cN
 ·exact MW
theorem Ao(l:List Int)(hl:l.length<=1000000)(v:Int):aR Tryz.prog 163 [.sl (l.map .i), .i v] (.ret [.bool (l.contains v)]):=by
 refine aR.aG mix Ox aK ?_
 rw[RY]
 refine bc ?_
 refine aD (IM l hl v) rfl ?_
 refine bc ?_
 rw[IL l v 0 (by omega)]
mutual
def xF(m:List (Int×Int)):Tm->List Int->Bool
 | .mk op n kids,mK=>if op=1 then(fq m n==0||mK.contains n)else oW m op n kids 0 mK
def oW(m:List (Int×Int))(op n:Int):List Tm->Nat->List Int->Bool
 |[],_,_=>true
 |k::l,i,mK=>xF m k (if op=8/\i=1 then mK++[n]else mK)&&oW m op n l (i+1) mK
end
theorem DL(m:List (Int×Int))(t:Tm)(mK:List Int):xF m t mK=if t.op=1 then(fq m t.n==0||mK.contains t.n)else oW m t.op t.n t.kids 0 mK:=by cases t;rw[xF];rfl
theorem IP(m:List (Int×Int)):∀t:Tm,t.fits->∀mK:List Int,mK.length+t.la<=1000000->aR Tryz.prog 137 [t.d,IK m, .sl (mK.map .i)] (.ret [.bool (xF m t mK)]):=by
 refine Tm.dy fun t ih hf mK hb=> ?_
 have jG:=(Tm.bg _).1 hf
 refine aR.aG mix Om aK ?_
 rw[RQ,DL]
 by_cases h1:t.op=1
 ·have om:(t.op==1)=true:=by simpa using h1
  rw[if_pos h1]
  cases hc:(fq m t.n==0)with
  |true=>
   simp+contextual (disch:=first|omega|simp only[go_sem,false_implies]) only[go_sem,wrap64,if_pos,om,wh,hc]
  |false=>
   simp+contextual (disch:=first|omega|simp only[go_sem,false_implies]) only[go_sem,wrap64,if_pos,om,wh,hc]
   refine aD (Ao mK ag t.n) rfl ?_
   exact D8 hc
 ·have om:(t.op==1)=false:=by simpa using h1
  rw[if_neg h1]
  refine ll om ?_
  refine aC (fun k:Nat=>⟨aW [.aa, .d (IK m), .d (.sl (mK.map .i)), .ptr 0 0, .aa, .aa, .aa, .aa, .aa, .aa, .aa, .aa, .aa, .aa, .aa, .aa, .aa, .aa, .aa, .aa, .aa, .aa, .aa, .aa, .aa, .d (.sl (t.kids.map Tm.d)), .d (.i t.kids.length), .d (.i k)],aA (fun _=> .no) 0 (.row [.d (.i t.op), .d (.i t.n), .d (.sl (t.kids.map Tm.d))]),1⟩)
   (fun k=>k<=t.kids.length/\oW m t.op t.n t.kids 0 mK=oW m t.op t.n (t.kids.drop k) k mK) (fun k=>t.kids.length - k) 0 ⟨Nat.zero_le _,rfl⟩ (bf.bC _ (show 0<=1 from ag) ag eH (fun _ _=>rfl) ?_) (fun k hk=> ?_)
  ·exact cN
  obtain⟨hk,rZ⟩:=hk
  have Ej:=jG.1
  refine bc ?_
  refine ai (fun h2=> ?_) (fun h2=> ?_)
  ·simp at h2
   obtain⟨x,hx⟩:=aB h2
   have eC:=List.mem_of_getElem? hx
   have hd:t.kids.drop k=x::t.kids.drop (k+1):=by
    exact MM
   have hh:=Tm.mG eC
   rw[hd]at rZ
   simp only[oW]at rZ
   refine gD hx ?_
   refine ai (fun h3=> ?_) (fun h3=> ?_)
   ·have mU:t.op=8/\k=1:=by
     simp at h3
     exact⟨h3.1,ag⟩
    rw[if_pos mU]at rZ
    refine bc ?_
    refine p9 rfl (tA mK ag _ _) ?_
    refine bc ?_
    refine aO cl ?_
    refine bc ?_
    have e:List.map D.i mK++[D.i t.n]=(mK++[t.n]).map D.i:=aK
    rw[e]
    refine aD (ih x eC (jG.2 x eC) (mK++[t.n]) nn) rfl ?_
    refine bc ?_
    cases hs:xF m x (mK++[t.n])with
    |false=>
     rw[hs,Bool.false_and]at rZ
     refine gD hs ?_
     rw[rZ]
    |true=>
     exact Vh
   ·have mU: ¬ (t.op=8/\k=1):=by
     simp at h3
     intro⟨h4,h5⟩
     exact h3 h4 ag
    rw[if_neg mU]at rZ
    refine bc ?_
    refine aD (ih x eC (jG.2 x eC) mK ag) rfl ?_
    refine bc ?_
    cases hs:xF m x mK with
    |false=>
     rw[hs,Bool.false_and]at rZ
     refine gD hs ?_
     rw[rZ]
    |true=>
     exact Vh
  ·exact MW
mutual
def Cj(v:Int):Tm->Bool
 | .mk op n kids=>if op=1 then n==v else oX v op n kids 0
def oX(v op n:Int):List Tm->Nat->Bool
 |[],_=>false
 |k::l,i=>(Cj v k&& !(op==8&&i==1&&n==v))||oX v op n l (i+1)
end
theorem tC(v:Int)(t:Tm):Cj v t=if t.op=1 then t.n==v else oX v t.op t.n t.kids 0:=by cases t;rfl
@[reducible] def LI (l:List Int):ab:= .map 3 4 (enc (D.int .i64) (mh l))
def rz(l:List Int)(x:Tm×Int):Bool:=(x.1.op !=1&&x.1.op !=3)||(x.1.op==1&&l.contains x.1.n)
def kj(s:List Int×Bool)(x:Tm×Int):List Int×Bool:=(if rz s.1 x=true then s.1 else if x.1.op=1 then xE s.1 x.1.n else s.1, !rz s.1 x)
def pJ(s:List Int×Bool):Option jh:=if s.2=true then none else some .ret
def uF(t:Tm):Bool:=(aq (vL pJ kj) ([],true) (pre t 1)).2
theorem Ap(s:bE)(hs:s.Fits)(t:Tm)(ht:t.Fin):aR Tryz.prog 132 [s.d,t.d] (.ret [.bool (eB s [t]&&uF t), .i (m4 (eB s [t]))]):=by
 refine aR.aG mix Og aK ?_
 rw[RK]
 refine bc ?_
 refine aD (DF s hs [t] aK (fun x hx=>by simp at hx;subst hx;exact ht)) rfl ?_
 cases h1:eB s [t]with
 |false=>exact Gf
 |true=>
  refine qo ?_
  refine fh (Ah t _ _ _ _ ?_)
  refine qo ?_
  refine qP (σ:=List Int×Bool) t ht.fits ht.la [.aa, .aa, .aa, .aa, .ptr 2 0, .ptr 3 0, .ptr 10 0] ?_ cl rfl eH nP (ad _ _ _)
   (fun b=>aA (aA (aA (aA (aA (aA (aA (aA (fun _=> .no) 0 (.row s.row)) 1 (.row t.row)) 2 (.row [.d (.bool false)])) 3 (.row [.d (.i 0)])) 6 (.arr 0 55 3 [t.d])) 10 (.row [.mp 9])) 13 (.row t.row)) 9 (LI b.1)) pJ kj (fun _=>True) ([],true) trivial rfl (fun id au=> ?_) (fun _ _ _ _ _ _=>trivial) ?_ ?_
  ·exact Eb
  ·exact JV
  ·intro L hL uL x hx s' h1 h2 o3 n3 hI hn ho K X cm
   simp only[lZ]
   have hg:=hI.bB
   have q1:o3 10= .row [.mp 9]:=hI.eq 10 ag
   have q2:o3 9=LI s'.1:=hI.eq 9 ag
   have q3:o3 2= .row [.d (.bool false)]:=hI.eq 2 ag
   have q4:o3 3= .row [.d (.i 0)]:=hI.eq 3 ag
   refine bc ?_
   refine kb hL (pd:=none) ?_ ?_
   ·(repeat(first|rfl|rw[ad]|rw[af _ _ _ _ (by omega)]))
    exact ho
   refine JD q1 q2 ?_
   have hv:rz s'.1 x=((x.1.op !=1&&x.1.op !=3)||(x.1.op==1&&s'.1.contains x.1.n)):=rfl
   rw[<- hv]
   have same:∀ (o':Nat->ab) (n':Nat) (l:List Int),Good o' n'->n3<=n'->(∀id,id<17->o' id=aA o3 9 (LI l) id)->cF 17 (aA (aA (aA (aA (aA (aA (aA (aA (fun _=> .no) 0 (.row s.row)) 1 (.row t.row)) 2 (.row [.d (.bool false)])) 3 (.row [.d (.i 0)])) 6 (.arr 0 55 3 [t.d])) 10 (.row [.mp 9])) 13 (.row t.row)) 9 (LI l)) o' n':=fun o' n' l k1 k2 k3=>⟨k1,by have:=hI.le;omega,fun id au=>by
    rw[k3 id au]
    by_cases e:id=9
    ·subst e;rw[ad,ad]
    ·rw[af _ _ _ _ e,af _ _ _ _ e,hI.eq id au,af _ _ _ _ e]⟩
   cases hb:rz s'.1 x with
   |true=>
    have hp:kj s' x=(s'.1,false):=by simp[kj,hb]
    rw[hp]at cm
    refine JD q3 q4 ?_
    refine cm _ _ _ .busy none ag (same _ _ _ eH ag fun id au=> ?_) eO (fun id h3 h4=>by(repeat(first|rfl|rw[ad]|rw[af _ _ _ _ (by omega)])))
    by_cases e9:id=9
    ·exact MI
    ·by_cases e2:id=2
     ·subst e2;(repeat(first|rfl|rw[ad]|rw[af _ _ _ _ (by omega)]))
      exact q3.symm
     ·by_cases e3:id=3
      ·subst e3;(repeat(first|rfl|rw[ad]|rw[af _ _ _ _ (by omega)]))
       exact q4.symm
      ·exact eO
   |false=>
    refine JD q1 q2 ?_
    refine ai (fun h3=> ?_) (fun h3=> ?_)
    ·have mU:x.1.op=1:=by simpa using h3
     have hp:kj s' x=(xE s'.1 x.1.n,true):=by simp[kj,hb,mU]
     rw[hp]at cm
     refine JD q1 q2 ?_
     refine cm _ _ _ .busy none ag (same _ _ _ eH ag fun id au=> ?_) eO (fun id h3 h4=>by(repeat(first|rfl|rw[ad]|rw[af _ _ _ _ (by omega)])))
     by_cases e9:id=9
     ·subst e9;(repeat(first|rfl|rw[ad]|rw[af _ _ _ _ (by omega)]))
     ·exact eO
    ·have mU: ¬x.1.op=1:=by simpa using h3
     have hp:kj s' x=(s'.1,true):=by simp[kj,hb,mU]
     rw[hp]at cm
     refine bc ?_
     refine cm _ _ _ .busy none ag (same _ _ _ eH ag fun id au=> ?_) eO (fun id h3 h4=>by(repeat(first|rfl|rw[ad]|rw[af _ _ _ _ (by omega)])))
     by_cases e9:id=9
     ·exact MI
     ·exact eO
  ·intro o' n' hI
   have hJ:=xB pJ kj (pre t 1) ([],true) rfl
   have hpf:uF t=(pJ (aq (vL pJ kj) ([],true) (pre t 1)).1).isNone:=hJ
   have q0:o' 2= .row [.d (.bool false)]:=hI.eq 2 ag
   have q1:o' 3= .row [.d (.i 0)]:=hI.eq 3 ag
   rw[hpf]
   generalize (aq (vL pJ kj) ([],true) (pre t 1)).1=sf at*
   obtain⟨l,b⟩:=sf
   cases b<;>(simp only[pJ,if_true,if_false,Bool.false_eq_true,nB];simp+contextual (disch:=first|omega|simp only[go_sem,false_implies]) only[go_sem,wrap64,if_pos,q0,q1];simp[m4])
structure Rl where
 fn:Int
 aw:List Tm
 rhs:Tm
 vars:Int
@[reducible] def Rl.row (r:Rl):List V:=[.d (.i r.fn), .d (.sl (r.aw.map Tm.d)), .d (.i r.rhs.op), .d (.i r.rhs.n), .d (.sl (r.rhs.kids.map Tm.d)), .d (.i r.vars)]
@[reducible] def Rl.d (r:Rl):D:= .agg [.i r.fn, .sl (r.aw.map Tm.d), .i r.rhs.op, .i r.rhs.n, .sl (r.rhs.kids.map Tm.d), .i r.vars]
structure Rl.Fin (r:Rl):Prop where
 aw:r.aw.length<=1000000
 all:∀t∈r.aw,t.Fin
 rhs:r.rhs.Fin
theorem Aq(l:List Tm)(hl:l.length<=9223372036854775807)(g:Nat)(aV:List V)(base:Nat)(h:Nat->ab)(p:Tm->Bool)(hc:∀r∈V.aJ aV,r<base)
 (hp:∀x∈l,jP Tryz.prog g (.d x.d::aV) base h h (.d (.bool (p x)))):jP Tryz.prog 133 [.d (.sl (l.map Tm.d)), .func (.func g) [] aV] base h h (.d (.bool (l.all p))):=by
 have:=vR l hl g aV base (fun _:Unit=>h) (fun _ x=>((),p x)) hc (fun _=>True) (fun _ _ _ _ _=>trivial) (fun x hx _ _=>hp x hx) () trivial
 exact GG
def jB(s:bE)(t:Tm):Bool:=eB s [t]&&uF t
theorem LJ(s:bE)(hs:s.Fits)(t:Tm)(ht:t.Fin)(base sp:Nat)(h:Nat->ab)(x7:h sp= .row s.row)(hb:sp<base):jP Tryz.prog 131 [.d t.d, .ptr sp 0] base h h (.d (.bool (jB s t))):=by
 intro o nx hI K X hK
 have hle:=hI.le
 have hg:=hI.bB
 have q0:o sp= .row s.row:=by rw[hI.eq sp hb,x7]
 refine cZ.aG mix Of aK ?_
 rw[RJ]
 refine gD q0 ?_
 refine aD (Ap s hs t ht) rfl ?_
 cases hr:eB s [t]with
 |false=>
  have e:jB s t=false:=by simp[jB,hr]
  exact Vk
 |true=>
  have e:jB s t=uF t:=by simp[jB,hr]
  exact Vk
theorem qd{K:V->List (Nat×ab)->Prop}{id:Nat}{l:List (Int×Int)}(h0:l=[]->K (.bP [.d (.bool false)]) [])
 (h1:∀ (i:Nat) n k,l[i]? =some (n,k)->K (.bP [.d (.bool true), .d (.int .i64 n), .d (D.i k)]) [(id, .np (enc (D.int .i64) (ints (l.eraseIdx i))) (some (.int .i64 n,D.i k)))]):Df K id (enc (D.int .i64) (ints l)):=by
 refine Ff _ (fun h=>h0 ?_) fun i k x h=> ?_
 ·cases l with
  |nil=>rfl
  |cons x l=>simp[ints]at h
 ·unfold ints at h|-
  rw[List.getElem?_map]at h
  cases hl:l[i]? with
  |none=>rw[hl]at h;cases h
  |some n=>
   rw[hl]at h
   simp at h
   obtain⟨rfl,rfl⟩:=h
   have:=h1 i n.1 n.2 hl
   rw[kS]
   exact this
theorem qe{α:Type}{l:List α}{i:Nat}{n:α}(p:α->Bool)(h:l[i]? =some n):l.all p=(p n&&(l.eraseIdx i).all p):=by
 have hp:l.Perm (n::l.eraseIdx i):=by
  obtain⟨hi,e⟩:=List.getElem?_eq_some_iff.1 h
  have x7:l=l.take i++n::l.drop (i+1):=by rw[<- e,List.getElem_cons_drop,List.take_append_drop]
  rw[List.eraseIdx_eq_take_drop_succ]
  conv=>lhs;rw[x7]
  exact List.perm_middle
 rw[Bool.eq_iff_iff,List.all_eq_true,Bool.and_eq_true,List.all_eq_true]
 constructor
 ·intro h1
  exact⟨h1 _ (hp.mem_iff.2 aK),fun x hx=>h1 x (hp.mem_iff.2 mQ)⟩
 ·rintro⟨h1,h2⟩ x hx
  rcases List.mem_cons.1 (hp.mem_iff.1 hx)with e|e
  ·rw[e];exact h1
  ·exact h2 x e
theorem qf{α:Type}{l:List α}{i:Nat}{n:α}(h:l[i]? =some n):(l.eraseIdx i).length+1=l.length:=by
 obtain⟨hi,e⟩:=List.getElem?_eq_some_iff.1 h
 rw[List.length_eraseIdx];simp[hi];omega
def lh(s:bE)(r:Rl):Bool:=decide (0<=r.fn)&&(match s.bu[r.fn.toNat]? with|some f=>(r.aw.length:Int)==f.args|none=>false)&&decide (0<=r.vars)&&decide (r.vars<=20)&&r.aw.all (jB s)&&eB s [r.rhs]
def dZ(s:bE)(r:Rl):Bool:=lh s r&&(df 1 r.aw).all (fun p=>decide (p.2<=1)&&decide (p.1<r.vars))&&(df 1 [r.rhs]).all (fun p=>decide (p.1<r.vars))&&
 (df 8 [r.rhs]).all (fun p=>decide (p.2<=1)&&decide (p.1<r.vars)&&decide (fq (df 1 r.aw) p.1<=0))&&xF (df 8 [r.rhs]) r.rhs []
theorem xG{R:List Nat}{o:Nat->ab}{id:Nat}(h:id∈R):BP R o id=o id:=by simp[BP,h]
theorem Fv{R:List Nat}{o:Nat->ab}{nx:Nat}(cc:∀id∈R,id<nx)(mC:∀id∈R,∀j∈(o id).refs,j∈R):Good (BP R o) nx:=by
 refine⟨fun id au=> ?_,fun id r hr=> ?_⟩
 ·have:id∉R:=fun hm=>by have:=cc id hm;omega
  simp[BP,this]
 ·by_cases au:id∈R
  ·rw[xG au]at hr;exact cc r (mC id au r hr)
  ·have:BP R o id= .no:=by simp[BP,au]
   rw[this]at hr;cases hr
theorem LK(s:bE)(hs:s.Fits)(l:List Tm)(hl:l.length<=1000000)(hf:∀t∈l,t.Fin){o:Nat->ab}(ho:o 0= .row s.row):
 C8 Tryz.prog 133 [.d (.sl (l.map Tm.d)), .func (.func 131) [] [.ptr 0 0]] [0] o (.ret [.bool (l.all (jB s))]) []:=by
 have cc:∀j∈[0],j<1:=aK
 have mC:∀k∈[0],∀j∈(o k).refs,j∈[0]:=by
  intro k hk j hj
  simp at hk
  subst hk
  rw[ho]at hj;simp[ab.refs,V.aJ,V.refs]at hj
 refine C8.lT cc nP mC aK aK ?_
 refine Aq l ag 131 [.ptr 0 0] 1 (BP [0] o) (jB s) nP (fun x hx=>LJ s hs x (hf x hx) 1 0 _ ((xG aK).trans ho) ag) _ _ ⟨Fv cc mC,Nat.le_refl _,fun _ _=>rfl⟩ _ _ fun o2 n2 m1 m2 m3=> ?_
 refine⟨fun k hk=> ?_,[.d (.bool (l.all (jB s)))],[.bool (l.all (jB s))],rfl,rfl,rfl,fun k hk=>by simp[V.a7,V.ids]at hk⟩
 simp at hk
 subst hk
 rw[m2.eq 0 (by omega),xG (by simp)];rfl
set_option maxHeartbeats 1000000 in
theorem LL(s:bE)(hs:s.Fits)(r:Rl)(hr:r.Fin):aR Tryz.prog 100 [s.d,r.d] (.ret [.bool (dZ s r)]):=by
 have hr1:=hr.aw
 refine aR.aG mix N3 aK ?_
 rw[Rx]
 have hlf:=hs.lf
 have fin:∀ {b:Bool},lh s r=b->b=false->dZ s r=false:=fun h1 h2=>by unfold dZ;rw[h1,h2];rfl
 by_cases f1:r.fn<0
 ·have JP:decide (r.fn<0)=true:=by simpa using f1
  have e:dZ s r=false:=fin (b:=false) (by unfold lh;rw[decide_eq_false (by omega: ¬0<=r.fn)];rfl) rfl
  simp+contextual (disch:=first|omega|simp only[go_sem,false_implies]) only[go_sem,wrap64,if_pos,Nat.add_assoc,Nat.left_eq_add,Nat.add_eq_left,Nat.add_left_cancel_iff,List.length_map,JP]
  exact MB
 have JP:decide (r.fn<0)=false:=by simpa using f1
 by_cases f2:(s.bu.length:Int)<=r.fn
 ·have IQ:decide ((s.bu.length:Int)<=r.fn)=true:=by simpa using f2
  have e:dZ s r=false:=fin (b:=false) (by unfold lh;rw[List.getElem?_eq_none (by omega:s.bu.length<=r.fn.toNat)];simp) rfl
  refine Ul JP IQ ?_
  exact MB
 have IQ:decide ((s.bu.length:Int)<=r.fn)=false:=by simpa using f2
 obtain⟨f,hf⟩:∃f,s.bu[r.fn.toNat]? =some f:=⟨_,List.getElem?_eq_getElem ag⟩
 by_cases f3: ¬ (r.aw.length:Int)=f.args
 ·have SB:((r.aw.length:Int)!=f.args)=true:=by simpa using f3
  have e:dZ s r=false:=fin (b:=false) (by unfold lh;rw[hf];simp[f3]) rfl
  simp+contextual (disch:=first|omega|simp only[go_sem,false_implies]) only[go_sem,wrap64,if_pos,Nat.add_assoc,Nat.left_eq_add,Nat.add_eq_left,Nat.add_left_cancel_iff,List.length_map,JP,IQ,hf,SB]
  exact MB
 have SB:((r.aw.length:Int)!=f.args)=false:=by simpa using f3
 by_cases f4:r.vars<0
 ·have f4':decide (r.vars<0)=true:=by simpa using f4
  have e:dZ s r=false:=fin (b:=false) (by unfold lh;rw[decide_eq_false (by omega: ¬0<=r.vars)];simp) rfl
  simp+contextual (disch:=first|omega|simp only[go_sem,false_implies]) only[go_sem,wrap64,if_pos,Nat.add_assoc,Nat.left_eq_add,Nat.add_eq_left,Nat.add_left_cancel_iff,List.length_map,JP,IQ,hf,SB,f4']
  exact MB
 have f4':decide (r.vars<0)=false:=by simpa using f4
 by_cases f5:20<r.vars
 ·have f5':decide (20<r.vars)=true:=by simpa using f5
  have e:dZ s r=false:=fin (b:=false) (by unfold lh;rw[decide_eq_false (by omega: ¬r.vars<=20)];simp) rfl
  refine Um JP IQ hf SB f4' f5' ?_
  exact MB
 have f5':decide (20<r.vars)=false:=by simpa using f5
 have hh:lh s r=(r.aw.all (jB s)&&eB s [r.rhs]):=by
  unfold lh
  rw[hf]
  have g3:(r.aw.length:Int)=f.args:=by simpa using f3
  simp[g3,show 0<=r.fn by omega,show 0<=r.vars by omega,show r.vars<=20 by omega]
 refine Um JP IQ hf SB f4' f5' ?_
 refine zL (rd:=[0]) rfl (LK s hs r.aw hr1 hr.all ?_) ?_
 ·exact eO
 cases h6:r.aw.all (jB s)with
 |false=>
  have e:dZ s r=false:=fin hh (by rw[h6];rfl)
  refine bc ?_
  exact MB
 |true=>
  refine bc ?_
  refine aQ (LC s hs r.rhs hr.rhs) rfl ?_
  cases h7:eB s [r.rhs]with
  |false=>
   have e:dZ s r=false:=fin hh (by rw[h6,h7];rfl)
   refine A9 ?_
   exact MB
  |true=>
   refine A9 ?_
   refine aO (aP rfl) ?_
   refine bc ?_
   have hR:dZ s r=((df 1 r.aw).all (fun p=>decide (p.2<=1)&&decide (p.1<r.vars))&&(df 1 [r.rhs]).all (fun p=>decide (p.1<r.vars))&&
    (df 8 [r.rhs]).all (fun p=>decide (p.2<=1)&&decide (p.1<r.vars)&&decide (fq (df 1 r.aw) p.1<=0))&&xF (df 8 [r.rhs]) r.rhs []):=by
    unfold dZ;rw[hh,h6,h7];rfl
   refine cW (qU r.aw hr1 (fun t ht=>(hr.all t ht).fits)) ?_
   refine bc ?_
   refine cW (Sz r.rhs hr.rhs.fits) ?_
   refine bc ?_
   refine aO (aP rfl) ?_
   simp+contextual (disch:=first|omega|simp only[go_sem,false_implies]) only[go_sem,wrap64,if_pos,rC]
   refine aC (fun i:List (Int×Int)×Option (D×D)=>⟨aW [.aa, .aa, .aa, .ptr 1 0, .aa, .aa, .d (IK (df 1 r.aw)), .d (IK (df 8 [r.rhs])), .aa, .aa, .aa, .aa, .aa, .aa, .aa, .aa, .aa, .aa, .aa, .aa, .aa, .aa, .aa, .aa, .aa, .aa, .aa, .aa, .aa, .aa, .aa, .aa, .aa, .aa, .aa, .aa, .aa, .aa, .aa, .aa, .aa, .aa, .aa, .aa, .aa, .aa, .aa, .aa, .aa, .aa, .aa, .aa, .aa, .aa, .aa, .aa, .aa, .aa, .aa, .aa, .aa, .aa, .aa, .aa, .aa, .aa, .aa, .aa, .aa, .ptr 62 0],aA (aA (aA (fun _=> .no) 0 (.row [.d (.sl (s.cons.map il.d)), .d (.sl (s.bu.map il.d))])) 1 (.row [.d (.i r.fn), .d (.sl (r.aw.map Tm.d)), .d (.i r.rhs.op), .d (.i r.rhs.n), .d (.sl (r.rhs.kids.map Tm.d)), .d (.i r.vars)])) 62 (.np (enc (D.int .i64) (ints i.1)) i.2),63⟩)
    (fun i=>(df 1 r.aw).all (fun p=>decide (p.2<=1)&&decide (p.1<r.vars))=i.1.all (fun p=>decide (p.2<=1)&&decide (p.1<r.vars))) (fun i=>i.1.length) (df 1 r.aw,none) rfl (bf.bC _ (show 0<=63 from ag) ag eH (fun j hj=>by(repeat(first|rfl|rw[ad]|rw[af _ _ _ _ (by omega)]))) ?_) ?_
   ·exact cN
   rintro⟨rest,last⟩ hA
   simp only at hA
   refine bc ?_
   refine qd (fun E7=> ?_) fun i n k hm=> ?_
   ·subst E7
    simp only[List.all_nil]at hA
    refine qo ?_
    refine bz (qU [r.rhs] aK (fun t ht=>by simp at ht;subst ht;exact hr.rhs.fits)) ?_
    refine Uo ?_
    refine aC (fun i:List (Int×Int)×Option (D×D)=>⟨aW [.aa, .aa, .aa, .ptr 1 0, .aa, .aa, .d (IK (df 1 r.aw)), .d (IK (df 8 [r.rhs])), .aa, .aa, .aa, .aa, .aa, .aa, .aa, .aa, .aa, .aa, .aa, .aa, .aa, .aa, .aa, .aa, .aa, .aa, .aa, .aa, .aa, .aa, .aa, .aa, .aa, .aa, .aa, .aa, .aa, .aa, .aa, .aa, .aa, .aa, .aa, .aa, .aa, .aa, .aa, .aa, .aa, .aa, .aa, .aa, .aa, .aa, .aa, .aa, .aa, .aa, .aa, .aa, .aa, .aa, .aa, .aa, .aa, .aa, .aa, .aa, .aa, .aa, .aa, .aa, .aa, .aa, .aa, .aa, .aa, .aa, .aa, .aa, .aa, .aa, .aa, .aa, .aa, .aa, .aa, .ptr 69 0],aA (aA (aA (aA (aA (fun _=> .no) 0 (.row [.d (.sl (s.cons.map il.d)), .d (.sl (s.bu.map il.d))])) 1 (.row [.d (.i r.fn), .d (.sl (r.aw.map Tm.d)), .d (.i r.rhs.op), .d (.i r.rhs.n), .d (.sl (r.rhs.kids.map Tm.d)), .d (.i r.vars)])) 62 (.np (enc (D.int .i64) (ints [])) last)) 67 (.qu 0 [r.rhs.d])) 69 (.np (enc (D.int .i64) (ints i.1)) i.2),70⟩)
     (fun i=>(df 1 [r.rhs]).all (fun p=>decide (p.1<r.vars))=i.1.all (fun p=>decide (p.1<r.vars))) (fun i=>i.1.length) (df 1 [r.rhs],none) rfl (bf.bC _ (show 0<=70 from ag) ag eH (fun j hj=>by first|(rw[fI];done)|(repeat(first|rfl|rw[ad]|rw[af _ _ _ _ (by omega)]))|exact S8) ?_) ?_
    ·exact cN
    rintro⟨rest,Zg⟩ hB
    simp only at hB
    refine bc ?_
    refine qd (fun E7=> ?_) fun i n k hm=> ?_
    ·subst E7
     simp only[List.all_nil]at hB
     refine Uo ?_
     refine aC (fun i:List (Int×Int)×Option (D×D)=>⟨aW [.aa, .aa, .aa, .ptr 1 0, .aa, .aa, .d (IK (df 1 r.aw)), .d (IK (df 8 [r.rhs])), .aa, .aa, .aa, .aa, .aa, .aa, .aa, .aa, .aa, .aa, .aa, .aa, .aa, .aa, .aa, .aa, .aa, .aa, .aa, .aa, .aa, .aa, .aa, .aa, .aa, .aa, .aa, .aa, .aa, .aa, .aa, .aa, .aa, .aa, .aa, .aa, .aa, .aa, .aa, .aa, .aa, .aa, .aa, .aa, .aa, .aa, .aa, .aa, .aa, .aa, .aa, .aa, .aa, .aa, .aa, .aa, .aa, .aa, .aa, .aa, .aa, .aa, .aa, .aa, .aa, .aa, .aa, .aa, .aa, .aa, .aa, .aa, .aa, .aa, .aa, .aa, .aa, .aa, .aa, .aa, .aa, .aa, .aa, .aa, .aa, .aa, .aa, .aa, .aa, .ptr 73 0],aA (aA (aA (aA (aA (aA (fun _=> .no) 0 (.row [.d (.sl (s.cons.map il.d)), .d (.sl (s.bu.map il.d))])) 1 (.row [.d (.i r.fn), .d (.sl (r.aw.map Tm.d)), .d (.i r.rhs.op), .d (.i r.rhs.n), .d (.sl (r.rhs.kids.map Tm.d)), .d (.i r.vars)])) 62 (.np (enc (D.int .i64) (ints [])) last)) 67 (.qu 0 [r.rhs.d])) 69 (.np (enc (D.int .i64) (ints [])) Zg)) 73 (.np (enc (D.int .i64) (ints i.1)) i.2),74⟩)
      (fun i=>(df 8 [r.rhs]).all (fun p=>decide (p.2<=1)&&decide (p.1<r.vars)&&decide (fq (df 1 r.aw) p.1<=0))=i.1.all (fun p=>decide (p.2<=1)&&decide (p.1<r.vars)&&decide (fq (df 1 r.aw) p.1<=0))) (fun i=>i.1.length) (df 8 [r.rhs],none) rfl (bf.bC _ (show 0<=74 from ag) ag eH (fun j hj=>by(repeat(first|rfl|rw[ad]|rw[af _ _ _ _ (by omega)]))) ?_) ?_
     ·exact cN
     rintro⟨rest,acg⟩ hC
     simp only at hC
     refine bc ?_
     refine qd (fun E7=> ?_) fun i n k hm=> ?_
     ·subst E7
      simp only[List.all_nil]at hC
      refine qo ?_
      refine aD (IP (df 8 [r.rhs]) r.rhs hr.rhs.fits [] (by have:=hr.rhs.la;simp;omega)) rfl ?_
      refine bc ?_
      rw[hR,hA,hB,hC];rfl
     ·have hle:=qf hm
      rw[qe (fun p=>decide (p.2<=1)&&decide (p.1<r.vars)&&decide (fq (df 1 r.aw) p.1<=0)) hm]at hC
      simp only at hC
      have bad:(decide (k<=1)&&decide (n<r.vars)&&decide (fq (df 1 r.aw) n<=0))=false->dZ s r=false:=fun e2=>by rw[hR,hC,e2];simp
      by_cases g1:1<k
      ·have Zh:decide (1<k)=true:=by simpa using g1
       have e:=bad (by rw[decide_eq_false (by omega: ¬k<=1)];rfl)
       refine JR Zh ?_
       rw[e]
      have Zh:decide (1<k)=false:=by simpa using g1
      by_cases g2:r.vars<=n
      ·have Tf:decide (r.vars<=n)=true:=by simpa using g2
       have e:=bad (by rw[decide_eq_false (by omega: ¬n<r.vars)];simp)
       refine Up Zh Tf ?_
       rw[e]
      have Tf:decide (r.vars<=n)=false:=by simpa using g2
      by_cases g3:0<fq (df 1 r.aw) n
      ·have Tg:decide (0<fq (df 1 r.aw) n)=true:=by simpa using g3
       have e:=bad (by rw[decide_eq_false (by omega: ¬fq (df 1 r.aw) n<=0)];simp)
       refine Un Zh Tf Tg ?_
       rw[e]
      have Tg:decide (0<fq (df 1 r.aw) n)=false:=by simpa using g3
      have e2:(decide (k<=1)&&decide (n<r.vars)&&decide (fq (df 1 r.aw) n<=0))=true:=by
       simp;omega
      rw[e2,Bool.true_and]at hC
      refine Un Zh Tf Tg ?_
      refine aj (rest.eraseIdx i,some (.int .i64 n,D.i k)) hC nQ (bf.bC _ (show 0<=74 from ag) ag eH (fun j hj=>by first|(rw[fI];done)|(repeat(first|rfl|rw[ad]|rw[af _ _ _ _ (by omega)]))) ?_)
      exact cN
    ·have hle:=qf hm
     rw[qe (fun p=>decide (p.1<r.vars)) hm]at hB
     simp only at hB
     refine qo ?_
     refine ai (fun h3=> ?_) (fun h3=> ?_)
     ·have e:dZ s r=false:=by
       have e2:decide (n<r.vars)=false:=by
        simp at h3|-;omega
       rw[hR,hB,e2];simp
      exact Vf
     ·have e2:decide (n<r.vars)=true:=by
       simp at h3|-;omega
      rw[e2,Bool.true_and]at hB
      refine bc ?_
      refine aj (rest.eraseIdx i,some (.int .i64 n,D.i k)) hB nQ (bf.bC _ (show 0<=70 from ag) ag eH (fun j hj=>by first|(rw[fI];done)|(repeat(first|rfl|rw[ad]|rw[af _ _ _ _ (by omega)]))) ?_)
      exact cN
   ·have hle:=qf hm
    rw[qe (fun p=>decide (p.2<=1)&&decide (p.1<r.vars)) hm]at hA
    simp only at hA
    refine qo ?_
    refine ai (fun h3=> ?_) (fun h3=> ?_)
    ·have e:dZ s r=false:=by
      have e2:(decide (k<=1)&&decide (n<r.vars))=false:=by
       simp at h3|-;omega
      rw[hR,hA,e2];simp
     exact Vf
    ·have e2:(decide (k<=1)&&decide (n<r.vars))=true:=by
      simp at h3|-;omega
     rw[e2,Bool.true_and]at hA
     refine bc ?_
     refine aj (rest.eraseIdx i,some (.int .i64 n,D.i k)) hA nQ (bf.bC _ (show 0<=63 from ag) ag eH (fun j hj=>by first|rw[fI]|(repeat(first|rfl|rw[ad]|rw[af _ _ _ _ (by omega)]))) ?_)
     exact cN
def uG{σ α:Type}(step:σ->α->σ×Bool):σ->List α->Int->Int
 |_,[],_=> -1
 |s,x::l,k=>if(step s x).2=true then uG step (step s x).1 l (k+1)else k
theorem DM{σ α:Type}(step:σ->α->σ×Bool):∀ (l:List α) (s:σ) (k:Int),0<=k->(0<=uG step s l k↔(aq step s l).2=false)
 |[],_,_,_=>by simp[uG,aq]
 |x::l,s,k,hk=>by
  have ih:=DM step l (step s x).1 (k+1) ag
  by_cases h:(step s x).2=true
  ·simp only[uG,aq,h,if_true];exact ih
  ·simp[uG,aq,h,hk]
theorem SC{σ:Type}(l:List Rl)(hl:l.length<=9223372036854775807)(g:Nat)(aV:List V)(base:Nat)(H:σ->Nat->ab)(step:σ->Rl->σ×Bool)(hc:∀r∈V.aJ aV,r<base)(ok:σ->Prop)(aU:∀x∈l,∀s,ok s->(step s x).2=true->ok (step s x).1)
 (h:∀x∈l,∀s,ok s->jP Tryz.prog g (.d x.d::aV) base (H s) (H (step s x).1) (.d (.bool (!(step s x).2)))) (s:σ) (iT:ok s):
 jP Tryz.prog 158 [.d (.sl (l.map Rl.d)), .func (.func g) [] aV] base (H s) (H (aq step s l).1) (.d (.i (uG step s l 0))):=by
 intro o nx hI K X hK
 have jX:∀r∈V.aJ aV,r<nx:=fun r hr=>Nat.lt_of_lt_of_le (hc r hr) hI.le
 refine cZ.aG mix Oq aK ?_
 rw[RT]
 refine ck ?_
 refine aC (fun i:Nat×σ×(Nat->ab)×Nat=>⟨aW [.d (.sl (l.map Rl.d)), .func (.func g) [] aV, .aa, .aa, .aa, .aa, .aa, .d (.i l.length), .d (.i i.1)],i.2.2.1,i.2.2.2⟩)
  (fun i=>i.1<=l.length/\cF base (H i.2.1) i.2.2.1 i.2.2.2/\nx<=i.2.2.2/\(∀id,base<=id->id<nx->i.2.2.1 id=o id)/\aq step s l=aq step i.2.1 (l.drop i.1)/\ok i.2.1/\uG step s l 0=uG step i.2.1 (l.drop i.1) i.1) (fun i=>l.length - i.1) (0,s,o,nx)
  ⟨Nat.zero_le _,hI,Nat.le_refl _,fun _ _ _=>rfl,rfl,iT,rfl⟩ ?_ ?_
 ·exact J7
 rintro⟨k,s',o',nx'⟩ ⟨hk,uh,hn,cJ,hf,iJ,yn⟩
 simp only at hk uh hn cJ hf iJ yn
 refine ck ?_
 refine ai (fun h1=> ?_) (fun h1=> ?_)
 ·simp at h1
  obtain⟨x,hx⟩:=aB h1
  have eC:=List.mem_of_getElem? hx
  have hd:l.drop k=x::l.drop (k+1):=by
   exact Ve
  rw[hd]at hf yn
  simp only[aq,uG]at hf yn
  refine JT hx ?_
  refine fi (h x eC s' iJ _ _ (uh.mono ag) _ _ fun o2 n2 m1 m2 m3=> ?_)
  cases hb:(step s' x).2 with
  |true=>
   rw[hb]at hf yn
   simp only[if_true]at hf yn
   refine bc ?_
   have It:∀r∈V.aJ aV,r<n2+1+1:=fun r hr=>by have:=jX r hr;omega
   exact zw7
  |false=>
   exact VB
 ·exact MF
theorem Ar{σ:Type}(l:List Rl)(hl:l.length<=9223372036854775807)(g:Nat)(aV:List V)(base:Nat)(H:σ->Nat->ab)(step:σ->Rl->σ×Bool)(hc:∀r∈V.aJ aV,r<base)(ok:σ->Prop)(aU:∀x∈l,∀s,ok s->(step s x).2=true->ok (step s x).1)
 (h:∀x∈l,∀s,ok s->jP Tryz.prog g (.d x.d::aV) base (H s) (H (step s x).1) (.d (.bool (!(step s x).2)))) (s:σ) (iT:ok s):
 jP Tryz.prog 129 [.d (.sl (l.map Rl.d)), .func (.func g) [] aV] base (H s) (H (aq step s l).1) (.d (.bool (!(aq step s l).2))):=by
 intro o nx hI K X hK
 have jX:∀r∈V.aJ aV,r<nx:=fun r hr=>Nat.lt_of_lt_of_le (hc r hr) hI.le
 refine cZ.aG mix Od aK ?_
 rw[RH]
 refine qo ?_
 refine br (SC l hl g aV base H step hc ok aU h s iT _ _ ?_ _ _ fun o2 n2 m1 m2 m3=> ?_)
 ·exact hI.mono ag
 refine qo ?_
 have e:decide (0<=uG step s l 0)= !(aq step s l).2:=by
  have:=DM step l s 0 ag
  exact MV
 rw[e]
 exact Mj
theorem Zi{x:Rl}{g:Nat}{aV:List V}{base c bx:Nat}{h h2 O:Nat->ab}{r:Bool}(hS:jP Tryz.prog g (.d x.d::aV) base h h2 (.d (.bool r)))(hb:base<=bx)(Ua:bx<c)(hO:O bx= .row [.func (.func g) [] aV])(hc:∀r∈V.aJ aV,r<base):
 jP Tryz.prog 130 [.d x.d, .ptr bx 0] c (ext base h O) (ext base h2 O) (.d (.bool (!r))):=by
 intro o nx hI K X hK
 have hle:=hI.le
 have jX:∀r∈V.aJ aV,r<nx:=fun r hr=>by have:=hc r hr;omega
 have ho:o bx= .row [.func (.func g) [] aV]:=by
  rw[hI.eq bx Ua];unfold ext;rw[if_neg (by omega),hO]
 have y1:∀k,bx≠nx+k:=fun k=>ag
 have y2:bx≠nx:=ag
 refine cZ.aG mix Oe aK ?_
 rw[RI]
 refine O8 ho y1 y2 ?_
 refine fi ((hS.ext (by omega:base<=c) O) _ _ ?_ _ _ fun o2 n2 m1 m2 m3=> ?_)
 ·exact hI.aA ag ag ag rfl
 refine qo ?_
 exact UL
theorem Fx{σ:Type}(l:List Rl)(hl:l.length<=9223372036854775807)(g:Nat)(aV:List V)(base:Nat)(H:σ->Nat->ab)(step:σ->Rl->σ×Bool)(hc:∀r∈V.aJ aV,r<base)(ok:σ->Prop)(aU:∀x∈l,∀s,ok s->(step s x).2=true->ok (step s x).1)
 (h:∀x∈l,∀s,ok s->jP Tryz.prog g (.d x.d::aV) base (H s) (H (step s x).1) (.d (.bool (step s x).2))) (s:σ) (iT:ok s):
 jP Tryz.prog 98 [.d (.sl (l.map Rl.d)), .func (.func g) [] aV] base (H s) (H (aq step s l).1) (.d (.bool (aq step s l).2)):=by
 intro o nx hI K X hK
 have hle:=hI.le
 have jX:∀r∈V.aJ aV,r<nx:=fun r hr=>Nat.lt_of_lt_of_le (hc r hr) hI.le
 refine cZ.aG mix Xv aK ?_
 rw[c98]
 refine qo ?_
 refine br (Ar l hl 130 [.ptr nx 0] (nx+1) (fun s=>ext base (H s) (aA o nx (.row [.func (.func g) [] aV]))) step nP ok aU (fun x hx s hs=>Zi (h x hx s hs) hle ag (ad _ _ _) hc) s iT _ _ ?_ _ _ fun o2 n2 m1 m2 m3=> ?_)
 ·have hr:(ab.row [V.func (.func g) [] aV]).refs.all (fun r=>decide (r<nx+4))=true:=by
   rw[List.all_eq_true]
   intro r hr
   have h1:r∈V.aJ aV:=by simpa[ab.refs,V.aJ,V.refs]using hr
   have:=jX r h1
   simp;omega
  exact Mn
 refine qo ?_
 refine hK _ _ ag ⟨(m2.mono ag).bB,by have:=m2.le;omega,fun id au=> ?_⟩ fun id i1 i2=> ?_
 ·exact Gi
 ·exact U0
theorem xH(l:List Rl)(hl:l.length<=9223372036854775807)(g:Nat)(aV:List V)(base:Nat)(h:Nat->ab)(p:Rl->Bool)(hc:∀r∈V.aJ aV,r<base)
 (hp:∀x∈l,jP Tryz.prog g (.d x.d::aV) base h h (.d (.bool (p x)))):jP Tryz.prog 98 [.d (.sl (l.map Rl.d)), .func (.func g) [] aV] base h h (.d (.bool (l.all p))):=by
 have:=Fx l hl g aV base (fun _:Unit=>h) (fun _ x=>((),p x)) hc (fun _=>True) (fun _ _ _ _ _=>trivial) (fun x hx _ _=>hp x hx) () trivial
 exact GG
structure Pg where
 sig:bE
 rules:List Rl
@[reducible] def Pg.row (p:Pg):List V:=[.d (.sl (p.sig.cons.map il.d)), .d (.sl (p.sig.bu.map il.d)), .d (.sl (p.rules.map Rl.d))]
@[reducible] def Pg.d (p:Pg):D:= .agg [.sl (p.sig.cons.map il.d), .sl (p.sig.bu.map il.d), .sl (p.rules.map Rl.d)]
structure Pg.Fin (p:Pg):Prop where
 sig:p.sig.Fits
 len:p.rules.length<=9223372036854775807
 all:∀r∈p.rules,r.Fin
def oY(p:Pg):Bool:=decide (p.rules.length<=16)&&(iw p.sig&&p.rules.all (dZ p.sig))
theorem Fy(p:Pg)(hp:p.Fin)(r:Rl)(hr:r∈p.rules)(base sp:Nat)(h:Nat->ab)(x7:h sp= .row p.row)(hb:sp<base):jP Tryz.prog 99 [.d r.d, .ptr sp 0] base h h (.d (.bool (dZ p.sig r))):=by
 intro o nx hI K X hK
 have hle:=hI.le
 have hg:=hI.bB
 have q0:o sp= .row p.row:=by rw[hI.eq sp hb,x7]
 refine cZ.aG mix Xw aK ?_
 rw[c99]
 refine gD q0 ?_
 refine aD (LL p.sig hp.sig r (hp.all r hr)) rfl ?_
 exact Vl
theorem IU(p:Pg)(hp:p.Fin):aR Tryz.prog 71 [p.d] (.ret [.bool (oY p)]):=by
 have hl:=hp.len
 refine aR.aG mix Xp aK ?_
 rw[c71]
 unfold oY
 by_cases h0: ¬p.rules.length<=16
 ·have Qc:decide ((p.rules.length:Int)<=16)=false:=by simp;omega
  have SD:decide (p.rules.length<=16)=false:=by simp;omega
  refine ll Qc ?_
  rw[SD];rfl
 have Qc:decide ((p.rules.length:Int)<=16)=true:=by simp;omega
 have SD:decide (p.rules.length<=16)=true:=by simp;omega
 rw[SD,Bool.true_and]
 refine ll Qc ?_
 refine aD (tu p.sig hp.sig) rfl ?_
 cases h1:iw p.sig with
 |false=>
  refine A9 ?_
  try simp
 |true=>
  refine A9 ?_
  refine br (xH p.rules hl 99 [.ptr 0 0] 1 (aA (fun _=> .no) 0 (.row p.row)) (dZ p.sig) nP (fun x hx=>Fy p hp x hx 1 0 _ (ad _ _ _) ag) _ _ ⟨eH,ag,fun id au=>rfl⟩ _ _ fun o2 n2 m1 m2 m3=> ?_)
  refine bc ?_
  try simp
theorem IV(p:Pg)(hp:p.Fin):aR Tryz.prog 40 [p.d] (.ret [.i (m4 (oY p))]):=by
 refine aR.aG mix Xk aK ?_
 rw[c40]
 refine bc ?_
 refine aD (IU p hp) rfl ?_
 cases h1:oY p with
 |false=>exact Gf
 |true=>exact Gf
def ji(op v:Int)(xs:List Tm):Nat:=xs.countP fun x=>x.op==op&&x.n==v
theorem DN:∀ (m:List (Int×Int)) (v w u:Int),lk (jO m v w) u=if v=u then some w else lk m u
 |[],v,w,u=>by simp only[jO,lk]
 |p::m,v,w,u=>by
  have ih:=DN m v w u
  unfold jO
  by_cases h:p.1=v
  ·rw[if_pos h]
   simp only[lk]
   by_cases h2:v=u
   ·simp[h2]
   ·have: ¬p.1=u:=by rw[h];exact h2
    simp[h2,this]
  ·rw[if_neg h]
   simp only[lk]
   by_cases h2:p.1=u
   ·have: ¬v=u:=by intro e;exact h (h2.trans e.symm)
    simp[h2,this]
   ·simp only[h2,if_false];exact ih
theorem As:∀ (m:List (Int×Int)) (v w u:Int),u∈(jO m v w).map (·.1)↔u=v\/u∈m.map (·.1)
 |[],v,w,u=>by simp[jO]
 |p::m,v,w,u=>by
  have ih:=As m v w u
  unfold jO
  by_cases h:p.1=v
  ·rw[if_pos h];simp[h]
  ·rw[if_neg h,List.map_cons,List.mem_cons,ih,List.map_cons,List.mem_cons]
   constructor
   ·rintro(h1|h1|h1)<;>simp[h1]
   ·rintro(h1|h1|h1)<;>simp[h1]
theorem vV:∀ (m:List (Int×Int)) (v w:Int),rv m->rv (jO m v w)
 |[],v,w,_=>by simp[jO,rv]
 |p::m,v,w,hk=>by
  have GP:p.1∉m.map (·.1)/\rv m:=by
   unfold rv at hk|-
   rwa [List.map_cons,List.nodup_cons]at hk
  have ih:=vV m v w GP.2
  unfold jO
  by_cases h:p.1=v
  ·rw[if_pos h]
   unfold rv
   rw[List.map_cons,List.nodup_cons]
   exact⟨by rw[<- h];exact GP.1,GP.2⟩
  ·rw[if_neg h]
   unfold rv
   rw[List.map_cons,List.nodup_cons]
   exact⟨fun hm=>by
    rcases(As m v w p.1).1 hm with e|e
    ·exact h e
    ·exact GP.1 e,ih⟩
theorem Ck(op:Int):∀ (xs:List Tm) (m:List (Int×Int)) (c:Int->Nat),rv m->(∀v,lk m v=if c v=0 then none else some (c v:Int))->(∀v,c v+xs.length<=1000000)->
 rv (xs.foldl (de op) m)/\∀v,lk (xs.foldl (de op) m) v=if c v+ji op v xs=0 then none else some ((c v+ji op v xs:Nat):Int)
 |[],m,c,hk,hl,_=>⟨hk,fun v=>by rw[List.foldl_nil,hl v];rfl⟩
 |x::xs,m,c,hk,hl,hb=>by
  simp only[List.foldl_cons]
  by_cases h:x.op=op
  ·have hg:fq m x.n=(c x.n:Int):=by
    unfold fq;rw[hl];split
    ·next h0=>rw[h0];rfl
    ·rfl
   have Qk:=hb x.n
   simp only[List.length_cons]at Qk hb
   have e1:de op m x=jO m x.n ((c x.n+1:Nat):Int):=by
    unfold de ry
    rw[if_pos h,hg,wrap64 (by omega) (by omega)]
    push_cast;rfl
   rw[e1]
   have ih:=Ck op xs (jO m x.n ((c x.n+1:Nat):Int)) (fun v=>c v+if x.n=v then 1 else 0) (vV _ _ _ hk) (fun v=>by
    rw[DN]
    by_cases e:x.n=v
    ·subst e;simp
    ·simp[e,hl v]) (fun v=>by have:=hb v;split<;>omega)
   refine⟨ih.1,fun v=> ?_⟩
   rw[ih.2 v]
   have e2:(c v+if x.n=v then 1 else 0)+ji op v xs=c v+ji op v (x::xs):=by
    unfold ji
    rw[List.countP_cons]
    by_cases e:x.n=v<;>simp[h,e]<;>omega
   rw[e2]
  ·have e1:de op m x=m:=by unfold de;rw[if_neg h]
   rw[e1]
   have ih:=Ck op xs m c hk hl (fun v=>by have:=hb v;simp at this;omega)
   refine⟨ih.1,fun v=> ?_⟩
   rw[ih.2 v]
   have e2:ji op v (x::xs)=ji op v xs:=by
    unfold ji
    rw[List.countP_cons];simp[h]
   rw[e2]
def mL(l:List Tm):List Tm:=l.flatMap eN
theorem DO(op:Int)(l:List Tm)(hb:(mL l).length<=1000000):rv (df op l)/\∀v,lk (df op l) v=if ji op v (mL l)=0 then none else some (ji op v (mL l):Int):=by
 have:=Ck op (mL l) [] (fun _=>0) List.nodup_nil (fun v=>by simp[lk]) (fun v=>by simpa using hb)
 refine⟨this.1,fun v=> ?_⟩
 have h:=this.2 v
 rw[Nat.zero_add]at h
 exact h
theorem Au(op:Int)(l:List Tm)(hb:(mL l).length<=1000000)(v:Int):fq (df op l) v=(ji op v (mL l):Int):=by
 unfold fq
 rw[(DO op l hb).2 v]
 split
 ·next h=>rw[h];rfl
 ·rfl
theorem tD(op:Int)(l:List Tm)(hb:(mL l).length<=1000000)(p:Int×Int->Bool):(df op l).all p=true↔∀v,0<ji op v (mL l)->p (v,(ji op v (mL l):Int))=true:=by
 obtain⟨hk,hl⟩:=DO op l hb
 rw[List.all_eq_true]
 constructor
 ·intro h v hv
  refine h _ ((DK hk).1 ?_)
  rw[hl v,if_neg (by omega)]
 ·rintro h ⟨v,c⟩ hm
  have h1:=(DK hk).2 hm
  rw[hl v]at h1
  split at h1
  ·cases h1
  ·next h0=>
   injection h1 with h1
   have:=h v ag
   rw[h1]at this
   exact this
theorem LM(m:List (Int×Int)):∀ (t:Tm) (mK:List Int),xF m t mK=true↔∀v,Cj v t=true->fq m v=0\/v∈mK:=by
 refine Tm.dy fun t ih mK=> ?_
 have key:∀ (l:List Tm) (i:Nat),(∀k∈l,k∈t.kids)->(oW m t.op t.n l i mK=true↔∀v,oX v t.op t.n l i=true->fq m v=0\/v∈mK):=by
  intro l
  induction l with
  |nil=>intro i _;simp[oW,oX]
  |cons k l tl=>
   intro i hk
   have h1:=ih k (hk k aK) (if t.op=8/\i=1 then mK++[t.n]else mK)
   have h2:=tl (i+1) (fun x hx=>hk x mQ)
   simp only[oW,oX,Bool.and_eq_true,h1,h2,Bool.or_eq_true]
   by_cases hc:t.op=8/\i=1
   ·simp only[hc,and_self,if_true,List.mem_append,List.mem_singleton]
    constructor
    ·rintro⟨a,b⟩ v (⟨c,d⟩|c)
     ·rcases a v c with e|e|e
      ·exact .inl e
      ·exact .inr e
      ·subst e;simp at d
     ·exact b v c
    ·intro a
     refine⟨fun v c=> ?_,fun v c=>a v (.inr c)⟩
     by_cases e:v=t.n
     ·exact .inr (.inr e)
     ·rcases a v (.inl ⟨c,by simp;exact fun e2=>e e2.symm⟩)with g|g
      ·exact .inl g
      ·exact .inr (.inl g)
   ·have hb:(t.op==8&&i==1)=false:=by
     cases h:(t.op==8&&i==1)with
     |false=>rfl
     |true=>simp at h;exact absurd h hc
    simp only[hc,if_false,hb,Bool.false_and,Bool.not_false,and_true]
    constructor
    ·rintro⟨a,b⟩ v (c|c)
     ·exact a v c
     ·exact b v c
    ·intro a
     exact⟨fun v c=>a v (.inl c),fun v c=>a v (.inr c)⟩
 rw[DL]
 by_cases h:t.op=1
 ·rw[if_pos h]
  simp only[tC,h,if_true]
  simp
 ·rw[if_neg h,key t.kids 0 (fun _ h=>h)]
  simp only[tC,h,if_false]
theorem Fz(s:bE)(r:Rl)(h1:(mL r.aw).length<=1000000)(h2:(mL [r.rhs]).length<=1000000):dZ s r=true↔lh s r=true/\
 (∀v,0<ji 1 v (mL r.aw)->ji 1 v (mL r.aw)<=1/\v<r.vars)/\(∀v,0<ji 1 v (mL [r.rhs])->v<r.vars)/\
 (∀v,0<ji 8 v (mL [r.rhs])->ji 8 v (mL [r.rhs])<=1/\v<r.vars/\ji 1 v (mL r.aw)=0)/\(∀v,Cj v r.rhs=true->ji 8 v (mL [r.rhs])=0):=by
 unfold dZ
 simp only[Bool.and_eq_true,tD 1 r.aw h1,tD 1 [r.rhs] h2,tD 8 [r.rhs] h2,LM,Au 1 r.aw h1,Au 8 [r.rhs] h2,decide_eq_true_eq]
 constructor
 ·rintro⟨⟨⟨⟨a,b⟩,c⟩,d⟩,e⟩
  refine⟨a,fun v hv=> ?_,c,fun v hv=> ?_,fun v hv=> ?_⟩
  ·have:=b v hv;omega
  ·have:=d v hv;omega
  ·rcases e v hv with g|g
   ·omega
   ·cases g
 ·rintro⟨a,b,c,d,e⟩
  refine⟨⟨⟨⟨a,fun v hv=> ?_⟩,c⟩,fun v hv=> ?_⟩,fun v hv=> .inl ?_⟩
  ·have:=b v hv;omega
  ·have:=d v hv;omega
  ·have:=e v hv;omega
def jc:List Int->Int->List Int
 |[],n=>[n]
 |x::l,n=>if x<n then x::jc l n else if x=n then x::l else n::x::l
def kV(op n:Int)(i:Nat)(l out:List Int):List Int:=l.foldl (fun out v=>if(op !=8||(i:Int)!=1||v !=n)=true then jc out v else out) out
mutual
def bK:Tm->List Int
 | .mk op n kids=>if op=1 then [n]else hY op n kids 0 []
def hY(op n:Int):List Tm->Nat->List Int->List Int
 |[],_,out=>out
 |k::l,i,out=>hY op n l (i+1) (kV op n i (bK k) out)
end
theorem mi(t:Tm):bK t=if t.op=1 then [t.n]else hY t.op t.n t.kids 0 []:=by cases t;rfl
theorem oZ:∀ (l:List Int) (n v:Int),v∈jc l n↔v∈l\/v=n
 |[],n,v=>by simp[jc]
 |x::l,n,v=>by
  simp only[jc]
  split
  ·simp only[List.mem_cons,oZ l n v];constructor
   ·rintro(h|h|h)
    ·exact .inl (.inl h)
    ·exact .inl (.inr h)
    ·exact .inr h
   ·rintro((h|h)|h)
    ·exact .inl h
    ·exact .inr (.inl h)
    ·exact .inr (.inr h)
  ·split
   ·rename_i h;subst h;simp only[List.mem_cons];constructor
    ·exact .inl
    ·rintro(h|h)
     ·exact h
     ·exact .inl h
   ·simp only[List.mem_cons];constructor
    ·rintro(h|h)
     ·exact .inr h
     ·exact .inl h
    ·rintro(h|h)
     ·exact .inr h
     ·exact .inl h
abbrev SE(l:List Int):Prop:=l.Pairwise (· <·)
theorem Av:∀ {l:List Int} (n:Int),SE l->SE (jc l n)
 |[],n,_=>by simp[jc]
 |x::l,n,h=>by
  have h1:=List.pairwise_cons.1 h
  simp only[jc]
  split
  ·rename_i hx
   refine List.pairwise_cons.2 ⟨fun y hy=> ?_,Av n h1.2⟩
   rcases(oZ l n y).1 hy with hy|hy
   ·exact h1.1 y hy
   ·omega
  ·split
   ·exact h
   ·refine List.pairwise_cons.2 ⟨fun y hy=> ?_,h⟩
    rcases List.mem_cons.1 hy with hy|hy
    ·omega
    ·have:=h1.1 y hy;omega
theorem qg(op n:Int)(i:Nat):∀ (l out:List Int),SE out->SE (kV op n i l out)/\∀v,v∈kV op n i l out↔v∈out\/(v∈l/\ ¬ (op=8/\i=1/\n=v))
 |[],out,h=>⟨h,fun v=>by simp[kV]⟩
 |x::l,out,h=>by
  have hk:kV op n i (x::l) out=kV op n i l (if(op !=8||(i:Int)!=1||x !=n)=true then jc out x else out):=rfl
  rw[hk]
  by_cases hc:(op !=8||(i:Int)!=1||x !=n)=true
  ·rw[if_pos hc]
   have ih:=qg op n i l (jc out x) (Av x h)
   refine⟨ih.1,fun v=> ?_⟩
   rw[ih.2 v,oZ,List.mem_cons]
   have qB: ¬ (op=8/\i=1/\n=x):=by
    rintro⟨h1,h2,h3⟩;subst h1;subst h2;subst h3;simp at hc
   constructor
   ·rintro((h|h)|h)
    ·exact .inl h
    ·subst h;exact .inr ⟨.inl rfl,qB⟩
    ·exact .inr ⟨.inr h.1,h.2⟩
   ·rintro(h|⟨h|h,h2⟩)
    ·exact .inl (.inl h)
    ·exact .inl (.inr h)
    ·exact .inr ⟨h,h2⟩
  ·rw[if_neg hc]
   have ih:=qg op n i l out h
   refine⟨ih.1,fun v=> ?_⟩
   rw[ih.2 v,List.mem_cons]
   have qB:op=8/\i=1/\n=x:=by simp at hc;exact⟨hc.1.1,ag,hc.2.symm⟩
   constructor
   ·rintro(h|h)
    ·exact .inl h
    ·exact .inr ⟨.inr h.1,h.2⟩
   ·rintro(h|⟨h|h,h2⟩)
    ·exact .inl h
    ·subst h;exact absurd qB h2
    ·exact .inr ⟨h,h2⟩
theorem jd:∀t:Tm,SE (bK t)/\∀v,v∈bK t↔Cj v t=true:=by
 refine Tm.dy fun t ih=> ?_
 have hs:∀ (l:List Tm) (i:Nat) (out:List Int),(∀k∈l,k∈t.kids)->SE out->SE (hY t.op t.n l i out)/\∀v,v∈hY t.op t.n l i out↔v∈out\/oX v t.op t.n l i=true:=by
  intro l
  induction l with
  |nil=>intro i out _ h;exact⟨h,fun v=>by simp[hY,oX]⟩
  |cons k l tl=>
   intro i out hk h
   have h1:=ih k (hk k aK)
   have h2:=qg t.op t.n i (bK k) out h
   have h3:=tl (i+1) _ (fun x hx=>hk x mQ) h2.1
   refine⟨h3.1,fun v=> ?_⟩
   show v∈hY t.op t.n l (i+1) (kV t.op t.n i (bK k) out)↔_
   rw[h3.2 v,h2.2 v,h1.2 v,oX]
   simp only[Bool.or_eq_true,Bool.and_eq_true,Bool.not_eq_true',Bool.and_eq_false_iff,beq_eq_false_iff_ne,ne_eq,not_and]
   have:(∀ (_:t.op=8) (_:i=1), ¬t.n=v)↔((¬t.op=8\/ ¬i=1)\/ ¬t.n=v):=by
    constructor
    ·intro h
     by_cases c1:t.op=8
     ·by_cases c2:i=1
      ·exact .inr (h c1 c2)
      ·exact .inl (.inr c2)
     ·exact .inl (.inl c1)
    ·rintro((h|h)|h) c1 c2
     ·exact absurd c1 h
     ·exact absurd c2 h
     ·exact h
   rw[this]
   constructor
   ·rintro((h|h)|h)
    ·exact .inl h
    ·exact .inr (.inl h)
    ·exact .inr (.inr h)
   ·rintro(h|h|h)
    ·exact .inl (.inl h)
    ·exact .inl (.inr h)
    ·exact .inr h
 by_cases h1:t.op=1
 ·rw[mi,if_pos h1]
  refine⟨aK,fun v=> ?_⟩
  rw[tC,if_pos h1]
  simp only[List.mem_singleton,beq_iff_eq]
  exact eq_comm
 ·rw[mi,if_neg h1]
  have:=hs t.kids 0 [] (fun _ h=>h) aK
  refine⟨this.1,fun v=> ?_⟩
  rw[this.2 v,tC,if_neg h1]
  simp
theorem tE:∀ (l:List Int) (n:Int),(jc l n).length<=l.length+1
 |[],n=>by simp[jc]
 |x::l,n=>by
  have:=tE l n
  simp only[jc]
  split
  ·simp;omega
  ·split<;>simp
theorem mj(op n:Int)(i:Nat):∀ (l out:List Int),(kV op n i l out).length<=out.length+l.length
 |[],out=>by simp[kV]
 |x::l,out=>by
  have hk:kV op n i (x::l) out=kV op n i l (if(op !=8||(i:Int)!=1||x !=n)=true then jc out x else out):=rfl
  rw[hk]
  have h1:=tE out x
  split
  ·have:=mj op n i l (jc out x);simp;omega
  ·have:=mj op n i l out;simp;omega
theorem kn:∀t:Tm,(bK t).length<=t.sz:=by
 refine Tm.dy fun t ih=> ?_
 have hs:∀ (l:List Tm) (i:Nat) (out:List Int),(∀k∈l,k∈t.kids)->(hY t.op t.n l i out).length<=out.length+fO l:=by
  intro l
  induction l with
  |nil=>intro i out _;simp[hY]
  |cons k l tl=>
   intro i out hk
   have h1:=ih k (hk k aK)
   have h2:=mj t.op t.n i (bK k) out
   have h3:=tl (i+1) (kV t.op t.n i (bK k) out) (fun x hx=>hk x mQ)
   rw[fL]
   show(hY t.op t.n l (i+1) (kV t.op t.n i (bK k) out)).length<=_
   omega
 rw[mi,Tm.hZ]
 split
 ·simp
 ·have:=hs t.kids 0 [] (fun _ h=>h);simp at this;omega
theorem LN(t:Tm):mL [t]=eN t:=by simp[mL]
theorem Aw(op v:Int)(x:Tm)(l:List Tm):ji op v (x::l)=ji op v l+if x.op=op/\x.n=v then 1 else 0:=by
 unfold ji
 rw[List.countP_cons]
 by_cases h:x.op=op/\x.n=v
 ·simp[h]
 ·rw[if_neg h,if_neg (by simpa using h)]
theorem Cm(op v:Int)(a b:List Tm):ji op v (a++b)=ji op v a+ji op v b:=by unfold ji;rw[List.countP_append]
theorem jC(op v:Int)(l:List Tm):0<ji op v l↔∃x∈l,x.op=op/\x.n=v:=by
 unfold ji
 rw[List.countP_pos_iff]
 simp
mutual
def dg:Tm->List Int
 | .mk op n kids=>(if op=8 then [n]else [])++cB kids
def cB:List Tm->List Int
 |[]=>[]
 |k::l=>dg k++cB l
end
theorem qh(t:Tm):dg t=(if t.op=8 then [t.n]else [])++cB t.kids:=by cases t;rw[dg];rfl
theorem ml:∀ (t:Tm) (v:Int),(dg t).count v=ji 8 v (eN t):=by
 refine Tm.dy fun t ih v=> ?_
 have key:∀l:List Tm,(∀k∈l,k∈t.kids)->(cB l).count v=ji 8 v (l.flatMap eN):=by
  intro l
  induction l with
  |nil=>intro _;rfl
  |cons k l tl=>
   intro hk
   rw[cB,List.count_append,ih k (hk k (by simp)) v,tl (fun x hx=>hk x (by simp[hx])),List.flatMap_cons,Cm]
 rw[qh,List.count_append,key t.kids (fun _ h=>h),gW,Aw]
 by_cases h:t.op=8
 ·by_cases h2:t.n=v
  ·simp[h,h2];omega
  ·simp[h,h2]
 ·simp[h]
theorem vW(t:Tm)(v:Int):v∈dg t↔0<ji 8 v (eN t):=by
 rw[<- ml,List.count_pos_iff]
mutual
def dO(n:Int):Tm->Bool
 | .mk op k kids=>gO n kids&&((op !=1&&op !=8)||decide (k<n))
def gO(n:Int):List Tm->Bool
 |[]=>true
 |k::l=>dO n k&&gO n l
end
theorem tF(n:Int)(t:Tm):dO n t=(gO n t.kids&&((t.op !=1&&t.op !=8)||decide (t.n<n))):=by cases t;rw[dO];rfl
theorem Cn(n:Int):∀t:Tm,dO n t=true↔∀x∈eN t,x.op=1\/x.op=8->x.n<n:=by
 refine Tm.dy fun t ih=> ?_
 have key:∀l:List Tm,(∀k∈l,k∈t.kids)->(gO n l=true↔∀x∈l.flatMap eN,x.op=1\/x.op=8->x.n<n):=by
  intro l
  induction l with
  |nil=>intro _;simp[gO]
  |cons k l tl=>
   intro hk
   rw[gO,Bool.and_eq_true,ih k (hk k (by simp)),tl (fun x hx=>hk x (by simp[hx])),List.flatMap_cons]
   simp only[List.mem_append]
   constructor
   ·rintro⟨a,b⟩ x (h|h)
    ·exact a x h
    ·exact b x h
   ·intro a
    exact⟨fun x h=>a x (.inl h),fun x h=>a x (.inr h)⟩
 rw[tF,Bool.and_eq_true,key t.kids (fun _ h=>h),gW]
 simp only[List.mem_cons,Bool.or_eq_true,Bool.and_eq_true,bne_iff_ne,decide_eq_true_eq]
 constructor
 ·rintro⟨a,b⟩ x (h|h) h2
  ·subst h
   rcases b with⟨b1,b2⟩|b
   ·rcases h2 with e|e
    ·exact absurd e b1
    ·exact absurd e b2
   ·exact b
  ·exact a x h h2
 ·intro a
  refine⟨fun x h=>a x (.inr h), ?_⟩
  by_cases h:t.op=1\/t.op=8
  ·exact .inr (a t (.inl rfl) h)
  ·exact .inl ⟨fun e=>h (.inl e),fun e=>h (.inr e)⟩
theorem Co(n:Int)(t:Tm):dO n t=true↔(∀v,0<ji 1 v (eN t)->v<n)/\∀v,0<ji 8 v (eN t)->v<n:=by
 rw[Cn]
 constructor
 ·intro a
  refine⟨fun v h=> ?_,fun v h=> ?_⟩<;>(obtain⟨x,h1,h2,h3⟩:=(jC _ _ _).1 h;rw[<- h3];exact a x h1 (by simp[h2]))
 ·rintro⟨a,b⟩ x h (h2|h2)
  ·exact a _ ((jC _ _ _).2 ⟨x,h,h2,rfl⟩)
  ·exact b _ ((jC _ _ _).2 ⟨x,h,h2,rfl⟩)
def qi(t:Tm)(aw:List Int):Bool:=(dg t).all fun v=> !(decide (1<((dg t).count v:Int))||aw.contains v||(bK t).contains v)
theorem FA(t:Tm)(aw:List Int):qi t aw=true↔∀v,0<ji 8 v (eN t)->ji 8 v (eN t)<=1/\v∉aw/\Cj v t=false:=by
 unfold qi
 rw[List.all_eq_true]
 have hv:∀v,(bK t).contains v=Cj v t:=fun v=>by
  rw[Bool.eq_iff_iff,List.contains_iff_mem,(jd t).2 v]
 constructor
 ·intro a v h
  have:=a v ((vW t v).2 h)
  rw[ml,hv]at this
  simp at this
  exact⟨ag,this.1.2,this.2⟩
 ·intro a v h
  obtain⟨a1,a2,a3⟩:=a v ((vW t v).1 h)
  rw[ml,hv,a3]
  simp
  exact⟨ag,a2⟩
theorem mM:∀ (W A:List Int),A.Nodup->(∀v,v∈A↔v∈W)->A.length<=W.length/\(A.length=W.length↔W.Nodup)
 |[],A,hA,h=>by
  have:A=[]:=List.eq_nil_iff_forall_not_mem.2 fun v hv=>by simpa using(h v).1 hv
  subst this;simp
 |x::W,A,hA,h=>by
  by_cases hx:x∈W
  ·have ih:=(mM W A hA fun v=>by
    rw[h v,List.mem_cons]
    exact⟨fun e=>e.elim (fun e=>e ▸ hx) id, .inr⟩).1
   refine⟨by simp;omega, ?_⟩
   rw[List.length_cons,List.nodup_cons]
   exact⟨fun e=>ag,fun e=>absurd hx e.1⟩
  ·have hxA:x∈A:=(h x).2 aK
   have ih:=mM W (A.erase x) (hA.erase x) fun v=>by
    rw[hA.mem_erase_iff,h v,List.mem_cons]
    constructor
    ·rintro⟨a,b|b⟩
     ·exact absurd b a
     ·exact b
    ·intro a
     exact⟨fun e=>hx (e ▸ a), .inr a⟩
   have hl:(A.erase x).length=A.length - 1:=List.length_erase_of_mem hxA
   have hp:0<A.length:=List.length_pos_of_mem hxA
   rw[hl]at ih
   rw[List.length_cons,List.nodup_cons]
   refine⟨ag, ?_⟩
   constructor
   ·intro e;exact⟨hx,ih.2.1 ag⟩
   ·intro e
    have:=ih.2.2 e.2
    omega
def IW(t:Tm):List Int:=((eN t).filter fun x=>x.op==1).map Tm.n
theorem tG(l:List Tm)(v:Int):((l.filter fun x=>x.op==1).map Tm.n).count v=ji 1 v l:=by
 induction l with
 |nil=>rfl
 |cons x l ih=>
  rw[Aw, <- ih]
  by_cases h:x.op=1
  ·have h':(x.op==1)=true:=by simpa using h
   have e:(x::l).filter (fun x=>x.op==1)=x::l.filter (fun x=>x.op==1):=by rw[List.filter_cons,if_pos h']
   rw[e,List.map_cons,List.count_cons]
   by_cases h2:x.n=v
   ·simp[h,h2]
   ·simp[h2]
  ·have h': ¬ (x.op==1)=true:=by simpa using h
   have e:(x::l).filter (fun x=>x.op==1)=l.filter (fun x=>x.op==1):=by rw[List.filter_cons,if_neg h']
   rw[e]
   simp[h]
structure vX (t:Tm):Prop where
 once:(IW t).Nodup
 free:∀v,Cj v t=true↔v∈IW t
theorem qV(t:Tm):(bK t).Nodup:=(jd t).1.imp fun {a b} h=>ag
theorem SF{t:Tm}(h:vX t):(bK t).length=(IW t).length:=
 ((mM (IW t) (bK t) (qV t) fun v=>by rw[(jd t).2 v,h.free v]).2).2 h.once
def Cp(l:List Tm):Bool:=(l.map fun t=>(bK t).length).sum==(bK (.mk 0 0 l)).length
theorem Ax(l:List Tm)(v:Int):Cj v (.mk 0 0 l)=true↔∃t∈l,Cj v t=true:=by
 have key:∀ (l:List Tm) (i:Nat),oX v 0 0 l i=l.any (Cj v):=by
  intro l
  induction l with
  |nil=>intro i;rfl
  |cons k l ih=>intro i;simp[oX,ih]
 have e:Cj v (.mk 0 0 l)=oX v 0 0 l 0:=rfl
 rw[e,key,List.any_eq_true]
theorem DP(l:List Tm)(h:∀t∈l,vX t):Cp l=true↔∀v,ji 1 v (mL l)<=1:=by
 have hW:((mL l).filter fun x=>x.op==1).map Tm.n=l.flatMap IW:=by
  unfold mL
  induction l with
  |nil=>rfl
  |cons t l ih=>
   rw[List.flatMap_cons,List.filter_append,List.map_append,List.flatMap_cons,ih (fun x hx=>h x (by simp[hx]))];rfl
 have hlen:(l.map fun t=>(bK t).length).sum=(l.flatMap IW).length:=by
  clear hW
  induction l with
  |nil=>rfl
  |cons t l ih=>
   rw[List.map_cons,List.sum_cons,List.flatMap_cons,List.length_append,ih (fun x hx=>h x (by simp[hx])),SF (h t (by simp))]
 have hm:∀v,v∈bK (.mk 0 0 l)↔v∈l.flatMap IW:=fun v=>by
  rw[(jd _).2 v,Ax,List.mem_flatMap]
  constructor
  ·rintro⟨t,h1,h2⟩;exact⟨t,h1,((h t h1).free v).1 h2⟩
  ·rintro⟨t,h1,h2⟩;exact⟨t,h1,((h t h1).free v).2 h2⟩
 have hn:=(mM (l.flatMap IW) (bK (.mk 0 0 l)) (qV _) hm).2
 unfold Cp
 rw[hlen,beq_iff_eq,eq_comm,hn,List.nodup_iff_count]
 constructor
 ·intro a v;rw[<- tG,hW];exact a v
 ·intro a v;rw[<- hW,tG];exact a v
def kW(t:Tm):Bool:=t.op==1||t.op==3
mutual
def fM:Tm->Bool
 | .mk op n kids=>rP kids&&kW (.mk op n kids)
def rP:List Tm->Bool
 |[]=>true
 |k::l=>fM k&&rP l
end
theorem vY(t:Tm):fM t=(t.kids.all fM&&kW t):=by
 have:∀l:List Tm,rP l=l.all fM:=fun l=>by
  induction l with
  |nil=>rfl
  |cons k l ih=>simp[rP,ih]
 cases t;simp only[fM,this,Tm.kids]
mutual
def fl:Tm->List Int->List Int×Bool
 | .mk op n kids,b=>if op=1 then(jc b n, !b.contains n)else eW kids b
def eW:List Tm->List Int->List Int×Bool
 |[],b=>(b,true)
 |k::l,b=>if(fl k b).2=true then eW l (fl k b).1 else((fl k b).1,false)
end
theorem o6(t:Tm)(b:List Int):fl t b=if t.op=1 then(jc b t.n, !b.contains t.n)else eW t.kids b:=by cases t;rfl
theorem FB:∀ (t:Tm) (b:List Int),(fl t b).1.length<=b.length+t.sz:=by
 refine Tm.dy fun t ih b=> ?_
 have hs:∀ (l:List Tm) (b:List Int),(∀k∈l,k∈t.kids)->(eW l b).1.length<=b.length+fO l:=by
  intro l
  induction l with
  |nil=>intro b _;simp[eW,fO]
  |cons k l tl=>
   intro b hk
   have h1:=ih k (hk k aK) b
   have h2:=tl (fl k b).1 (fun x hx=>hk x mQ)
   rw[fL]
   simp only[eW]
   split
   ·omega
   ·simp only;omega
 rw[o6,Tm.hZ]
 have h3:=tE b t.n
 have h4:=hs t.kids b (fun _ h=>h)
 split
 ·simp only;omega
 ·omega
end Go.Proofs.YtnkamdiiakdkgaaGreat
