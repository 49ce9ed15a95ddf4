/-
  A PART OF THE PROOF. Conditions: none.
-/
import Derived.Test.YtonbelhklnmjnaaGreatLl16
set_option linter.unusedSimpArgs false
set_option linter.unusedVariables false
namespace Go.Proofs.YtonbelhklnmjnaaGreat
@[reducible] def Oy (m:List (Int×Int)):D:= .mp ((enc (D.int .i64) (ints m)).map (·.1)) ((enc (D.int .i64) (ints m)).map (·.2))
theorem uL(m:List (Int×Int)):(((enc (D.int .i64) (ints m)).map (·.1)).zip ((enc (D.int .i64) (ints m)).map (·.2)))=enc (D.int .i64) (ints m):=RV _ _
def eG(op:Int)(l:List Tm):List (Int×Int):=(l.flatMap ja).foldl (eF op) []
theorem aa7(t:Tm)(ht:t.fits):aQ Tryz.prog 190 [t.d] (.ret [Oy (eG 8 [t])]):=by
 refine aQ.ub (aa6 t ht _ _ dE _ _ fun o' nx' id m _ _ _ _ ho hm=> ?_)
 refine⟨_,by simp only[eI,ho];rfl,fun B w val h=> ?_⟩
 have e:m=eG 8 [t]:=by rw[hm];simp[eG]
 rw[<- e];exact h
theorem uc(l:List Tm)(hl:l.length<=1000000)(hf:∀t∈l,t.fits):aQ Tryz.prog 189 [.sl (l.map Tm.d)] (.ret [Oy (eG 1 l)]):=by
 refine aQ.ub (Eg l hl hf _ _ dE _ _ fun o' nx' id m _ _ _ _ ho hm=> ?_)
 refine⟨_,by simp only[eI,ho];rfl,fun B w val h=> ?_⟩
 have e:m=eG 1 l:=hm
 rw[<- e];exact h
theorem Az(o:Nat->ab)(m:List (Int×Int))(v:Int):jz Tryz.prog o 176 (.d (Oy m)) (.d (.int .i64 v)) false=some (.d (.i (iE m v)),[],[]):=by
 cases h:lk m v with
 |none=>
  have e:iE m v=0:=by unfold iE;rw[h];rfl
  rw[e]
  simp+contextual (disch:=first|omega|simp only[go_sem,false_implies]) only[go_sem,wrap64,if_pos,uL,mT h]
 |some c=>
  have e:iE m v=c:=by unfold iE;rw[h];rfl
  obtain⟨j,hj⟩:=mS h
  rw[e]
  simp+contextual (disch:=first|omega|simp only[go_sem,false_implies]) only[go_sem,wrap64,if_pos,uL,hj]
theorem Gi(l:List Int)(hl:l.length<=1000000)(o:Nat->ab)(fr:Nat):zi Tryz.prog 233 [.d (.sl (l.map .i))] [] o fr (.osl fr 0) [(fr, .arr 0 3 1 (l.map .i))]:=by
 refine zi.F2 (ds:=[.sl (l.map .i)]) ?_
 refine cR.ay mix WC ao ?_
 rw[aaB]
 have hu:Tryz.prog.underlying 41=some (.slice 3):=ag
 cases l with
 |nil=>
  have heq:∀O,sj Tryz.prog O 41 true (.d (.sl [])) .bO=some .fI:=by
   intro O
   unfold sj
   rw[hu]
   rfl
  exact TG
 |cons a l=>
  have heq:∀O,sj Tryz.prog O 41 true (.d (.sl (D.i a::l.map D.i))) .bO=some (.d (.bool false)):=by
   intro O
   unfold sj
   rw[hu]
   rfl
  simp only[List.map_cons,List.map_nil]
  refine cf heq ?_
  simp only[List.isEmpty_nil,if_true]
  refine cf heq ?_
  rw[List.length_cons]at hl
  rw[if_pos (by omega)]
  refine aU ?_
  exact LJ
def ixF:List Int->Int->Int->Int
 |[],_,_=> -1
 |x::l,v,k=>if v=x then k else ixF l v (k+1)
theorem Oz:∀ (l:List Int) (v k:Int),0<=k->(decide (0<=ixF l v k)=l.contains v)
 |[],v,k,_=>rfl
 |x::l,v,k,hk=>by
  have ih:=Oz l v (k+1) af
  unfold ixF
  by_cases h:v=x
  ·rw[if_pos h];subst h;simp[hk]
  ·rw[if_neg h,ih];simp[List.contains_cons,h]
theorem OA(l:List Int)(hl:l.length<=1000000)(v:Int):aQ Tryz.prog 259 [.sl (l.map .i), .i v] (.ret [.i (ixF l v 0)]):=by
 refine aQ.ay mix WU ao ?_
 rw[aaQ]
 refine ik ?_
 refine aH (fun k:Nat=>⟨br [.d (.sl (l.map .i)), .d (.i v), .aa, .aa, .aa, .aa, .aa, .d (.i l.length), .d (.i k)],fun _=> .no,1⟩)
  (fun k=>k<=l.length/\ixF l v 0=ixF (l.drop k) v k) (fun k=>l.length - k) 0 ⟨Nat.zero_le _,rfl⟩ (bM.b9 _ (show 0<=1 from af) af dE (fun _ _=>rfl) ?_) (fun k hk=> ?_)
 ·exact dc
 obtain⟨hk,vl⟩:=hk
 refine aU ?_
 refine aj (fun h2=> ?_) (fun h2=> ?_)
 ·simp at h2
  obtain⟨x,hx⟩:=ai h2
  have hd:l.drop k=x::l.drop (k+1):=by
   exact Mt
  rw[hd]at vl
  simp only[ixF]at vl
  refine cf hx ?_
  refine aj (fun h3=> ?_) (fun h3=> ?_)
  ·have sR:v=x:=by simpa using h3
   rw[if_pos sR]at vl
   refine aU ?_
   rw[vl]
  ·have sR: ¬v=x:=by simpa using h3
   rw[if_neg sR]at vl
   refine aU ?_
   refine au (k+1) ⟨h2,vl⟩ af (bM.b9 _ (show 0<=1 from af) af dE (fun _ _=>rfl) ?_)
   exact dc
 ·exact Ul
theorem Eh(l:List Int)(hl:l.length<=1000000)(v:Int):aQ Tryz.prog 232 [.sl (l.map .i), .i v] (.ret [.bool (l.contains v)]):=by
 refine aQ.ay mix WB ao ?_
 rw[aaA]
 refine aU ?_
 refine ah (OA l hl v) rfl ?_
 refine aU ?_
 rw[Oz l v 0 (by omega)]
mutual
def BK(m:List (Int×Int)):Tm->List Int->Bool
 | .mk op n kids,o7=>if op=1 then(iE m n==0||o7.contains n)else rO m op n kids 0 o7
def rO(m:List (Int×Int))(op n:Int):List Tm->Nat->List Int->Bool
 |[],_,_=>true
 |k::l,i,o7=>BK m k (if op=8/\i=1 then o7++[n]else o7)&&rO m op n l (i+1) o7
end
theorem Ii(m:List (Int×Int))(t:Tm)(o7:List Int):BK m t o7=if t.op=1 then(iE m t.n==0||o7.contains t.n)else rO m t.op t.n t.kids 0 o7:=by cases t;rw[BK];rfl
theorem OB(m:List (Int×Int)):∀t:Tm,t.fits->∀o7:List Int,o7.length+t.fR<=1000000->aQ Tryz.prog 191 [t.d,Oy m, .sl (o7.map .i)] (.ret [.bool (BK m t o7)]):=by
 refine Tm.cc fun t ih hf o7 hb=> ?_
 have fu:=(Tm.aF _).1 hf
 refine aQ.ay mix Wi ao ?_
 rw[aah,Ii]
 by_cases h1:t.op=1
 ·have bL:(t.op==1)=true:=by simpa using h1
  rw[if_pos h1]
  cases hc:(iE m t.n==0)with
  |true=>
   simp+contextual (disch:=first|omega|simp only[go_sem,false_implies]) only[go_sem,wrap64,if_pos,bL,Az,hc]
  |false=>
   simp+contextual (disch:=first|omega|simp only[go_sem,false_implies]) only[go_sem,wrap64,if_pos,bL,Az,hc]
   refine ah (Eh o7 af t.n) rfl ?_
   exact ve hc
 ·have bL:(t.op==1)=false:=by simpa using h1
  rw[if_neg h1]
  refine dW bL ?_
  refine aH (fun k:Nat=>⟨br [.aa, .d (Oy m), .d (.sl (o7.map .i)), .ptr 0 0, .aa, .aa, .aa, .aa, .aa, .aa, .aa, .aa, .aa, .aa, .aa, .aa, .aa, .aa, .aa, .aa, .aa, .aa, .aa, .aa, .aa, .d (.sl (t.kids.map Tm.d)), .d (.i t.kids.length), .d (.i k)],aM (fun _=> .no) 0 (.row [.d (.i t.op), .d (.i t.n), .d (.sl (t.kids.map Tm.d))]),1⟩)
   (fun k=>k<=t.kids.length/\rO m t.op t.n t.kids 0 o7=rO m t.op t.n (t.kids.drop k) k o7) (fun k=>t.kids.length - k) 0 ⟨Nat.zero_le _,rfl⟩ (bM.b9 _ (show 0<=1 from af) af dE (fun _ _=>rfl) ?_) (fun k hk=> ?_)
  ·exact dc
  obtain⟨hk,vl⟩:=hk
  have si:=fu.1
  refine aU ?_
  refine aj (fun h2=> ?_) (fun h2=> ?_)
  ·simp at h2
   obtain⟨x,hx⟩:=ai h2
   have cp:=List.mem_of_getElem? hx
   have hd:t.kids.drop k=x::t.kids.drop (k+1):=by
    exact Mt
   have hh:=Tm.rD cp
   rw[hd]at vl
   simp only[rO]at vl
   refine cf hx ?_
   refine aj (fun h3=> ?_) (fun h3=> ?_)
   ·have sR:t.op=8/\k=1:=by
     simp at h3
     exact⟨h3.1,af⟩
    rw[if_pos sR]at vl
    refine aU ?_
    refine zB rfl (Gi o7 af _ _) ?_
    refine aU ?_
    refine aw bG ?_
    refine aU ?_
    have e:List.map D.i o7++[D.i t.n]=(o7++[t.n]).map D.i:=ao
    rw[e]
    refine ah (ih x cp (fu.2 x cp) (o7++[t.n]) qE) rfl ?_
    refine aU ?_
    cases hs:BK m x (o7++[t.n])with
    |false=>
     rw[hs,Bool.false_and]at vl
     refine cf hs ?_
     rw[vl]
    |true=>
     exact adg
   ·have sR: ¬ (t.op=8/\k=1):=by
     simp at h3
     intro⟨h4,h5⟩
     exact h3 h4 af
    rw[if_neg sR]at vl
    refine aU ?_
    refine ah (ih x cp (fu.2 x cp) o7 af) rfl ?_
    refine aU ?_
    cases hs:BK m x o7 with
    |false=>
     rw[hs,Bool.false_and]at vl
     refine cf hs ?_
     rw[vl]
    |true=>
     exact adg
  ·exact Ul
mutual
def tj(v:Int):Tm->Bool
 | .mk op n kids=>if op=1 then n==v else iF v op n kids 0
def iF(v op n:Int):List Tm->Nat->Bool
 |[],_=>false
 |k::l,i=>(tj v k&& !(op==8&&i==1&&n==v))||iF v op n l (i+1)
end
theorem hZ(v:Int)(t:Tm):tj v t=if t.op=1 then t.n==v else iF v t.op t.n t.kids 0:=by cases t;rfl
@[reducible] def uI (l:List Int):ab:= .map 3 4 (enc (D.int .i64) (iT l))
def ajj(id:Nat)(Q:List Int->Prop)(o:Nat->ab)(nx:Nat)(K:V->(Nat->ab)->Nat->Prop):Prop:=
 ∀o' nx' l',nx<=nx'->Good o' nx'->(∀j,j<nx->j≠id->o' j=o j)->o' id=uI l'->Q l'->K (.cn []) o' nx'
theorem Gj{b nx id it n0:Nat}{Q:gf->S->Prop}{e:Nat->V}{o:Nat->ab}{ks n k:D}(own s:List Int)(hg:Good o nx)(aG:o id=uI s)(hit:o it= .nD (enc (D.int .i64) (iT own)) none)(hb:b<=nx)(hs:s.Nodup)(hn0:n0<nx)
 (he:kS nx e [.mp id, .aa, .aa, .ptr n0 0, .aa, .aa, .aa, .aa, .aa, .aa, .aa, .aa, .aa, .aa, .aa, .d ks, .d n, .d k, .aa, .aa, .aa, .aa, .aa, .aa, .aa, .aa, .aa, .aa, .aa, .aa, .aa, .aa, .aa, .aa, .aa, .aa, .aa, .ptr it 0] 0)
 (hQ:∀e' o' nx' s',e' 0= .mp id->e' 3= .ptr n0 0->e' 15= .d ks->e' 16= .d n->e' 17= .d k->nx<=nx'->Good o' nx'->(∀j,j<nx->j≠id->j≠it->o' j=o j)->o' id=uI s'->s'.Nodup->(∀v,v∈s'↔v∈s\/v∈own)->Q (.exit 2) ⟨e',o',nx'⟩):
 rB b (fun Q s=>ll Tryz.prog 45 b false (.seq (.ad [⟨some 38, .next (.tmp 37) false,none⟩,⟨some 39, .extract (.tmp 38) 0,none⟩]) (.seq (.cond (.tmp 39) .skip (.exit 2)) (.block 3 (.seq (.ad [⟨some 40, .entry (.tmp 37),none⟩,⟨some 41, .extract (.tmp 40) 0,none⟩,⟨some 7, .assign (.tmp 41),none⟩]) (.ad [⟨some 42, .move (.tmp 0),none⟩,⟨some 43, .move (.tmp 7),none⟩,⟨none, .mapUpdate 141 (.tmp 42) (.tmp 43) (.const (.bool true)),none⟩]))))) Q s) Q ⟨e,o,nx⟩:=by
 have h1:id<nx:=hg.lt (by rw[aG];exact ab.noConfusion)
 have h2:it<nx:=hg.lt (by rw[hit];exact ab.noConfusion)
 have h3:id≠it:=fun h=>by rw[h,hit]at aG;cases aG
 have h4:it≠id:=fun h=>h3 h.symm
 refine aH (fun i:List Int×List Int×Option (D×D)=>⟨br [.mp id, .aa, .aa, .ptr n0 0, .aa, .aa, .aa, .aa, .aa, .aa, .aa, .aa, .aa, .aa, .aa, .d ks, .d n, .d k, .aa, .aa, .aa, .aa, .aa, .aa, .aa, .aa, .aa, .aa, .aa, .aa, .aa, .aa, .aa, .aa, .aa, .aa, .aa, .ptr it 0],aM (aM o id (uI i.2.1)) it (.nD (enc (D.int .i64) (iT i.1)) i.2.2),nx⟩)
  (fun i=>i.2.1.Nodup/\∀v,(v∈i.2.1\/v∈i.1)↔(v∈s\/v∈own)) (fun i=>i.1.length) (own,s,none) ⟨hs,fun _=>Iff.rfl⟩ ?_ ?_
 ·dsimp only
  refine bM.b9 _ hb (Nat.le_refl _) ?_ (fun j hj=> ?_) he
  ·exact dE
  ·by_cases e1:j=it
   ·subst e1;rw[ae];exact hit
   ·rw[ak _ _ _ _ e1]
    by_cases e2:j=id
    ·subst e2;rw[ae];exact aG
    ·rw[ak _ _ _ _ e2]
 rintro⟨rest,s',last⟩ ⟨jC,hv⟩
 simp only at jC hv
 refine xB h3 h4 ?_
 refine zZ (fun hr=> ?_) fun i m hm=> ?_
 ·subst hr
  refine aU ?_
  refine hQ _ _ _ s' ?_ ?_ ?_ ?_ ?_ ?_ ?_ (fun j g1 g2 g3=> ?_) ?_ jC (fun v=> ?_)
  ·rfl
  ·rfl
  ·rfl
  ·rfl
  ·rfl
  ·omega
  ·exact dE
  ·exact dn
  ·exact dn
  ·have:=hv v
   simpa using this
 ·refine xB h3 h4 ?_
  obtain⟨r1,r2⟩:=wP hm
  refine au (rest.eraseIdx i,tf s' m,some (.int .i64 m, .bool true)) ⟨wO _ jC,fun v=> ?_⟩ ?_ ?_
  ·dsimp only
   rw[wN, <- hv v,r1 v]
   constructor
   ·rintro((h|h)|h)
    ·exact .inl h
    ·exact .inr (.inl h)
    ·exact .inr (.inr h)
   ·rintro(h|h|h)
    ·exact .inl (.inl h)
    ·exact .inl (.inr h)
    ·exact .inr h
  ·dsimp only;omega
  ·dsimp only
   refine bM.b9 _ hb af ?_ (fun j hj=> ?_) ?_
   ·exact dE
   ·by_cases e1:j=it
    ·subst e1;(repeat(first|rfl|rw[ae]|rw[ak _ _ _ _ (by omega)]))
    ·by_cases e2:j=id
     ·subst e2;(repeat(first|rfl|rw[ae]|rw[ak _ _ _ _ (by omega)]))
     ·exact dn
   ·exact dc
theorem aa8:∀t:Tm,t.fits->∀ (o:Nat->ab) (nx id:Nat) (l:List Int),Good o nx->o id=uI l->l.Nodup->∀K X,ajj id (fun l'=>l'.Nodup/\∀n,n∈l'↔n∈l\/tj n t=true) o nx K->cR Tryz.prog 164 [.mp id, .d t.d] o nx K X:=by
 refine Tm.cc fun t ih hf o nx id l hg ho hl K X hK=> ?_
 have fu:=(Tm.aF _).1 hf
 have aG:id<nx:=hg.lt (by rw[ho];exact ab.noConfusion)
 refine cR.ay mix VT ao ?_
 rw[ZS]
 have y1:id≠nx:=af
 have y2:∀k,id≠nx+k:=fun k=>af
 by_cases h1:t.op=1
 ·refine Qo ho y1 y2 h1 ?_
  refine hK _ _ (tf l t.n) ?_ ?_ (fun j hj il=> ?_) ?_ ⟨wO _ hl,fun n=> ?_⟩
  ·omega
  ·exact dE
  ·exact dn
  ·exact dn
  ·rw[wN,hZ,if_pos h1]
   rw[beq_iff_eq, @eq_comm _ t.n n]
 ·have bL:(t.op==1)=false:=by simpa using h1
  refine Qo ho y1 y2 bL ?_
  refine aH (fun i:Nat×List Int×(Nat->ab)×Nat=>⟨br [.mp id, .aa, .aa, .ptr nx 0, .aa, .aa, .aa, .aa, .aa, .aa, .aa, .aa, .aa, .aa, .aa, .d (.sl (t.kids.map Tm.d)), .d (.i t.kids.length), .d (.i i.1)],i.2.2.1,i.2.2.2⟩)
   (fun i=>i.1<=t.kids.length/\i.2.1.Nodup/\Good i.2.2.1 i.2.2.2/\nx+1<=i.2.2.2/\(∀j,j<nx->j≠id->i.2.2.1 j=o j)/\i.2.2.1 nx= .row t.row/\i.2.2.1 id=uI i.2.1/\∀v,(v∈i.2.1\/iF v t.op t.n (t.kids.drop i.1) i.1=true)↔(v∈l\/tj v t=true)) (fun i=>t.kids.length - i.1) (0,l,aM o nx (.row t.row),nx+8)
   ⟨Nat.zero_le _,hl,by dsimp only;exact dE,by dsimp only;omega,fun j hj il=>by dsimp only;(repeat(first|rfl|rw[ae]|rw[ak _ _ _ _ (by omega)])),by dsimp only;(repeat(first|rfl|rw[ae]|rw[ak _ _ _ _ (by omega)])),by dsimp only;(repeat(first|rfl|rw[ae]|rw[ak _ _ _ _ (by omega)]));exact ho,fun v=>by simp only[List.drop_zero];rw[hZ v t,if_neg h1]⟩ ?_ ?_
  ·dsimp only
   refine bM.b9 _ af af dE (fun _ _=>rfl) ?_
   exact dc
  rintro⟨k,l',o',nx'⟩ ⟨hk,Qd,hg',uS,hold,cz,Bo,hv⟩
  simp only at hk Qd hg' uS hold cz Bo hv
  have z1:id≠nx':=af
  have z2:∀k,id≠nx'+k:=fun k=>af
  have z3:nx≠nx':=af
  have z4:∀k,nx≠nx'+k:=fun k=>af
  refine Xf Bo cz z1 z2 z3 z4 ?_
  refine aj (fun h2=> ?_) (fun h2=> ?_)
  ·simp at h2
   obtain⟨x,hx⟩:=ai h2
   have cp:=List.mem_of_getElem? hx
   simp+contextual (disch:=first|omega|simp only[go_sem,false_implies]) only[go_sem,wrap64,if_pos,Bo,cz,z1,z2,z3,z4,Nat.add_assoc,Nat.left_eq_add,Nat.add_eq_left,Nat.add_left_cancel_iff,hx]
   refine cW (ih x cp (fu.2 x cp) _ _ (nx'+7) [] ?_ ?_ List.nodup_nil _ _ fun o2 n2 own m1 m2 m3 m4 m5=> ?_)
   ·have hg:=hg'
    exact dE
   ·exact dn
   have p0:o2 nx= .row t.row:=by rw[m3 nx (by omega) (by omega)];(repeat(first|rfl|rw[ae]|rw[ak _ _ _ _ (by omega)]));exact cz
   have p1:o2 id=uI l':=by rw[m3 id (by omega) (by omega)];(repeat(first|rfl|rw[ae]|rw[ak _ _ _ _ (by omega)]));exact Bo
   have p2:∀j,j<nx->j≠id->o2 j=o j:=fun j h3 h4=>by rw[m3 j (by omega) (by omega)];(repeat(first|rfl|rw[ae]|rw[ak _ _ _ _ (by omega)]));exact hold j h3 h4
   have w1:nx≠n2:=af
   have w2:∀k,nx≠n2+k:=fun k=>af
   have w3:id≠n2:=af
   have w4:∀k,id≠n2+k:=fun k=>af
   have w5:nx'+7≠n2:=af
   have w6:∀k,nx'+7≠n2+k:=fun k=>af
   obtain⟨yh,d1,d2,d3⟩:∃yh,yh.Nodup/\(∀v,v∈yh↔(tj v x=true/\ ¬ (t.op=8/\k=1/\t.n=v)))/\yh=if t.op=8/\k=1 then Ed own t.n else own:=by
    refine⟨_, ?_,fun v=> ?_,rfl⟩
    ·split
     ·exact(zX _ m5.1).1
     ·exact m5.1
    ·have:=m5.2 v
     simp only[List.not_mem_nil,false_or]at this
     rw[<- this]
     split
     ·rename_i hc
      rw[(zX t.n m5.1).2]
      simp[hc,eq_comm]
     ·rename_i hc
      constructor
      ·exact fun h=>⟨h,fun h2=>hc ⟨h2.1,h2.2.1⟩⟩
      ·exact fun h=>h.1
   have step:∀v (s':List Int),(v∈s'↔v∈l'\/v∈yh)->((v∈s'\/iF v t.op t.n (t.kids.drop (k+1)) (k+1)=true)↔(v∈l\/tj v t=true)):=by
    intro v s' jC
    rw[<- hv v,jC,d2 v]
    have hdr:t.kids.drop k=x::t.kids.drop (k+1):=by
     exact Mu
    rw[hdr,iF]
    simp only[Bool.or_eq_true,Bool.and_eq_true,Bool.not_eq_true',Bool.and_eq_false_iff,beq_eq_false_iff_ne,ne_eq,not_and]
    constructor
    ·rintro((h|⟨h,h6⟩)|h)
     ·exact .inl h
     ·refine .inr (.inl ⟨h, ?_⟩)
      by_cases c1:t.op=8
      ·by_cases c2:k=1
       ·exact .inr (h6 c1 c2)
       ·exact .inl (.inr c2)
      ·exact .inl (.inl c1)
     ·exact .inr (.inr h)
    ·rintro(h|⟨h,h6⟩|h)
     ·exact .inl (.inl h)
     ·refine .inl (.inr ⟨h,fun c1 c2=> ?_⟩)
      rcases h6 with(h6|h6)|h6
      ·exact absurd c1 h6
      ·exact absurd c2 h6
      ·exact h6
     ·exact .inr h
   have hcc:((t.op==8)&&((k:Int)==1))=decide (t.op=8/\k=1):=by
    rw[Bool.eq_iff_iff];simp;omega
   simp+contextual (disch:=first|omega|simp only[go_sem,false_implies]) only[go_sem,wrap64,if_pos,p0,p1,w1,w2,w3,w4,w5,w6,Nat.add_assoc,Nat.left_eq_add,Nat.add_eq_left,Nat.add_left_cancel_iff]
   refine aj (fun h3=> ?_) (fun h3=> ?_)
   ·rw[hcc]at h3
    simp only[decide_eq_true_eq]at h3
    rw[if_pos h3]at d3
    cases hd:own.findIdx? (· ==t.n)with
    |none=>
     have hd2:gC t.n (iT own) 0=none:=by rw[mi,hd];rfl
     obtain rfl:yh=own:=by rw[d3,Ed,hd]
     simp+contextual (disch:=first|omega|simp only[go_sem,false_implies]) only[go_sem,wrap64,if_pos,p0,p1,m4,w1,w2,w3,w4,w5,w6,Nat.add_assoc,Nat.left_eq_add,Nat.add_eq_left,Nat.add_left_cancel_iff,hd2]
     refine Gj (n0:=nx) (id:=id) (it:=n2+12) (ks:= .sl (t.kids.map Tm.d)) (n:= .i t.kids.length) (k:= .i k) yh l' ?_ ?_ ?_ af Qd af ?_ fun e' o4 n4 s' q0 q3 S0 S1 S2 q1 q2 q4 q5 q6 q7=> ?_
     ·have hg:=m2
      exact dE
     ·(repeat(first|rfl|rw[ae]|rw[ak _ _ _ _ (by omega)]))
      exact p1
     ·exact dn
     ·exact dc
     have r0:o4 nx= .row t.row:=by
      exact XR
     refine Lm q0 q3 S0 S1 S2 ?_
     refine au (k+1,s',o4,n4) ⟨by dsimp only;omega,q6,q2,by dsimp only;omega,fun j g1 g2=> ?_,r0,q5,fun v=> ?_⟩ pt ?_
     ·exact XM
     ·dsimp only
      exact step v s' (q7 v)
     ·exact Mm
    |some j=>
     have hd2:gC t.n (iT own) 0=some (j, .bool true):=by rw[mi,hd];simp
     have hd3:(enc (D.int .i64) (iT own)).eraseIdx j=enc (D.int .i64) (iT yh):=by
      rw[d3,Ed,hd,ta];unfold iT;rw[iU]
     simp+contextual (disch:=first|omega|simp only[go_sem,false_implies]) only[go_sem,wrap64,if_pos,p0,p1,m4,w1,w2,w3,w4,w5,w6,Nat.add_assoc,Nat.left_eq_add,Nat.add_eq_left,Nat.add_left_cancel_iff,hd2]
     rw[hd3]
     refine Gj (n0:=nx) (id:=id) (it:=n2+12) (ks:= .sl (t.kids.map Tm.d)) (n:= .i t.kids.length) (k:= .i k) yh l' ?_ ?_ ?_ af Qd af ?_ fun e' o4 n4 s' q0 q3 S0 S1 S2 q1 q2 q4 q5 q6 q7=> ?_
     ·have hg:=m2
      exact dE
     ·(repeat(first|rfl|rw[ae]|rw[ak _ _ _ _ (by omega)]))
      exact p1
     ·exact dn
     ·exact dc
     have r0:o4 nx= .row t.row:=by
      exact XR
     refine Lm q0 q3 S0 S1 S2 ?_
     refine au (k+1,s',o4,n4) ⟨by dsimp only;omega,q6,q2,by dsimp only;omega,fun j g1 g2=> ?_,r0,q5,fun v=> ?_⟩ pt ?_
     ·exact XM
     ·dsimp only
      exact step v s' (q7 v)
     ·exact Mm
   ·rw[hcc]at h3
    simp only[decide_eq_false_iff_not]at h3
    rw[if_neg h3]at d3
    subst d3
    simp+contextual (disch:=first|omega|simp only[go_sem,false_implies]) only[go_sem,wrap64,if_pos,p0,p1,m4,w1,w2,w3,w4,w5,w6,Nat.add_assoc,Nat.left_eq_add,Nat.add_eq_left,Nat.add_left_cancel_iff]
    refine Gj (n0:=nx) (id:=id) (it:=n2+8) (ks:= .sl (t.kids.map Tm.d)) (n:= .i t.kids.length) (k:= .i k) yh l' ?_ ?_ ?_ af Qd af ?_ fun e' o4 n4 s' q0 q3 S0 S1 S2 q1 q2 q4 q5 q6 q7=> ?_
    ·have hg:=m2
     exact dE
    ·(repeat(first|rfl|rw[ae]|rw[ak _ _ _ _ (by omega)]))
     exact p1
    ·exact dn
    ·exact dc
    have r0:o4 nx= .row t.row:=by
     exact XR
    refine Lm q0 q3 S0 S1 S2 ?_
    refine au (k+1,s',o4,n4) ⟨by dsimp only;omega,q6,q2,by dsimp only;omega,fun j g1 g2=> ?_,r0,q5,fun v=> ?_⟩ pt ?_
    ·exact XM
    ·dsimp only
     exact step v s' (q7 v)
    ·exact Mm
  ·simp at h2
   refine aU ?_
   refine hK _ _ l' ?_ ?_ hold Bo ⟨Qd,fun n=> ?_⟩
   ·omega
   ·exact hg'.mono af
   ·have:=hv n
    rw[List.drop_eq_nil_of_le (by omega)]at this
    simpa[iF]using this
def uJ(l:List Int)(x:Tm×Int):Bool:=(x.1.op !=1&&x.1.op !=3)||(x.1.op==1&&l.contains x.1.n)
def ml(s:List Int×Bool)(x:Tm×Int):List Int×Bool:=(if uJ s.1 x=true then s.1 else if x.1.op=1 then tf s.1 x.1.n else s.1, !uJ s.1 x)
def pJ(s:List Int×Bool):Option j9:=if s.2=true then none else some .ret
def yi(t:Tm):Bool:=(aC (zL pJ ml) ([],true) (pre t 1)).2
theorem Ei(s:aV)(hs:s.Fits)(t:Tm)(ht:t.Fin):aQ Tryz.prog 186 [s.d,t.d] (.ret [.bool (dh s [t]&&yi t), .i (m9 (dh s [t]))]):=by
 refine aQ.ay mix Wd ao ?_
 rw[aac]
 refine aU ?_
 refine ah (BC s hs [t] ao (fun x hx=>by simp at hx;subst hx;exact ht)) rfl ?_
 cases h1:dh s [t]with
 |false=>exact IX
 |true=>
  refine iZ ?_
  refine cW (D4 t _ _ _ _ ?_)
  refine iZ ?_
  refine tY (σ:=List Int×Bool) t ht.fits ht.fR [.aa, .aa, .aa, .aa, .ptr 2 0, .ptr 3 0, .ptr 10 0] ?_ bG rfl dE nk (ae _ _ _)
   (fun b=>aM (aM (aM (aM (aM (aM (aM (aM (fun _=> .no) 0 (.row s.row)) 1 (.row t.row)) 2 (.row [.d (.bool false)])) 3 (.row [.d (.i 0)])) 6 (.arr 0 31 3 [t.d])) 10 (.row [.mp 9])) 13 (.row t.row)) 9 (uI b.1)) pJ ml (fun _=>True) ([],true) trivial rfl (fun id aG=> ?_) (fun _ _ _ _ _ _=>trivial) ?_ ?_
  ·exact Lx
  ·exact Qs
  ·intro L hL yu x hx s' h1 h2 o3 n3 hI hn ho K X db
   simp only[nY]
   have hg:=hI.bX
   have q1:o3 10= .row [.mp 9]:=hI.eq 10 af
   have q2:o3 9=uI s'.1:=hI.eq 9 af
   have q3:o3 2= .row [.d (.bool false)]:=hI.eq 2 af
   have q4:o3 3= .row [.d (.i 0)]:=hI.eq 3 af
   refine aU ?_
   refine oz hL (pd:=none) ?_ ?_
   ·(repeat(first|rfl|rw[ae]|rw[ak _ _ _ _ (by omega)]))
    exact ho
   refine xB q1 q2 ?_
   have hv:uJ s'.1 x=((x.1.op !=1&&x.1.op !=3)||(x.1.op==1&&s'.1.contains x.1.n)):=rfl
   rw[<- hv]
   have same:∀ (o':Nat->ab) (n':Nat) (l:List Int),Good o' n'->n3<=n'->(∀id,id<17->o' id=aM o3 9 (uI l) id)->c0 17 (aM (aM (aM (aM (aM (aM (aM (aM (fun _=> .no) 0 (.row s.row)) 1 (.row t.row)) 2 (.row [.d (.bool false)])) 3 (.row [.d (.i 0)])) 6 (.arr 0 31 3 [t.d])) 10 (.row [.mp 9])) 13 (.row t.row)) 9 (uI l)) o' n':=fun o' n' l k1 k2 k3=>⟨k1,by have:=hI.le;omega,fun id aG=>by
    rw[k3 id aG]
    by_cases e:id=9
    ·subst e;rw[ae,ae]
    ·rw[ak _ _ _ _ e,ak _ _ _ _ e,hI.eq id aG,ak _ _ _ _ e]⟩
   cases hb:uJ s'.1 x with
   |true=>
    have hp:ml s' x=(s'.1,false):=by simp[ml,hb]
    rw[hp]at db
    refine xB q3 q4 ?_
    refine db _ _ _ .busy none af (same _ _ _ dE af fun id aG=> ?_) dn (fun id h3 h4=>by(repeat(first|rfl|rw[ae]|rw[ak _ _ _ _ (by omega)])))
    by_cases e9:id=9
    ·exact T6
    ·by_cases e2:id=2
     ·subst e2;(repeat(first|rfl|rw[ae]|rw[ak _ _ _ _ (by omega)]))
      exact q3.symm
     ·by_cases e3:id=3
      ·subst e3;(repeat(first|rfl|rw[ae]|rw[ak _ _ _ _ (by omega)]))
       exact q4.symm
      ·exact dn
   |false=>
    refine xB q1 q2 ?_
    refine aj (fun h3=> ?_) (fun h3=> ?_)
    ·have sR:x.1.op=1:=by simpa using h3
     have hp:ml s' x=(tf s'.1 x.1.n,true):=by simp[ml,hb,sR]
     rw[hp]at db
     refine xB q1 q2 ?_
     refine db _ _ _ .busy none af (same _ _ _ dE af fun id aG=> ?_) dn (fun id h3 h4=>by(repeat(first|rfl|rw[ae]|rw[ak _ _ _ _ (by omega)])))
     by_cases e9:id=9
     ·subst e9;(repeat(first|rfl|rw[ae]|rw[ak _ _ _ _ (by omega)]))
     ·exact dn
    ·have sR: ¬x.1.op=1:=by simpa using h3
     have hp:ml s' x=(s'.1,true):=by simp[ml,hb,sR]
     rw[hp]at db
     refine aU ?_
     refine db _ _ _ .busy none af (same _ _ _ dE af fun id aG=> ?_) dn (fun id h3 h4=>by(repeat(first|rfl|rw[ae]|rw[ak _ _ _ _ (by omega)])))
     by_cases e9:id=9
     ·exact T6
     ·exact dn
  ·intro o' n' hI
   have hJ:=BB pJ ml (pre t 1) ([],true) rfl
   have hpf:yi t=(pJ (aC (zL pJ ml) ([],true) (pre t 1)).1).isNone:=hJ
   have q0:o' 2= .row [.d (.bool false)]:=hI.eq 2 af
   have q1:o' 3= .row [.d (.i 0)]:=hI.eq 3 af
   rw[hpf]
   generalize (aC (zL pJ ml) ([],true) (pre t 1)).1=sf at*
   obtain⟨l,b⟩:=sf
   cases b<;>(simp only[pJ,if_true,if_false,Bool.false_eq_true,qd];simp+contextual (disch:=first|omega|simp only[go_sem,false_implies]) only[go_sem,wrap64,if_pos,q0,q1];simp[m9])
structure Rl where
 fn:Int
 aZ:List Tm
 rhs:Tm
 vars:Int
@[reducible] def Rl.row (r:Rl):List V:=[.d (.i r.fn), .d (.sl (r.aZ.map Tm.d)), .d (.i r.rhs.op), .d (.i r.rhs.n), .d (.sl (r.rhs.kids.map Tm.d)), .d (.i r.vars)]
@[reducible] def Rl.d (r:Rl):D:= .agg [.i r.fn, .sl (r.aZ.map Tm.d), .i r.rhs.op, .i r.rhs.n, .sl (r.rhs.kids.map Tm.d), .i r.vars]
structure Rl.Fin (r:Rl):Prop where
 aZ:r.aZ.length<=1000000
 all:∀t∈r.aZ,t.Fin
 rhs:r.rhs.Fin
theorem Ej(l:List Tm)(hl:l.length<=9223372036854775807)(g:Nat)(aK:List V)(base:Nat)(h:Nat->ab)(p:Tm->Bool)(hc:∀r∈V.aO aK,r<base)
 (hp:∀x∈l,gv Tryz.prog g (.d x.d::aK) base h h (.d (.bool (p x)))):gv Tryz.prog 187 [.d (.sl (l.map Tm.d)), .func (.func g) [] aK] base h h (.d (.bool (l.all p))):=by
 have:=zU l hl g aK base (fun _:Unit=>h) (fun _ x=>((),p x)) hc (fun _=>True) (fun _ _ _ _ _=>trivial) (fun x hx _ _=>hp x hx) () trivial
 exact GQ
def lI(s:aV)(t:Tm):Bool:=dh s [t]&&yi t
theorem R7(s:aV)(hs:s.Fits)(t:Tm)(ht:t.Fin)(base sp:Nat)(h:Nat->ab)(vF:h sp= .row s.row)(hb:sp<base):gv Tryz.prog 185 [.d t.d, .ptr sp 0] base h h (.d (.bool (lI s t))):=by
 intro o nx hI K X hK
 have hle:=hI.le
 have hg:=hI.bX
 have q0:o sp= .row s.row:=by rw[hI.eq sp hb,vF]
 refine cR.ay mix Wc ao ?_
 rw[aab]
 refine cf q0 ?_
 refine ah (Ei s hs t ht) rfl ?_
 cases hr:dh s [t]with
 |false=>
  have e:lI s t=false:=by simp[lI,hr]
  exact adj
 |true=>
  have e:lI s t=yi t:=by simp[lI,hr]
  exact adj
theorem tl{K:V->List (Nat×ab)->Prop}{id:Nat}{l:List (Int×Int)}(h0:l=[]->K (.cn [.d (.bool false)]) [])
 (h1:∀ (i:Nat) n k,l[i]? =some (n,k)->K (.cn [.d (.bool true), .d (.int .i64 n), .d (D.i k)]) [(id, .nD (enc (D.int .i64) (ints (l.eraseIdx i))) (some (.int .i64 n,D.i k)))]):Dz K id (enc (D.int .i64) (ints l)):=by
 refine zM _ (fun h=>h0 ?_) fun i k x h=> ?_
 ·cases l with
  |nil=>rfl
  |cons x l=>simp[ints]at h
 ·unfold ints at h|-
  rw[List.getElem?_map]at h
  cases hl:l[i]? with
  |none=>rw[hl]at h;cases h
  |some n=>
   rw[hl]at h
   simp at h
   obtain⟨rfl,rfl⟩:=h
   have:=h1 i n.1 n.2 hl
   rw[iU]
   exact this
theorem tn{α:Type}{l:List α}{i:Nat}{n:α}(p:α->Bool)(h:l[i]? =some n):l.all p=(p n&&(l.eraseIdx i).all p):=by
 have hp:l.Perm (n::l.eraseIdx i):=by
  obtain⟨hi,e⟩:=List.getElem?_eq_some_iff.1 h
  have vF:l=l.take i++n::l.drop (i+1):=by rw[<- e,List.getElem_cons_drop,List.take_append_drop]
  rw[List.eraseIdx_eq_take_drop_succ]
  conv=>lhs;rw[vF]
  exact List.perm_middle
 rw[Bool.eq_iff_iff,List.all_eq_true,Bool.and_eq_true,List.all_eq_true]
 constructor
 ·intro h1
  exact⟨h1 _ (hp.mem_iff.2 ao),fun x hx=>h1 x (hp.mem_iff.2 lW)⟩
 ·rintro⟨h1,h2⟩ x hx
  rcases List.mem_cons.1 (hp.mem_iff.1 hx)with e|e
  ·rw[e];exact h1
  ·exact h2 x e
theorem tp{α:Type}{l:List α}{i:Nat}{n:α}(h:l[i]? =some n):(l.eraseIdx i).length+1=l.length:=by
 obtain⟨hi,e⟩:=List.getElem?_eq_some_iff.1 h
 rw[List.length_eraseIdx];simp[hi];omega
def ni(s:aV)(r:Rl):Bool:=decide (0<=r.fn)&&(match s.bR[r.fn.toNat]? with|some f=>(r.aZ.length:Int)==f.args|none=>false)&&decide (0<=r.vars)&&decide (r.vars<=20)&&r.aZ.all (lI s)&&dh s [r.rhs]
def fQ(s:aV)(r:Rl):Bool:=ni s r&&(eG 1 r.aZ).all (fun p=>decide (p.2<=1)&&decide (p.1<r.vars))&&(eG 1 [r.rhs]).all (fun p=>decide (p.1<r.vars))&&
 (eG 8 [r.rhs]).all (fun p=>decide (p.2<=1)&&decide (p.1<r.vars)&&decide (iE (eG 1 r.aZ) p.1<=0))&&BK (eG 8 [r.rhs]) r.rhs []
theorem BL{R:List Nat}{o:Nat->ab}{id:Nat}(h:id∈R):FO R o id=o id:=by simp[FO,h]
theorem J9{R:List Nat}{o:Nat->ab}{nx:Nat}(cD:∀id∈R,id<nx)(p8:∀id∈R,∀j∈(o id).refs,j∈R):Good (FO R o) nx:=by
 refine⟨fun id aG=> ?_,fun id r hr=> ?_⟩
 ·have:id∉R:=fun hm=>by have:=cD id hm;omega
  simp[FO,this]
 ·by_cases aG:id∈R
  ·rw[BL aG]at hr;exact cD r (p8 id aG r hr)
  ·have:FO R o id= .no:=by simp[FO,aG]
   rw[this]at hr;cases hr
theorem R8(s:aV)(hs:s.Fits)(l:List Tm)(hl:l.length<=1000000)(hf:∀t∈l,t.Fin){o:Nat->ab}(ho:o 0= .row s.row):
 Hy Tryz.prog 187 [.d (.sl (l.map Tm.d)), .func (.func 185) [] [.ptr 0 0]] [0] o (.ret [.bool (l.all (lI s))]) []:=by
 have cD:∀j∈[0],j<1:=ao
 have p8:∀k∈[0],∀j∈(o k).refs,j∈[0]:=by
  intro k hk j hj
  simp at hk
  subst hk
  rw[ho]at hj;simp[ab.refs,V.aO,V.refs]at hj
 refine Hy.mN cD nk p8 ao ao ?_
 refine Ej l af 185 [.ptr 0 0] 1 (FO [0] o) (lI s) nk (fun x hx=>R7 s hs x (hf x hx) 1 0 _ ((BL ao).trans ho) af) _ _ ⟨J9 cD p8,Nat.le_refl _,fun _ _=>rfl⟩ _ _ fun o2 n2 m1 m2 m3=> ?_
 refine⟨fun k hk=> ?_,[.d (.bool (l.all (lI s)))],[.bool (l.all (lI s))],rfl,rfl,rfl,fun k hk=>by simp[V.bK,V.ids]at hk⟩
 simp at hk
 subst hk
 rw[m2.eq 0 (by omega),BL (by simp)];rfl
set_option maxHeartbeats 1000000 in
theorem R9(s:aV)(hs:s.Fits)(r:Rl)(hr:r.Fin):aQ Tryz.prog 132 [s.d,r.d] (.ret [.bool (fQ s r)]):=by
 have hr1:=hr.aZ
 refine aQ.ay mix VE ao ?_
 rw[ZD]
 have hlf:=hs.lf
 have fin:∀ {b:Bool},ni s r=b->b=false->fQ s r=false:=fun h1 h2=>by unfold fQ;rw[h1,h2];rfl
 by_cases f1:r.fn<0
 ·have OC:decide (r.fn<0)=true:=by simpa using f1
  have e:fQ s r=false:=fin (b:=false) (by unfold ni;rw[decide_eq_false (by omega: ¬0<=r.fn)];rfl) rfl
  simp+contextual (disch:=first|omega|simp only[go_sem,false_implies]) only[go_sem,wrap64,if_pos,Nat.add_assoc,Nat.left_eq_add,Nat.add_eq_left,Nat.add_left_cancel_iff,List.length_map,OC]
  exact Cu
 have OC:decide (r.fn<0)=false:=by simpa using f1
 by_cases f2:(s.bR.length:Int)<=r.fn
 ·have xJ:decide ((s.bR.length:Int)<=r.fn)=true:=by simpa using f2
  have e:fQ s r=false:=fin (b:=false) (by unfold ni;rw[List.getElem?_eq_none (by omega:s.bR.length<=r.fn.toNat)];simp) rfl
  refine Lk OC xJ ?_
  exact Cu
 have xJ:decide ((s.bR.length:Int)<=r.fn)=false:=by simpa using f2
 obtain⟨f,hf⟩:∃f,s.bR[r.fn.toNat]? =some f:=⟨_,List.getElem?_eq_getElem af⟩
 by_cases f3: ¬ (r.aZ.length:Int)=f.args
 ·have BM:((r.aZ.length:Int)!=f.args)=true:=by simpa using f3
  have e:fQ s r=false:=fin (b:=false) (by unfold ni;rw[hf];simp[f3]) rfl
  simp+contextual (disch:=first|omega|simp only[go_sem,false_implies]) only[go_sem,wrap64,if_pos,Nat.add_assoc,Nat.left_eq_add,Nat.add_eq_left,Nat.add_left_cancel_iff,List.length_map,OC,xJ,hf,BM]
  exact Cu
 have BM:((r.aZ.length:Int)!=f.args)=false:=by simpa using f3
 by_cases f4:r.vars<0
 ·have Ka:decide (r.vars<0)=true:=by simpa using f4
  have e:fQ s r=false:=fin (b:=false) (by unfold ni;rw[decide_eq_false (by omega: ¬0<=r.vars)];simp) rfl
  simp+contextual (disch:=first|omega|simp only[go_sem,false_implies]) only[go_sem,wrap64,if_pos,Nat.add_assoc,Nat.left_eq_add,Nat.add_eq_left,Nat.add_left_cancel_iff,List.length_map,OC,xJ,hf,BM,Ka]
  exact Cu
 have Ka:decide (r.vars<0)=false:=by simpa using f4
 by_cases f5:20<r.vars
 ·have W1:decide (20<r.vars)=true:=by simpa using f5
  have e:fQ s r=false:=fin (b:=false) (by unfold ni;rw[decide_eq_false (by omega: ¬r.vars<=20)];simp) rfl
  refine acn OC xJ hf BM Ka W1 ?_
  exact Cu
 have W1:decide (20<r.vars)=false:=by simpa using f5
 have hh:ni s r=(r.aZ.all (lI s)&&dh s [r.rhs]):=by
  unfold ni
  rw[hf]
  have g3:(r.aZ.length:Int)=f.args:=by simpa using f3
  simp[g3,show 0<=r.fn by omega,show 0<=r.vars by omega,show r.vars<=20 by omega]
 refine acn OC xJ hf BM Ka W1 ?_
 refine DH (rd:=[0]) rfl (R8 s hs r.aZ hr1 hr.all ?_) ?_
 ·exact dn
 cases h6:r.aZ.all (lI s)with
 |false=>
  have e:fQ s r=false:=fin hh (by rw[h6];rfl)
  refine aU ?_
  exact Cu
 |true=>
  refine aU ?_
  refine aq (RY s hs r.rhs hr.rhs) rfl ?_
  cases h7:dh s [r.rhs]with
  |false=>
   have e:fQ s r=false:=fin hh (by rw[h6,h7];rfl)
   refine Ci ?_
   exact Cu
  |true=>
   refine Ci ?_
   refine aw (aD rfl) ?_
   refine aU ?_
   have hR:fQ s r=((eG 1 r.aZ).all (fun p=>decide (p.2<=1)&&decide (p.1<r.vars))&&(eG 1 [r.rhs]).all (fun p=>decide (p.1<r.vars))&&
    (eG 8 [r.rhs]).all (fun p=>decide (p.2<=1)&&decide (p.1<r.vars)&&decide (iE (eG 1 r.aZ) p.1<=0))&&BK (eG 8 [r.rhs]) r.rhs []):=by
    unfold fQ;rw[hh,h6,h7];rfl
   refine aN (uc r.aZ hr1 (fun t ht=>(hr.all t ht).fits)) ?_
   refine aU ?_
   refine aN (aa7 r.rhs hr.rhs.fits) ?_
   refine aU ?_
   refine aw (aD rfl) ?_
   simp+contextual (disch:=first|omega|simp only[go_sem,false_implies]) only[go_sem,wrap64,if_pos,uL]
   refine aH (fun i:List (Int×Int)×Option (D×D)=>⟨br [.aa, .aa, .aa, .ptr 1 0, .aa, .aa, .d (Oy (eG 1 r.aZ)), .d (Oy (eG 8 [r.rhs])), .aa, .aa, .aa, .aa, .aa, .aa, .aa, .aa, .aa, .aa, .aa, .aa, .aa, .aa, .aa, .aa, .aa, .aa, .aa, .aa, .aa, .aa, .aa, .aa, .aa, .aa, .aa, .aa, .aa, .aa, .aa, .aa, .aa, .aa, .aa, .aa, .aa, .aa, .aa, .aa, .aa, .aa, .aa, .aa, .aa, .aa, .aa, .aa, .aa, .aa, .aa, .aa, .aa, .aa, .aa, .aa, .aa, .aa, .aa, .aa, .aa, .ptr 62 0],aM (aM (aM (fun _=> .no) 0 (.row [.d (.sl (s.cons.map ki.d)), .d (.sl (s.bR.map ki.d))])) 1 (.row [.d (.i r.fn), .d (.sl (r.aZ.map Tm.d)), .d (.i r.rhs.op), .d (.i r.rhs.n), .d (.sl (r.rhs.kids.map Tm.d)), .d (.i r.vars)])) 62 (.nD (enc (D.int .i64) (ints i.1)) i.2),63⟩)
    (fun i=>(eG 1 r.aZ).all (fun p=>decide (p.2<=1)&&decide (p.1<r.vars))=i.1.all (fun p=>decide (p.2<=1)&&decide (p.1<r.vars))) (fun i=>i.1.length) (eG 1 r.aZ,none) rfl (bM.b9 _ (show 0<=63 from af) af dE (fun j hj=>by(repeat(first|rfl|rw[ae]|rw[ak _ _ _ _ (by omega)]))) ?_) ?_
   ·exact dc
   rintro⟨rest,last⟩ hA
   simp only at hA
   refine aU ?_
   refine tl (fun NW=> ?_) fun i n k hm=> ?_
   ·subst NW
    simp only[List.all_nil]at hA
    refine iZ ?_
    refine aT (uc [r.rhs] ao (fun t ht=>by simp at ht;subst ht;exact hr.rhs.fits)) ?_
    refine acp ?_
    refine aH (fun i:List (Int×Int)×Option (D×D)=>⟨br [.aa, .aa, .aa, .ptr 1 0, .aa, .aa, .d (Oy (eG 1 r.aZ)), .d (Oy (eG 8 [r.rhs])), .aa, .aa, .aa, .aa, .aa, .aa, .aa, .aa, .aa, .aa, .aa, .aa, .aa, .aa, .aa, .aa, .aa, .aa, .aa, .aa, .aa, .aa, .aa, .aa, .aa, .aa, .aa, .aa, .aa, .aa, .aa, .aa, .aa, .aa, .aa, .aa, .aa, .aa, .aa, .aa, .aa, .aa, .aa, .aa, .aa, .aa, .aa, .aa, .aa, .aa, .aa, .aa, .aa, .aa, .aa, .aa, .aa, .aa, .aa, .aa, .aa, .aa, .aa, .aa, .aa, .aa, .aa, .aa, .aa, .aa, .aa, .aa, .aa, .aa, .aa, .aa, .aa, .aa, .aa, .ptr 69 0],aM (aM (aM (aM (aM (fun _=> .no) 0 (.row [.d (.sl (s.cons.map ki.d)), .d (.sl (s.bR.map ki.d))])) 1 (.row [.d (.i r.fn), .d (.sl (r.aZ.map Tm.d)), .d (.i r.rhs.op), .d (.i r.rhs.n), .d (.sl (r.rhs.kids.map Tm.d)), .d (.i r.vars)])) 62 (.nD (enc (D.int .i64) (ints [])) last)) 67 (.sF 0 [r.rhs.d])) 69 (.nD (enc (D.int .i64) (ints i.1)) i.2),70⟩)
     (fun i=>(eG 1 [r.rhs]).all (fun p=>decide (p.1<r.vars))=i.1.all (fun p=>decide (p.1<r.vars))) (fun i=>i.1.length) (eG 1 [r.rhs],none) rfl (bM.b9 _ (show 0<=70 from af) af dE (fun j hj=>by first|(rw[jB];done)|(repeat(first|rfl|rw[ae]|rw[ak _ _ _ _ (by omega)]))|exact mw) ?_) ?_
    ·exact dc
    rintro⟨rest,agT⟩ hB
    simp only at hB
    refine aU ?_
    refine tl (fun NW=> ?_) fun i n k hm=> ?_
    ·subst NW
     simp only[List.all_nil]at hB
     refine acp ?_
     refine aH (fun i:List (Int×Int)×Option (D×D)=>⟨br [.aa, .aa, .aa, .ptr 1 0, .aa, .aa, .d (Oy (eG 1 r.aZ)), .d (Oy (eG 8 [r.rhs])), .aa, .aa, .aa, .aa, .aa, .aa, .aa, .aa, .aa, .aa, .aa, .aa, .aa, .aa, .aa, .aa, .aa, .aa, .aa, .aa, .aa, .aa, .aa, .aa, .aa, .aa, .aa, .aa, .aa, .aa, .aa, .aa, .aa, .aa, .aa, .aa, .aa, .aa, .aa, .aa, .aa, .aa, .aa, .aa, .aa, .aa, .aa, .aa, .aa, .aa, .aa, .aa, .aa, .aa, .aa, .aa, .aa, .aa, .aa, .aa, .aa, .aa, .aa, .aa, .aa, .aa, .aa, .aa, .aa, .aa, .aa, .aa, .aa, .aa, .aa, .aa, .aa, .aa, .aa, .aa, .aa, .aa, .aa, .aa, .aa, .aa, .aa, .aa, .aa, .ptr 73 0],aM (aM (aM (aM (aM (aM (fun _=> .no) 0 (.row [.d (.sl (s.cons.map ki.d)), .d (.sl (s.bR.map ki.d))])) 1 (.row [.d (.i r.fn), .d (.sl (r.aZ.map Tm.d)), .d (.i r.rhs.op), .d (.i r.rhs.n), .d (.sl (r.rhs.kids.map Tm.d)), .d (.i r.vars)])) 62 (.nD (enc (D.int .i64) (ints [])) last)) 67 (.sF 0 [r.rhs.d])) 69 (.nD (enc (D.int .i64) (ints [])) agT)) 73 (.nD (enc (D.int .i64) (ints i.1)) i.2),74⟩)
      (fun i=>(eG 8 [r.rhs]).all (fun p=>decide (p.2<=1)&&decide (p.1<r.vars)&&decide (iE (eG 1 r.aZ) p.1<=0))=i.1.all (fun p=>decide (p.2<=1)&&decide (p.1<r.vars)&&decide (iE (eG 1 r.aZ) p.1<=0))) (fun i=>i.1.length) (eG 8 [r.rhs],none) rfl (bM.b9 _ (show 0<=74 from af) af dE (fun j hj=>by(repeat(first|rfl|rw[ae]|rw[ak _ _ _ _ (by omega)]))) ?_) ?_
     ·exact dc
     rintro⟨rest,ajA⟩ hC
     simp only at hC
     refine aU ?_
     refine tl (fun NW=> ?_) fun i n k hm=> ?_
     ·subst NW
      simp only[List.all_nil]at hC
      refine iZ ?_
      refine ah (OB (eG 8 [r.rhs]) r.rhs hr.rhs.fits [] (by have:=hr.rhs.fR;simp;omega)) rfl ?_
      refine aU ?_
      rw[hR,hA,hB,hC];rfl
     ·have hle:=tp hm
      rw[tn (fun p=>decide (p.2<=1)&&decide (p.1<r.vars)&&decide (iE (eG 1 r.aZ) p.1<=0)) hm]at hC
      simp only at hC
      have bad:(decide (k<=1)&&decide (n<r.vars)&&decide (iE (eG 1 r.aZ) n<=0))=false->fQ s r=false:=fun e2=>by rw[hR,hC,e2];simp
      by_cases g1:1<k
      ·have yj:decide (1<k)=true:=by simpa using g1
       have e:=bad (by rw[decide_eq_false (by omega: ¬k<=1)];rfl)
       refine Ch yj ?_
       rw[e]
      have yj:decide (1<k)=false:=by simpa using g1
      by_cases g2:r.vars<=n
      ·have Lc:decide (r.vars<=n)=true:=by simpa using g2
       have e:=bad (by rw[decide_eq_false (by omega: ¬n<r.vars)];simp)
       refine Xh yj Lc ?_
       rw[e]
      have Lc:decide (r.vars<=n)=false:=by simpa using g2
      by_cases g3:0<iE (eG 1 r.aZ) n
      ·have g3':decide (0<iE (eG 1 r.aZ) n)=true:=by simpa using g3
       have e:=bad (by rw[decide_eq_false (by omega: ¬iE (eG 1 r.aZ) n<=0)];simp)
       refine aco yj Lc g3' ?_
       rw[e]
      have g3':decide (0<iE (eG 1 r.aZ) n)=false:=by simpa using g3
      have e2:(decide (k<=1)&&decide (n<r.vars)&&decide (iE (eG 1 r.aZ) n<=0))=true:=by
       simp;omega
      rw[e2,Bool.true_and]at hC
      refine aco yj Lc g3' ?_
      refine au (rest.eraseIdx i,some (.int .i64 n,D.i k)) hC pt (bM.b9 _ (show 0<=74 from af) af dE (fun j hj=>by first|(rw[jB];done)|(repeat(first|rfl|rw[ae]|rw[ak _ _ _ _ (by omega)]))) ?_)
      exact dc
    ·have hle:=tp hm
     rw[tn (fun p=>decide (p.1<r.vars)) hm]at hB
     simp only at hB
     refine iZ ?_
     refine aj (fun h3=> ?_) (fun h3=> ?_)
     ·have e:fQ s r=false:=by
       have e2:decide (n<r.vars)=false:=by
        simp at h3|-;omega
       rw[hR,hB,e2];simp
      exact adf
     ·have e2:decide (n<r.vars)=true:=by
       simp at h3|-;omega
      rw[e2,Bool.true_and]at hB
      refine aU ?_
      refine au (rest.eraseIdx i,some (.int .i64 n,D.i k)) hB pt (bM.b9 _ (show 0<=70 from af) af dE (fun j hj=>by first|(rw[jB];done)|(repeat(first|rfl|rw[ae]|rw[ak _ _ _ _ (by omega)]))) ?_)
      exact dc
   ·have hle:=tp hm
    rw[tn (fun p=>decide (p.2<=1)&&decide (p.1<r.vars)) hm]at hA
    simp only at hA
    refine iZ ?_
    refine aj (fun h3=> ?_) (fun h3=> ?_)
    ·have e:fQ s r=false:=by
      have e2:(decide (k<=1)&&decide (n<r.vars))=false:=by
       simp at h3|-;omega
      rw[hR,hA,e2];simp
     exact adf
    ·have e2:(decide (k<=1)&&decide (n<r.vars))=true:=by
      simp at h3|-;omega
     rw[e2,Bool.true_and]at hA
     refine aU ?_
     refine au (rest.eraseIdx i,some (.int .i64 n,D.i k)) hA pt (bM.b9 _ (show 0<=63 from af) af dE (fun j hj=>by first|rw[jB]|(repeat(first|rfl|rw[ae]|rw[ak _ _ _ _ (by omega)]))) ?_)
     exact dc
def mm{σ α:Type}(step:σ->α->σ×Bool):σ->List α->Int->Int
 |_,[],_=> -1
 |s,x::l,k=>if(step s x).2=true then mm step (step s x).1 l (k+1)else k
theorem u5{σ α:Type}(step:σ->α->σ×Bool):∀ (l:List α) (s:σ) (k:Int),0<=k->(0<=mm step s l k↔(aC step s l).2=false)
 |[],_,_,_=>by simp[mm,aC]
 |x::l,s,k,hk=>by
  have ih:=u5 step l (step s x).1 (k+1) af
  by_cases h:(step s x).2=true
  ·simp only[mm,aC,h,if_true];exact ih
  ·simp[mm,aC,h,hk]
theorem aa9{σ:Type}(l:List Rl)(hl:l.length<=9223372036854775807)(g:Nat)(aK:List V)(base:Nat)(H:σ->Nat->ab)(step:σ->Rl->σ×Bool)(hc:∀r∈V.aO aK,r<base)(ok:σ->Prop)(bw:∀x∈l,∀s,ok s->(step s x).2=true->ok (step s x).1)
 (h:∀x∈l,∀s,ok s->gv Tryz.prog g (.d x.d::aK) base (H s) (H (step s x).1) (.d (.bool (!(step s x).2)))) (s:σ) (gQ:ok s):
 gv Tryz.prog 229 [.d (.sl (l.map Rl.d)), .func (.func g) [] aK] base (H s) (H (aC step s l).1) (.d (.i (mm step s l 0))):=by
 intro o nx hI K X hK
 have fZ:∀r∈V.aO aK,r<nx:=fun r hr=>Nat.lt_of_lt_of_le (hc r hr) hI.le
 refine cR.ay mix Wy ao ?_
 rw[aax]
 refine b8 ?_
 refine aH (fun i:Nat×σ×(Nat->ab)×Nat=>⟨br [.d (.sl (l.map Rl.d)), .func (.func g) [] aK, .aa, .aa, .aa, .aa, .aa, .d (.i l.length), .d (.i i.1)],i.2.2.1,i.2.2.2⟩)
  (fun i=>i.1<=l.length/\c0 base (H i.2.1) i.2.2.1 i.2.2.2/\nx<=i.2.2.2/\(∀id,base<=id->id<nx->i.2.2.1 id=o id)/\aC step s l=aC step i.2.1 (l.drop i.1)/\ok i.2.1/\mm step s l 0=mm step i.2.1 (l.drop i.1) i.1) (fun i=>l.length - i.1) (0,s,o,nx)
  ⟨Nat.zero_le _,hI,Nat.le_refl _,fun _ _ _=>rfl,rfl,gQ,rfl⟩ ?_ ?_
 ·exact I6
 rintro⟨k,s',o',nx'⟩ ⟨hk,sy,hn,dF,hf,lr,qy⟩
 simp only at hk sy hn dF hf lr qy
 refine b8 ?_
 refine aj (fun h1=> ?_) (fun h1=> ?_)
 ·simp at h1
  obtain⟨x,hx⟩:=ai h1
  have cp:=List.mem_of_getElem? hx
  have hd:l.drop k=x::l.drop (k+1):=by
   exact I5
  rw[hd]at hf qy
  simp only[aC,mm]at hf qy
  refine IV hx ?_
  refine dg (h x cp s' lr _ _ (sy.mono af) _ _ fun o2 n2 m1 m2 m3=> ?_)
  cases hb:(step s' x).2 with
  |true=>
   rw[hb]at hf qy
   simp only[if_true]at hf qy
   refine aU ?_
   have D2:∀r∈V.aO aK,r<n2+1+1:=fun r hr=>by have:=fZ r hr;omega
   exact XH
  |false=>
   exact QE
 ·exact QG
theorem Ek{σ:Type}(l:List Rl)(hl:l.length<=9223372036854775807)(g:Nat)(aK:List V)(base:Nat)(H:σ->Nat->ab)(step:σ->Rl->σ×Bool)(hc:∀r∈V.aO aK,r<base)(ok:σ->Prop)(bw:∀x∈l,∀s,ok s->(step s x).2=true->ok (step s x).1)
 (h:∀x∈l,∀s,ok s->gv Tryz.prog g (.d x.d::aK) base (H s) (H (step s x).1) (.d (.bool (!(step s x).2)))) (s:σ) (gQ:ok s):
 gv Tryz.prog 183 [.d (.sl (l.map Rl.d)), .func (.func g) [] aK] base (H s) (H (aC step s l).1) (.d (.bool (!(aC step s l).2))):=by
 intro o nx hI K X hK
 have fZ:∀r∈V.aO aK,r<nx:=fun r hr=>Nat.lt_of_lt_of_le (hc r hr) hI.le
 refine cR.ay mix Wa ao ?_
 rw[Z9]
 refine iZ ?_
 refine bn (aa9 l hl g aK base H step hc ok bw h s gQ _ _ ?_ _ _ fun o2 n2 m1 m2 m3=> ?_)
 ·exact Cq
 refine iZ ?_
 have e:decide (0<=mm step s l 0)= !(aC step s l).2:=by
  have:=u5 step l s 0 af
  exact G5
 rw[e]
 exact Lz
theorem agU{x:Rl}{g:Nat}{aK:List V}{base c bx:Nat}{h h2 O:Nat->ab}{r:Bool}(hS:gv Tryz.prog g (.d x.d::aK) base h h2 (.d (.bool r)))(hb:base<=bx)(S3:bx<c)(hO:O bx= .row [.func (.func g) [] aK])(hc:∀r∈V.aO aK,r<base):
 gv Tryz.prog 184 [.d x.d, .ptr bx 0] c (ext base h O) (ext base h2 O) (.d (.bool (!r))):=by
 intro o nx hI K X hK
 have hle:=hI.le
 have fZ:∀r∈V.aO aK,r<nx:=fun r hr=>by have:=hc r hr;omega
 have ho:o bx= .row [.func (.func g) [] aK]:=by
  exact LC
 have y1:∀k,bx≠nx+k:=fun k=>af
 have y2:bx≠nx:=af
 refine cR.ay mix Wb ao ?_
 rw[aaa]
 refine Ax ho y1 y2 ?_
 refine dg ((hS.ext (by omega:base<=c) O) _ _ ?_ _ _ fun o2 n2 m1 m2 m3=> ?_)
 ·exact Qx
 refine iZ ?_
 exact Qt
theorem Kc{σ:Type}(l:List Rl)(hl:l.length<=9223372036854775807)(g:Nat)(aK:List V)(base:Nat)(H:σ->Nat->ab)(step:σ->Rl->σ×Bool)(hc:∀r∈V.aO aK,r<base)(ok:σ->Prop)(bw:∀x∈l,∀s,ok s->(step s x).2=true->ok (step s x).1)
 (h:∀x∈l,∀s,ok s->gv Tryz.prog g (.d x.d::aK) base (H s) (H (step s x).1) (.d (.bool (step s x).2))) (s:σ) (gQ:ok s):
 gv Tryz.prog 130 [.d (.sl (l.map Rl.d)), .func (.func g) [] aK] base (H s) (H (aC step s l).1) (.d (.bool (aC step s l).2)):=by
 intro o nx hI K X hK
 have hle:=hI.le
 have fZ:∀r∈V.aO aK,r<nx:=fun r hr=>Nat.lt_of_lt_of_le (hc r hr) hI.le
 refine cR.ay mix VC ao ?_
 rw[ZB]
 refine iZ ?_
 refine bn (Ek l hl 184 [.ptr nx 0] (nx+1) (fun s=>ext base (H s) (aM o nx (.row [.func (.func g) [] aK]))) step nk ok bw (fun x hx s hs=>agU (h x hx s hs) hle af (ae _ _ _) hc) s gQ _ _ ?_ _ _ fun o2 n2 m1 m2 m3=> ?_)
 ·have hr:(ab.row [V.func (.func g) [] aK]).refs.all (fun r=>decide (r<nx+4))=true:=by
   rw[List.all_eq_true]
   intro r hr
   have h1:r∈V.aO aK:=by simpa[ab.refs,V.aO,V.refs]using hr
   have:=fZ r h1
   simp;omega
  exact LB
 refine iZ ?_
 refine hK _ _ af ⟨(m2.mono af).bX,by have:=m2.le;omega,fun id aG=> ?_⟩ fun id i1 i2=> ?_
 ·exact AB
 ·exact Lw
theorem BN(l:List Rl)(hl:l.length<=9223372036854775807)(g:Nat)(aK:List V)(base:Nat)(h:Nat->ab)(p:Rl->Bool)(hc:∀r∈V.aO aK,r<base)
 (hp:∀x∈l,gv Tryz.prog g (.d x.d::aK) base h h (.d (.bool (p x)))):gv Tryz.prog 130 [.d (.sl (l.map Rl.d)), .func (.func g) [] aK] base h h (.d (.bool (l.all p))):=by
 have:=Kc l hl g aK base (fun _:Unit=>h) (fun _ x=>((),p x)) hc (fun _=>True) (fun _ _ _ _ _=>trivial) (fun x hx _ _=>hp x hx) () trivial
 exact GQ
structure Pg where
 sig:aV
 rules:List Rl
@[reducible] def Pg.row (p:Pg):List V:=[.d (.sl (p.sig.cons.map ki.d)), .d (.sl (p.sig.bR.map ki.d)), .d (.sl (p.rules.map Rl.d))]
@[reducible] def Pg.d (p:Pg):D:= .agg [.sl (p.sig.cons.map ki.d), .sl (p.sig.bR.map ki.d), .sl (p.rules.map Rl.d)]
structure Pg.Fin (p:Pg):Prop where
 sig:p.sig.Fits
 len:p.rules.length<=9223372036854775807
 all:∀r∈p.rules,r.Fin
def rP(p:Pg):Bool:=decide (p.rules.length<=16)&&(kU p.sig&&p.rules.all (fQ p.sig))
theorem Kd(p:Pg)(hp:p.Fin)(r:Rl)(hr:r∈p.rules)(base sp:Nat)(h:Nat->ab)(vF:h sp= .row p.row)(hb:sp<base):gv Tryz.prog 131 [.d r.d, .ptr sp 0] base h h (.d (.bool (fQ p.sig r))):=by
 intro o nx hI K X hK
 have hle:=hI.le
 have hg:=hI.bX
 have q0:o sp= .row p.row:=by rw[hI.eq sp hb,vF]
 refine cR.ay mix VD ao ?_
 rw[ZC]
 refine cf q0 ?_
 refine ah (R9 p.sig hp.sig r (hp.all r hr)) rfl ?_
 exact adl
theorem OD(p:Pg)(hp:p.Fin):aQ Tryz.prog 95 [p.d] (.ret [.bool (rP p)]):=by
 have hl:=hp.len
 refine aQ.ay mix aeM ao ?_
 rw[c95]
 unfold rP
 by_cases h0: ¬p.rules.length<=16
 ·have Cb:decide ((p.rules.length:Int)<=16)=false:=by simp;omega
  have Gk:decide (p.rules.length<=16)=false:=by simp;omega
  refine dW Cb ?_
  rw[Gk];rfl
 have Cb:decide ((p.rules.length:Int)<=16)=true:=by simp;omega
 have Gk:decide (p.rules.length<=16)=true:=by simp;omega
 rw[Gk,Bool.true_and]
 refine dW Cb ?_
 refine ah (wF p.sig hp.sig) rfl ?_
 cases h1:kU p.sig with
 |false=>
  refine Ci ?_
  try simp
 |true=>
  refine Ci ?_
  refine bn (BN p.rules hl 131 [.ptr 0 0] 1 (aM (fun _=> .no) 0 (.row p.row)) (fQ p.sig) nk (fun x hx=>Kd p hp x hx 1 0 _ (ae _ _ _) af) _ _ ⟨dE,af,fun id aG=>rfl⟩ _ _ fun o2 n2 m1 m2 m3=> ?_)
  refine aU ?_
  try simp
theorem OE(p:Pg)(hp:p.Fin):aQ Tryz.prog 54 [p.d] (.ret [.i (m9 (rP p))]):=by
 refine aQ.ay mix aey ao ?_
 rw[c54]
 refine aU ?_
 refine ah (OD p hp) rfl ?_
 cases h1:rP p with
 |false=>exact IX
 |true=>exact IX
inductive Pf where
 |mk (az:Int) (val:Tm) (num:Int) (binds:List Tm) (kids:List Pf)
 deriving Inhabited
def Pf.az:Pf->Int| .mk r _ _ _ _=>r
def Pf.val:Pf->Tm| .mk _ v _ _ _=>v
def Pf.num:Pf->Int| .mk _ _ n _ _=>n
def Pf.binds:Pf->List Tm| .mk _ _ _ b _=>b
def Pf.kids:Pf->List Pf| .mk _ _ _ _ k=>k
theorem Pf.ind {P:Pf->Prop}(h:∀r v n b kids,(∀k∈kids,P k)->P (.mk r v n b kids)):∀t,P t:=
 fun t=>Pf.rec (motive_1:=P) (motive_2:=fun l=>∀k∈l,P k) (fun r v n b kids ih=>h r v n b kids ih) (fun _ h=>by cases h)
  (fun x l hx hl k hk=>(List.mem_cons.1 hk).elim (fun e=>e ▸ hx) (hl k)) t
theorem Pf.cc {P:Pf->Prop}(h:∀t:Pf,(∀k∈t.kids,P k)->P t):∀t,P t:=Pf.ind fun r v n b kids ih=>h (.mk r v n b kids) ih
mutual
def Pf.d:Pf->D
 | .mk r v n b kids=> .agg [.i r, .i v.op, .i v.n, .sl (v.kids.map Tm.d), .i n, .sl (b.map Tm.d), .sl (Pf.ds kids)]
def Pf.ds:List Pf->List D
 |[]=>[]
 |t::l=>t.d::Pf.ds l
end
theorem Pf.s7:∀l:List Pf,Pf.ds l=l.map Pf.d
 |[]=>rfl
 |t::l=>by simp[Pf.ds,Pf.s7 l]
theorem Pf.F0 (t:Pf):t.d= .agg [.i t.az, .i t.val.op, .i t.val.n, .sl (t.val.kids.map Tm.d), .i t.num, .sl (t.binds.map Tm.d), .sl (t.kids.map Pf.d)]:=by
 cases t;simp[Pf.d,Pf.s7,Pf.az,Pf.val,Pf.num,Pf.binds,Pf.kids]
@[go_sem] theorem Pf.YU (t:Pf):D.agg [.i t.az, .i t.val.op, .i t.val.n, .sl (t.val.kids.map Tm.d), .i t.num, .sl (t.binds.map Tm.d), .sl (t.kids.map Pf.d)]=t.d:=(Pf.F0 t).symm
@[go_sem] theorem Pf.Rs (t:Pf):D.cells t.d=[.i t.az, .i t.val.op, .i t.val.n, .sl (t.val.kids.map Tm.d), .i t.num, .sl (t.binds.map Tm.d), .sl (t.kids.map Pf.d)]:=by rw[Pf.F0];rfl
@[reducible] def Pf.row (t:Pf):List V:=[.d (.i t.az), .d (.i t.val.op), .d (.i t.val.n), .d (.sl (t.val.kids.map Tm.d)), .d (.i t.num), .d (.sl (t.binds.map Tm.d)), .d (.sl (t.kids.map Pf.d))]
mutual
def Pf.fits:Pf->Prop
 | .mk _ v _ b kids=>v.fits/\b.length<=9223372036854775807/\(∀t∈b,t.fits)/\kids.length<=9223372036854775807/\Pf.j7 kids
def Pf.j7:List Pf->Prop
 |[]=>True
 |t::l=>t.fits/\Pf.j7 l
end
theorem Pf.mf:∀l:List Pf,Pf.j7 l↔∀k∈l,k.fits
 |[]=>by simp[Pf.j7]
 |t::l=>by simp[Pf.j7,Pf.mf l]
theorem Pf.aF (t:Pf):t.fits↔t.val.fits/\t.binds.length<=9223372036854775807/\(∀x∈t.binds,x.fits)/\t.kids.length<=9223372036854775807/\∀k∈t.kids,k.fits:=by
 cases t;simp[Pf.fits,Pf.mf,Pf.kids,Pf.val,Pf.binds]
mutual
def dx:Pf->Int->List (Pf×Int)
 | .mk r v n b kids,d=>(.mk r v n b kids,d)::Ij kids (d+1)
def Ij:List Pf->Int->List (Pf×Int)
 |[],_=>[]
 |k::l,d=>dx k d++Ij l d
end
theorem Gl(l:List Pf)(d:Int):Ij l d=l.flatMap fun k=>dx k d:=by
 induction l with
 |nil=>rfl
 |cons k l ih=>simp[Ij,ih]
theorem o8(t:Pf)(d:Int):dx t d=(t,d)::t.kids.flatMap fun k=>dx k (d+1):=by cases t;simp[dx,Gl,Pf.kids]
theorem aba{σ:Type}(l:List Pf)(hl:l.length<=9223372036854775807)(g:Nat)(aK:List V)(base:Nat)(H:σ->Nat->ab)(step:σ->Pf->σ×Bool)(hc:∀r∈V.aO aK,r<base)(ok:List Pf->σ->Prop)(bw:∀x∈l,∀r s,ok (x::r) s->(step s x).2=true->ok r (step s x).1)
 (h:∀x∈l,∀r s,ok (x::r) s->gv Tryz.prog g (.d x.d::aK) base (H s) (H (step s x).1) (.d (.bool (!(step s x).2)))) (s:σ) (gQ:ok l s):
 gv Tryz.prog 192 [.d (.sl (l.map Pf.d)), .func (.func g) [] aK] base (H s) (H (aC step s l).1) (.d (.i (mm step s l 0))):=by
 intro o nx hI K X hK
 have fZ:∀r∈V.aO aK,r<nx:=fun r hr=>Nat.lt_of_lt_of_le (hc r hr) hI.le
 refine cR.ay mix Wj ao ?_
 rw[aai]
 refine b8 ?_
 refine aH (fun i:Nat×σ×(Nat->ab)×Nat=>⟨br [.d (.sl (l.map Pf.d)), .func (.func g) [] aK, .aa, .aa, .aa, .aa, .aa, .d (.i l.length), .d (.i i.1)],i.2.2.1,i.2.2.2⟩)
  (fun i=>i.1<=l.length/\c0 base (H i.2.1) i.2.2.1 i.2.2.2/\nx<=i.2.2.2/\(∀id,base<=id->id<nx->i.2.2.1 id=o id)/\aC step s l=aC step i.2.1 (l.drop i.1)/\ok (l.drop i.1) i.2.1/\mm step s l 0=mm step i.2.1 (l.drop i.1) i.1) (fun i=>l.length - i.1) (0,s,o,nx)
  ⟨Nat.zero_le _,hI,Nat.le_refl _,fun _ _ _=>rfl,rfl,gQ,rfl⟩ ?_ ?_
 ·exact I6
 rintro⟨k,s',o',nx'⟩ ⟨hk,sy,hn,dF,hf,lr,qy⟩
 simp only at hk sy hn dF hf lr qy
 refine b8 ?_
 refine aj (fun h1=> ?_) (fun h1=> ?_)
 ·simp at h1
  obtain⟨x,hx⟩:=ai h1
  have cp:=List.mem_of_getElem? hx
  have hd:l.drop k=x::l.drop (k+1):=by
   exact I5
  rw[hd]at hf qy lr
  simp only[aC,mm]at hf qy
  refine IV hx ?_
  refine dg (h x cp _ s' lr _ _ (sy.mono af) _ _ fun o2 n2 m1 m2 m3=> ?_)
  cases hb:(step s' x).2 with
  |true=>
   rw[hb]at hf qy
   simp only[if_true]at hf qy
   refine aU ?_
   have D2:∀r∈V.aO aK,r<n2+1+1:=fun r hr=>by have:=fZ r hr;omega
   refine au (k+1,(step s' x).1,o2,n2+1+1) ⟨h1,m2.mono (show n2<=n2+1+1 from af),(show nx<=n2+1+1 from af),fun id i1 i2=>(m3 id i1 af).trans (dF id i1 i2),hf,bw x cp _ s' lr hb,by rw[qy];rfl⟩ pt (bM.b9 _ (show nx<=n2+1+1 from af) (Nat.le_refl _) (m2.mono (show n2<=n2+1+1 from af)).bX (fun _ _=>rfl) ?_)
   exact dc
  |false=>
   exact QE
 ·exact QG
theorem El{σ:Type}(l:List Pf)(hl:l.length<=9223372036854775807)(g:Nat)(aK:List V)(base:Nat)(H:σ->Nat->ab)(step:σ->Pf->σ×Bool)(hc:∀r∈V.aO aK,r<base)(ok:List Pf->σ->Prop)(bw:∀x∈l,∀r s,ok (x::r) s->(step s x).2=true->ok r (step s x).1)
 (h:∀x∈l,∀r s,ok (x::r) s->gv Tryz.prog g (.d x.d::aK) base (H s) (H (step s x).1) (.d (.bool (!(step s x).2)))) (s:σ) (gQ:ok l s):
 gv Tryz.prog 133 [.d (.sl (l.map Pf.d)), .func (.func g) [] aK] base (H s) (H (aC step s l).1) (.d (.bool (!(aC step s l).2))):=by
 intro o nx hI K X hK
 have fZ:∀r∈V.aO aK,r<nx:=fun r hr=>Nat.lt_of_lt_of_le (hc r hr) hI.le
 refine cR.ay mix VF ao ?_
 rw[ZE]
 refine iZ ?_
 refine bn (aba l hl g aK base H step hc ok bw h s gQ _ _ ?_ _ _ fun o2 n2 m1 m2 m3=> ?_)
 ·exact Cq
 refine iZ ?_
 have e:decide (0<=mm step s l 0)= !(aC step s l).2:=by
  have:=u5 step l s 0 af
  exact G5
 rw[e]
 exact Lz
theorem agV{x:Pf}{g:Nat}{aK:List V}{base c bx:Nat}{h h2 O:Nat->ab}{r:Bool}(hS:gv Tryz.prog g (.d x.d::aK) base h h2 (.d (.bool r)))(hb:base<=bx)(S3:bx<c)(hO:O bx= .row [.func (.func g) [] aK])(hc:∀r∈V.aO aK,r<base):
 gv Tryz.prog 134 [.d x.d, .ptr bx 0] c (ext base h O) (ext base h2 O) (.d (.bool (!r))):=by
 intro o nx hI K X hK
 have hle:=hI.le
 have fZ:∀r∈V.aO aK,r<nx:=fun r hr=>by have:=hc r hr;omega
 have ho:o bx= .row [.func (.func g) [] aK]:=by
  exact LC
 have y1:∀k,bx≠nx+k:=fun k=>af
 have y2:bx≠nx:=af
 refine cR.ay mix VG ao ?_
 rw[ZF]
 refine Ax ho y1 y2 ?_
 refine dg ((hS.ext (by omega:base<=c) O) _ _ ?_ _ _ fun o2 n2 m1 m2 m3=> ?_)
 ·exact Qx
 refine iZ ?_
 exact Qt
theorem Ke{σ:Type}(l:List Pf)(hl:l.length<=9223372036854775807)(g:Nat)(aK:List V)(base:Nat)(H:σ->Nat->ab)(step:σ->Pf->σ×Bool)(hc:∀r∈V.aO aK,r<base)(ok:List Pf->σ->Prop)(bw:∀x∈l,∀r s,ok (x::r) s->(step s x).2=true->ok r (step s x).1)
 (h:∀x∈l,∀r s,ok (x::r) s->gv Tryz.prog g (.d x.d::aK) base (H s) (H (step s x).1) (.d (.bool (step s x).2))) (s:σ) (gQ:ok l s):
 gv Tryz.prog 98 [.d (.sl (l.map Pf.d)), .func (.func g) [] aK] base (H s) (H (aC step s l).1) (.d (.bool (aC step s l).2)):=by
 intro o nx hI K X hK
 have hle:=hI.le
 have fZ:∀r∈V.aO aK,r<nx:=fun r hr=>Nat.lt_of_lt_of_le (hc r hr) hI.le
 refine cR.ay mix aeP ao ?_
 rw[c98]
 refine iZ ?_
 refine bn (El l hl 134 [.ptr nx 0] (nx+1) (fun s=>ext base (H s) (aM o nx (.row [.func (.func g) [] aK]))) step nk ok bw (fun x hx r s hs=>agV (h x hx r s hs) hle af (ae _ _ _) hc) s gQ _ _ ?_ _ _ fun o2 n2 m1 m2 m3=> ?_)
 ·have hr:(ab.row [V.func (.func g) [] aK]).refs.all (fun r=>decide (r<nx+4))=true:=by
   rw[List.all_eq_true]
   intro r hr
   have h1:r∈V.aO aK:=by simpa[ab.refs,V.aO,V.refs]using hr
   have:=fZ r h1
   simp;omega
  exact LB
 refine iZ ?_
 refine hK _ _ af ⟨(m2.mono af).bX,by have:=m2.le;omega,fun id aG=> ?_⟩ fun id i1 i2=> ?_
 ·exact AB
 ·exact Lw
section
mutual
def Pf.fR:Pf->Nat
 | .mk _ _ _ _ kids=>1+Pf.dN kids
def Pf.dN:List Pf->Nat
 |[]=>0
 |k::l=>Nat.max k.fR (Pf.dN l)
end
theorem Pf.mg:∀ {l:List Pf} {k:Pf},k∈l->k.fR<=Pf.dN l
 |x::l,k,h=>by
  simp only[Pf.dN]
  rcases List.mem_cons.1 h with rfl|h
  ·exact Nat.le_max_left _ _
  ·exact Nat.le_trans (Pf.mg h) (Nat.le_max_right _ _)
theorem Pf.rD {t k:Pf}(h:k∈t.kids):k.fR+1<=t.fR:=by
 cases t;simp only[Pf.kids]at h;simp only[Pf.fR];have:=Pf.mg h;omega
section
variable {σ:Type}(base oY:Nat)(H:σ->Nat->ab)(step:σ->Pf×Int->σ×Bool)(ok:List (Pf×Int)->σ->Prop)
include step ok in
theorem z6:∀ (L r:List (Pf×Int)) (bw:∀x∈L,∀r s,ok (x::r) s->(step s x).2=true->ok r (step s x).1) (s:σ),ok (L++r) s->(aC step s L).2=true->ok r (aC step s L).1
 |[],r,_,s,h,_=>by simpa[aC]using h
 |x::L,r,bw,s,h,hb=>by
  rw[aC]at hb|-
  by_cases hx:(step s x).2=true
  ·rw[if_pos hx]at hb|-
   exact z6 L r (fun y hy=>bw y (List.mem_cons_of_mem _ hy)) _ (bw x (List.mem_cons_self ..) _ s h hx) hb
  ·rw[if_neg hx]at hb
   exact absurd hb ao
theorem OG:∀t:Pf,t.fits->∀d:Int,0<=d->d+t.fR<=1000000->(∀x∈dx t d,∀r s,ok (x::r) s->(step s x).2=true->ok r (step s x).1)->(∀x∈dx t d,∀r s,ok (x::r) s->RoC Tryz.prog oY [.d x.1.d, .d (.i x.2)] base (H s) (H (step s x).1) (.d (.bool (step s x).2)))->oY<base->
 ∀ (c:Nat) (o0:Nat->ab) (yb vb:Nat),base<=c->base<=yb->yb<c->base<=vb->vb<c->o0 yb= .row [.kq oY]->o0 vb= .row [.func (.func 97) [] [.ptr yb 0, .ptr vb 0]]->
 ∀r s,ok (dx t d++r) s->gv Tryz.prog 97 [.d t.d, .d (.i d), .ptr yb 0, .ptr vb 0] c (ext base (H s) o0) (ext base (H (aC step s (dx t d)).1) o0) (.d (.bool (aC step s (dx t d)).2)):=by
 refine Pf.cc fun t ih hf d hd0 hd bw hR wC c o0 yb vb S3 WX hy Qj hv oy ov r s gQ=> ?_
 have fu:=((Pf.aF _).1 hf).2.2.2
 intro o nx hI K X hK
 have hle:=hI.le
 have WY:o yb= .row [.kq oY]:=by rw[hI.eq yb hy];unfold ext;rw[if_neg (by omega),oy]
 have WZ:o vb= .row [.func (.func 97) [] [.ptr yb 0, .ptr vb 0]]:=by rw[hI.eq vb hv];unfold ext;rw[if_neg (by omega),ov]
 have y1:yb≠nx:=af
 have y2:∀k,yb≠nx+k:=fun k=>af
 have y3:vb≠nx:=af
 have y4:∀k,vb≠nx+k:=fun k=>af
 refine cR.ay mix aeO ao ?_
 rw[c97]
 simp+contextual only[go_sem,WY,WZ,y1,y2,y3,y4,Nat.add_assoc,Nat.left_eq_add,Nat.add_eq_left,Nat.add_left_cancel_iff]
 have um:=o8 t d
 have mz:∀k∈t.kids,∀x∈dx k (d+1),x∈dx t d:=fun k hk x hx=>by
  exact Xs
 have hb:∀id,id<base->o id=H s id:=fun id aG=>by rw[hI.eq id (by omega)];unfold ext;rw[if_pos aG]
 have hIb:c0 base (H s) o nx:=⟨hI.bX,af,hb⟩
 refine ox (hR (t,d) yE _ s (by rw[um,List.cons_append]at gQ;exact gQ) _ _ ((hIb.aM (i:=nx) (m:=nx+6) af af af rfl).aM (i:=nx+1) af af af rfl) _ _ fun o2 n2 m1 m2 m3=> ?_)
 have k0:o2 nx= .row t.row:=by rw[m3 nx (by omega) (by omega),ak _ _ _ _ (by omega),ae]
 have k1:o2 (nx+1)= .row [.d (.i d)]:=by rw[m3 (nx+1) (by omega) (by omega),ae]
 have hold:∀id,base<=id->id<nx->o2 id=o id:=fun id h1 h2=>by rw[m3 id h1 (by omega),ak _ _ _ _ (by omega),ak _ _ _ _ (by omega)]
 have I0:∀id,base<=id->id<c->o id=o0 id:=fun id h1 h2=>by rw[hI.eq id h2];unfold ext;rw[if_neg (by omega)]
 cases D3:(step s (t,d)).2 with
 |false=>
  refine iC D3 ?_
  have Ce:aC step s (dx t d)=((step s (t,d)).1,false):=by rw[um,aC,if_neg (by rw[D3];exact Bool.false_ne_true)]
  rw[Ce]at hK
  refine hK _ _ af ⟨m2.bX.mono af,af,fun id aG=> ?_⟩ (fun id h1 h2=>hold id af h2)
  unfold ext
  split
  ·exact m2.eq id (by assumption)
  ·exact IZ
 |true=>
  have Ce:aC step s (dx t d)=aC (fun s k=>aC step s (dx k (d+1))) (step s (t,d)).1 t.kids:=by rw[um,aC,if_pos D3,qk]
  simp+contextual only[go_sem,D3,k0,k1]
  have q0:o2 yb= .row [.kq oY]:=by rw[hold yb WX (by omega),WY]
  have q1:o2 vb= .row [.func (.func 97) [] [.ptr yb 0, .ptr vb 0]]:=by rw[hold vb Qj (by omega),WZ]
  have m0:=m2.le
  refine bn (Ke t.kids fu.1 99 [.ptr vb 0, .ptr (nx+1) 0] n2 (fun s=>ext base (H s) o2) (fun s k=>aC step s (dx k (d+1))) ?_ (fun ks s=>ok (ks.flatMap (fun k=>dx k (d+1))++r) s) ?_ ?_ (step s (t,d)).1 (bw (t,d) yE _ s (by rw[um,List.cons_append]at gQ;exact gQ) D3) _ _ ?_ _ _ ?_)
  ·exact GV
  ·exact fun k hk r' s' h1 h2=>z6 step ok _ _ (fun x hx=>bw x (mz k hk x hx)) s' (by rw[<- List.append_assoc];exact h1) h2
  ·intro k hk r' s' jC o3 n3 RR K3 X3 hK3
   have l3:=RR.le
   have r0:o3 vb= .row [.func (.func 97) [] [.ptr yb 0, .ptr vb 0]]:=by rw[RR.eq vb (by omega)];unfold ext;rw[if_neg (by omega),q1]
   have r1:o3 (nx+1)= .row [.d (.i d)]:=by rw[RR.eq (nx+1) (by omega)];unfold ext;rw[if_neg (by omega),k1]
   have y5:vb≠n3:=af
   have y6:∀k,vb≠n3+k:=fun k=>af
   have y7:nx+1≠n3:=af
   have y8:∀k,nx+1≠n3+k:=fun k=>af
   have hh:=Pf.rD hk
   refine cR.ay mix aeQ ao ?_
   rw[c99]
   simp+contextual only[go_sem,r0,r1,y5,y6,y7,y8]
   rw[wrap64 (n:=d+1) (by omega) (by omega)]
   refine bn (ih k hk (fu.2 k hk) (d+1) af af (fun x hx=>bw x (mz k hk x hx)) (fun x hx=>hR x (mz k hk x hx)) wC n2 o2 yb vb af WX af Qj af q0 q1 (r'.flatMap (fun k=>dx k (d+1))++r) s' (by rw[<- List.append_assoc];exact jC) _ _ (RR.aM (i:=n3) (m:=n3+6) af af af rfl) _ _ fun o4 n4 p1 p2 p3=> ?_)
   exact TL
  ·exact LI
  ·intro o5 n5 p1 p2 p3
   refine b8 ?_
   rw[<- Ce]
   refine hK _ _ af ⟨p2.bX.mono af,af,fun id aG=> ?_⟩ (fun id h1 h2=> ?_)
   ·rw[p2.eq id (by omega), <- Ce]
    unfold ext
    split
    ·rfl
    ·exact IZ
   ·exact Mz
theorem Kg(t:Pf)(hf:t.fits)(hd:t.fR<=900000)(bw:∀x∈dx t 1,∀r s,ok (x::r) s->(step s x).2=true->ok r (step s x).1)(hR:∀x∈dx t 1,∀r s,ok (x::r) s->RoC Tryz.prog oY [.d x.1.d, .d (.i x.2)] base (H s) (H (step s x).1) (.d (.bool (step s x).2)))(wC:oY<base)(tb:Nat)(I4:tb<base)(s:σ)(gQ:ok (dx t 1) s)(cz:H s tb= .row t.row):
 gv Tryz.prog 96 [.kq oY, .ptr tb 0] base (H s) (H (aC step s (dx t 1)).1) (.cn []):=by
 intro o nx hI K X hK
 have hle:=hI.le
 have ot:o tb= .row t.row:=by rw[hI.eq tb I4,cz]
 have y1:tb≠nx:=af
 have y2:∀k,tb≠nx+k:=fun k=>af
 refine cR.ay mix aeN ao ?_
 rw[c96]
 refine Xk ot y1 y2 ?_
 have hI1:c0 base (H s) (aM (aM (aM o nx (.row [.kq oY])) (nx+1) (.row [.d .bV])) (nx+1) (.row [.func (.func 97) [] [.ptr nx 0, .ptr (nx+1) 0]])) (nx+6):=by
  refine((hI.aM (i:=nx) (m:=nx+6) af af af ?_).aM (i:=nx+1) (m:=nx+6) af af af rfl).aM (i:=nx+1) af af af ?_
  ·exact LS
  ·exact iX
 refine bn (OG base oY H step ok t hf 1 af af bw hR wC (nx+6) _ nx (nx+1) af hle af af af ?_ ?_ [] s (by rw[List.append_nil];exact gQ) _ _ (hI1.ext (Nat.le_refl _) af) _ _ ?_)
 ·exact dn
 ·exact dn
 intro o2 n2 m1 m2 m3
 refine b8 ?_
 refine hK _ _ af ⟨m2.bX,af,fun id aG=> ?_⟩ (fun id h1 h2=> ?_)
 ·exact AB
 ·exact Mn
end
theorem Kh(t:Pf)(o:Nat->ab)(nx:Nat)(K X:V->(Nat->ab)->Nat->Prop)(h:K (.func (.func 96) [] [.ptr nx 0]) (aM o nx (.row t.row)) (nx+4)):cR Tryz.prog 56 [.d t.d] o nx K X:=by
 refine cR.ay mix aeA ao ?_
 rw[c56]
 refine b8 ?_
 exact h
def nr{σ:Type}(J:σ->Option j9)(step:σ->Pf×Int->σ)(s:σ)(x:Pf×Int):σ×Bool:=(step s x,(J (step s x)).isNone)
theorem Em{σ:Type}(J:σ->Option j9)(step:σ->Pf×Int->σ):∀ (l:List (Pf×Int)) (s:σ),J s=none->(aC (nr J step) s l).2=(J (aC (nr J step) s l).1).isNone
 |[],s,h=>by simp[aC,h]
 |x::l,s,h=>by
  simp only[aC]
  split
  ·rename_i hb
   exact Em J step l _ (by simpa[nr]using hb)
  ·rename_i hb
   cases hj:J (step s x)with
   |none=>exact absurd (by simp[nr,hj]) hb
   |some j=>simp[nr,hj]
theorem yl{σ:Type}(t:Pf)(hf:t.fits)(hd:t.fR<=900000){n bq:Nat}{gq:Operand}{ps:List Nat}{jg fe:IC}{Q:gf->S->Prop}{e:Nat->V}{o:Nat->ab}{nx tb:Nat}(env:List V)(he:mh e env 0)
 (DJ:ps.all (fun t=>decide (t<n))=true) (hl:ps.length=2) (hg:Good o nx) (hrefs:∀r∈V.aO env,r<nx) (ht:o tb= .row t.row)
 (G:σ->Nat->ab) (J:σ->Option j9) (step:σ->Pf×Int->σ) (ok:List (Pf×Int)->σ->Prop) (s0:σ) (gQ:ok (dx t 1) s0) (Tk:J s0=none) (h0:∀id,id<nx->o id=G s0 id) (bw:∀x∈dx t 1,∀r s,ok (x::r) s->J s=none->J (step s x)=none->ok r (step s x))
 (mL:∀L,iQ Tryz.prog n env ps jg fe L->(∀st pd m,nx<=m->(L st pd).refs.all (fun r=>decide (r<m))=true)->∀x∈dx t 1,∀r s,ok (x::r) s->J s=none->∀o3 n3,c0 nx (G s) o3 n3->nx<n3->o3 nx=L .ready none->∀K X,
  (∀e' o' n' st pd,n3<=n'->c0 nx (G (step s x)) o' n'->o' nx=L st pd->(∀id,nx<id->id<n3->o' id=o3 id)->jU nx K X (H5 (J (step s x))) ⟨e',o',n'⟩)->
  ll Tryz.prog n n3 true jg (ow Tryz.prog n n3 nx fe K X) ⟨nY (br env) ps [.d x.1.d, .d (.i x.2)],o3,n3⟩)
 (kQ:∀o' n',c0 nx (G (aC (nr J step) s0 (dx t 1)).1) o' n'->qd Q (J (aC (nr J step) s0 (dx t 1)).1) ⟨e,o',n'⟩):
 x9 Tryz.prog n bq false gq ps jg fe Q ⟨e,o,nx⟩ (.func (.func 96) [] [.ptr tb 0]):=by
 refine F9 env he (fun L hL=> ?_)
 have I4:tb<nx:=hg.lt L5
 let H:σ->Nat->ab:=fun s id=>if id<nx then G s id else if id=nx then(match J s with|none=>L .ready none|some j=>L .done (some j))else .no
 have I1:∀s id,id<nx->H s id=G s id:=fun s id h=>if_pos h
 have PZ:∀s,J s=none->H s nx=L .ready none:=fun s h=>by show(if nx<nx then _ else _)=_;rw[if_neg (by omega),if_pos rfl,h]
 have Xv:∀s j,J s=some j->H s nx=L .done (some j):=fun s j h=>by show(if nx<nx then _ else _)=_;rw[if_neg (by omega),if_pos rfl,h]
 have yu:∀st pd m,nx<=m->(L st pd).refs.all (fun r=>decide (r<m))=true:=fun st pd m hm=>by
  exact Mi
 refine Kg (nx+1) nx H (nr J step) (fun r s=>ok r s/\J s=none) t hf hd (fun x hx r s h1 h2=> ?_) (fun x hx r s h1=> ?_) af tb af s0 ⟨gQ,Tk⟩ L3 _ _ ⟨?_,Nat.le_refl _,fun id aG=> ?_⟩ _ _ ?_
 ·have hj:J (step s x)=none:=by simpa[nr]using h2
  exact⟨bw x hx r s h1.1 h1.2 hj,hj⟩
 ·intro o3 n3 hI K X hK
  have hle:=hI.le
  have Lh:o3 nx=L .ready none:=by rw[hI.eq nx (by omega),PZ s h1.2]
  refine wA hL mix Lh af DJ (by simp[hl]) ?_
  refine mL L hL yu x hx r s h1.1 h1.2 o3 n3 ⟨hI.bX,af,fun id aG=>by rw[hI.eq id (by omega),I1 _ _ aG]⟩ af Lh K X (fun e' o' n' st pd k1 k2 k3 k4=> ?_)
  have key:∀st' pd' b,(J (step s x)).isNone=b->H (step s x) nx=L st' pd'->K (.d (.bool b)) (aM o' nx (L st' pd')) n':=fun st' pd' b hb hh=>by
   subst hb
   refine hK _ _ k1 ⟨k2.bX.aM af (yu _ _ _ af),af,fun id aG=> ?_⟩ (fun id g1 g2=> ?_)
   ·by_cases vj:id=nx
    ·exact LU
    ·rw[ak _ _ _ _ vj]
     show o' id=H (step s x) id
     exact LL
   ·exact XC
  cases hj:J (step s x)with
  |none=>exact Xz
  |some j=>
   cases j with
   |ret=>exact Xw
   |exit j=>exact Xu
 ·exact Xx
 ·by_cases vj:id=nx
  ·exact LY
  ·exact Xt
 ·intro o' n' k1 k2 k3
  have hle:=k2.le
  generalize hsf:(aC (nr J step) s0 (dx t 1)).1=sf at*
  have kk:∀st pd,c0 nx (G sf) (aM o' nx (L st pd)) n':=fun st pd=>⟨k2.bX.aM af (yu _ _ _ af),af,fun id aG=>by rw[ak _ _ _ _ (by omega),k2.eq id (by omega),I1 _ _ aG]⟩
  cases hj:J sf with
  |none=>
   refine⟨.ready,none,by rw[k2.eq nx (by omega),PZ _ hj],(fun h=>by cases h), ?_⟩
   have:=kQ _ _ (kk .exhausted none)
   rwa [hj]at this
  |some j=>
   refine⟨.done,some j,by rw[k2.eq nx (by omega),Xv _ _ hj],(fun h=>by cases h), ?_⟩
   have:=kQ _ _ (kk .exhausted (some j))
   rwa [hj]at this
theorem BO{σ:Type}(t:Pf)(hf:t.fits)(hd:t.fR<=900000){n bq:Nat}{gq:Operand}{ps:List Nat}{jg fe:IC}{Q:gf->S->Prop}{e:Nat->V}{o:Nat->ab}{nx tb:Nat}(env:List V)(he:mh e env 0)
 (DJ:ps.all (fun t=>decide (t<n))=true) (hl:ps.length=2) (hg:Good o nx) (hrefs:∀r∈V.aO env,r<nx) (ht:o tb= .row t.row)
 (G:σ->Nat->ab) (J:σ->Option j9) (step:σ->Pf×Int->σ) (ok:σ->Prop) (s0:σ) (gQ:ok s0) (Tk:J s0=none) (h0:∀id,id<nx->o id=G s0 id) (bw:∀x∈dx t 1,∀s,ok s->J s=none->J (step s x)=none->ok (step s x))
 (mL:∀L,iQ Tryz.prog n env ps jg fe L->(∀st pd m,nx<=m->(L st pd).refs.all (fun r=>decide (r<m))=true)->∀x∈dx t 1,∀s,ok s->J s=none->∀o3 n3,c0 nx (G s) o3 n3->nx<n3->o3 nx=L .ready none->∀K X,
  (∀e' o' n' st pd,n3<=n'->c0 nx (G (step s x)) o' n'->o' nx=L st pd->(∀id,nx<id->id<n3->o' id=o3 id)->jU nx K X (H5 (J (step s x))) ⟨e',o',n'⟩)->
  ll Tryz.prog n n3 true jg (ow Tryz.prog n n3 nx fe K X) ⟨nY (br env) ps [.d x.1.d, .d (.i x.2)],o3,n3⟩)
 (kQ:∀o' n',c0 nx (G (aC (nr J step) s0 (dx t 1)).1) o' n'->qd Q (J (aC (nr J step) s0 (dx t 1)).1) ⟨e,o',n'⟩):
 x9 Tryz.prog n bq false gq ps jg fe Q ⟨e,o,nx⟩ (.func (.func 96) [] [.ptr tb 0]):=
 yl t hf hd env he DJ hl hg hrefs ht G J step (fun _ s=>ok s) s0 gQ Tk h0 (fun x hx _=>bw x hx) (fun L hL yu x hx _=>mL L hL yu x hx) kQ
end
theorem Sa(s:aV)(hs:s.Fits)(x:Tm)(hx:x.fits)(base sp:Nat)(h:Nat->ab)(vF:h sp= .row s.row)(hb:sp<base):
 gv Tryz.prog 122 [.d x.d, .ptr sp 0] base h h (.d (.bool (mu s x))):=by
 intro o nx hI K X hK
 have hle:=hI.le
 have ho:o sp= .row s.row:=by rw[hI.eq sp hb,vF]
 have y1:∀k,sp≠nx+k:=fun k=>af
 have y2:sp≠nx:=af
 refine cR.ay mix Vw ao ?_
 rw[Zv]
 refine Ax ho y1 y2 ?_
 refine ah (BH s hs x hx) rfl ?_
 refine iZ ?_
 exact hK _ _ af (hI.aM af af af rfl) fun id i1 i2=>by rw[ak _ _ _ _ (by omega)]
def lu(s:aV)(l:List Tm):Bool:=decide (l.length<=20)&&l.all (mu s)
theorem OH(s:aV)(hs:s.Fits)(l:List Tm)(hl:l.length<=9223372036854775807)(hf:∀t∈l,t.fits):aQ Tryz.prog 88 [s.d, .sl (l.map Tm.d)] (.ret [.bool (lu s l)]):=by
 refine aQ.ay mix aeH ao ?_
 rw[c88]
 unfold lu
 by_cases h0: ¬l.length<=20
 ·have Cb:decide ((l.length:Int)<=20)=false:=by simp;omega
  have Gk:decide (l.length<=20)=false:=by simp;omega
  refine dW Cb ?_
  rw[Gk];rfl
 have Cb:decide ((l.length:Int)<=20)=true:=by simp;omega
 have Gk:decide (l.length<=20)=true:=by simp;omega
 rw[Gk,Bool.true_and]
 refine dW Cb ?_
 refine bn (zT (σ:=Unit) l hl 122 [.ptr 0 0] 1 (fun _=>aM (fun _=> .no) 0 (.row s.row)) (fun _ x=>((),mu s x)) nk (fun _=>True) (fun _ _ _ _ _=>trivial) (fun x hx _ _=>Sa s hs x (hf x hx) 1 0 _ (ae _ _ _) af) () trivial _ _ ⟨dE,af,fun id aG=> ?_⟩ _ _ fun o2 n2 m1 m2 m3=> ?_)
 ·first|rfl|exact mw
 rw[Ec]
 simp+contextual (disch:=first|omega|simp only[go_sem,false_implies]) only[go_sem,wrap64,if_pos,Nat.add_assoc,Nat.left_eq_add,Nat.add_eq_left,Nat.add_left_cancel_iff]
def jK(s:aV)(m:Int)(x:Pf×Int):Bool:=(decide (500<m)||decide (150<x.2))|| !mu s x.1.val|| !lu s x.1.binds||(x.1.az !=6&&(x.1.num !=0||decide (0<(x.1.binds.length:Int))))
def ju(s:aV)(st:Int×Bool)(x:Pf×Int):Int×Bool:=(st.1+1, !jK s (st.1+1) x)
def Ql(st:Int×Bool):Option j9:=if st.2=true then none else some .ret
def ud(s:aV)(f:Pf):Bool:=(aC (nr Ql (ju s)) (0,true) (dx f 1)).2
theorem Ki(p:Pg)(hp:p.Fin)(f:Pf)(hf:f.fits)(hd:f.fR<=900000)(bH:∀x∈dx f 1,x.1.fits):aQ Tryz.prog 55 [p.d,f.d] (.ret [.bool (ud p.sig f)]):=by
 refine aQ.ay mix aez ao ?_
 rw[c55]
 refine iZ ?_
 refine cW (Kh f _ _ _ _ ?_)
 refine iZ ?_
 refine BO (σ:=Int×Bool) f hf hd [.aa, .aa, .ptr 0 0, .aa, .ptr 2 0, .ptr 3 0] ?_ bG rfl dE nk (ae _ _ _)
  (fun b=>aM (aM (aM (aM (aM (fun _=> .no) 0 (.row p.row)) 1 (.row f.row)) 2 (.row [.d (.bool false)])) 6 (.row f.row)) 3 (.row [.d (.i b.1)])) Ql (ju p.sig) (fun b=>0<=b.1/\b.1<=500) (0,true) ⟨bG,bG⟩ rfl (fun id aG=> ?_) (fun x _ s hs _ h2=> ?_) ?_ ?_
 ·exact Lx
 ·first|exact mw|(rw[jB];exact mw)
 ·have hb:jK p.sig (s.1+1) x=false:=by
   cases h:jK p.sig (s.1+1) x with
   |false=>rfl
   |true=>simp[ju,Ql,h]at h2
  simp only[jK,Bool.or_eq_false_iff,decide_eq_false_iff_not]at hb
  simp only[ju]
  omega
 ·intro L hL yu x hx s' h1 h2 o3 n3 hI hn ho K X db
  simp only[nY]
  have hg:=hI.bX
  have q1:o3 3= .row [.d (.i s'.1)]:=hI.eq 3 af
  have q2:o3 0= .row p.row:=hI.eq 0 af
  have q3:o3 2= .row [.d (.bool false)]:=hI.eq 2 af
  refine aU ?_
  refine oz hL (pd:=none) ?_ ?_
  ·(repeat(first|rfl|rw[ae]|rw[ak _ _ _ _ (by omega)]))
   exact ho
  refine xB q1 q2 ?_
  have same:∀ (o':Nat->ab) (n':Nat),Good o' n'->n3<=n'->(∀j,j<10->o' j=aM o3 3 (.row [.d (.i (s'.1+1))]) j)->c0 10 (aM (aM (aM (aM (aM (fun _=> .no) 0 (.row p.row)) 1 (.row f.row)) 2 (.row [.d (.bool false)])) 6 (.row f.row)) 3 (.row [.d (.i (s'.1+1))])) o' n':=fun o' n' k1 k2 k3=>⟨k1,af,fun j hj=>by
   rw[k3 j hj]
   by_cases e:j=3
   ·exact Ck
   ·rw[ak _ 3 _ _ e,ak _ 3 _ _ e,hI.eq j hj,ak _ 3 _ _ e]⟩
  have hxf:=(Pf.aF _).1 (bH x hx)
  have bad:jK p.sig (s'.1+1) x=true->ju p.sig s' x=(s'.1+1,false):=fun h=>by simp[ju,h]
  have bX:jK p.sig (s'.1+1) x=false->ju p.sig s' x=(s'.1+1,true):=fun h=>by simp[ju,h]
  cases c1:(decide (500<s'.1+1)||decide (150<x.2))with
  |true=>
   rw[bad (by unfold jK;rw[c1];rfl)]at db
   refine E8 c1 q1 q2 q3 ?_
   refine db _ _ _ .busy none af (same _ _ dE af fun j hj=> ?_) dn (fun id h3 h4=>by(repeat(first|rfl|rw[ae]|rw[ak _ _ _ _ (by omega)])))
   by_cases e:j=2
   ·exact QH
   ·by_cases e3:j=3
    ·exact Ly
    ·exact dn
  |false=>
   refine xL c1 q1 q2 ?_
   refine ah (BH p.sig hp.sig x.1.val hxf.1) rfl ?_
   cases c2:mu p.sig x.1.val with
   |false=>
    rw[bad (by unfold jK;rw[c1,c2];rfl)]at db
    refine E8 c1 q1 q2 q3 ?_
    refine db _ _ _ .busy none af (same _ _ dE af fun j hj=> ?_) dn (fun id h3 h4=>by(repeat(first|rfl|rw[ae]|rw[ak _ _ _ _ (by omega)])))
    by_cases e:j=2
    ·exact QH
    ·by_cases e3:j=3
     ·exact Ly
     ·exact dn
   |true=>
    refine xL c1 q1 q2 ?_
    refine ah (OH p.sig hp.sig x.1.binds hxf.2.1 hxf.2.2.1) rfl ?_
    cases c3:lu p.sig x.1.binds with
    |false=>
     rw[bad (by unfold jK;rw[c1,c2,c3];rfl)]at db
     refine E8 c1 q1 q2 q3 ?_
     refine db _ _ _ .busy none af (same _ _ dE af fun j hj=> ?_) dn (fun id h3 h4=>by(repeat(first|rfl|rw[ae]|rw[ak _ _ _ _ (by omega)])))
     by_cases e:j=2
     ·exact QH
     ·by_cases e3:j=3
      ·exact Ly
      ·exact dn
    |true=>
     refine E8 c1 q1 q2 q3 ?_
     refine aj (fun h5=> ?_) (fun h5=> ?_)
     ·rw[bad (by unfold jK;rw[c1,c2,c3,h5];rfl)]at db
      refine cf q3 ?_
      refine db _ _ _ .busy none af (same _ _ dE af fun j hj=> ?_) dn (fun id h3 h4=>by(repeat(first|rfl|rw[ae]|rw[ak _ _ _ _ (by omega)])))
      by_cases e:j=2
      ·exact QH
      ·by_cases e3:j=3
       ·exact Ly
       ·exact dn
     ·have xF:(x.1.az !=6&&(x.1.num !=0||decide (0<(x.1.binds.length:Int))))=false:=by simpa using h5
      rw[bX (by unfold jK;rw[c1,c2,c3,xF];rfl)]at db
      refine aU ?_
      refine db _ _ _ .busy none af (same _ _ dE af fun j hj=>by
       by_cases e3:j=3
       ·exact Ly
       ·(repeat(first|rfl|rw[ae]|rw[ak _ _ _ _ (by omega)]))) dn (fun id h3 h4=>by(repeat(first|rfl|rw[ae]|rw[ak _ _ _ _ (by omega)])))
 ·intro o' n' hI
  have q1:o' 2= .row [.d (.bool false)]:=hI.eq 2 af
  rw[show ud p.sig f=(Ql (aC (nr Ql (ju p.sig)) (0,true) (dx f 1)).1).isNone from Em _ _ _ _ rfl]
  generalize (aC (nr Ql (ju p.sig)) (0,true) (dx f 1)).1=sf at*
  obtain⟨m,b⟩:=sf
  cases b<;>(simp only[Ql,if_true,if_false,Bool.false_eq_true,qd];simp+contextual (disch:=first|omega|simp only[go_sem,false_implies]) only[go_sem,wrap64,if_pos,q1];try rfl)
theorem Kj:∀ (t:Pf) (d:Int),t.fits->∀x∈dx t d,x.1.fits:=by
 refine Pf.cc fun t ih d hf x hx=> ?_
 rw[o8]at hx
 rcases List.mem_cons.1 hx with e|e
 ·rw[e];exact hf
 ·obtain⟨k,hk,h⟩:=List.mem_flatMap.1 e
  exact ih k hk (d+1) (((Pf.aF t).1 hf).2.2.2.2 k hk) x h
theorem Gm(p:Pg)(hp:p.Fin)(f:Pf)(hf:f.fits)(hd:f.fR<=900000):aQ Tryz.prog 55 [p.d,f.d] (.ret [.bool (ud p.sig f)]):=Ki p hp f hf hd (Kj f 1 hf)
def Gn(s:aV)(x:Pf×Int):Bool:=decide (x.2<=150)&&mu s x.1.val&&lu s x.1.binds&&(x.1.az==6||(x.1.num==0&&x.1.binds.length==0))
theorem z7(s:aV)(m:Int)(x:Pf×Int):jK s m x=false↔m<=500/\Gn s x=true:=by
 unfold jK Gn
 simp only[Bool.or_eq_false_iff,Bool.and_eq_true,decide_eq_false_iff_not,decide_eq_true_eq,Bool.not_eq_false',Bool.and_eq_false_imp,Bool.or_eq_true,beq_iff_eq,bne_iff_ne,bne_eq_false_iff_eq]
 constructor
 ·rintro⟨⟨⟨⟨a,b⟩,c⟩,d⟩,e⟩
  refine⟨af,⟨⟨af,c⟩,d⟩, ?_⟩
  by_cases h:x.1.az=6
  ·exact .inl h
  ·have:=e h
   exact .inr ⟨this.1,af⟩
 ·rintro⟨a,⟨⟨b,c⟩,d⟩,e⟩
  refine⟨⟨⟨⟨af,af⟩,c⟩,d⟩,fun h=> ?_⟩
  rcases e with e|e
  ·exact absurd e h
  ·exact⟨e.1,af⟩
theorem Ik(s:aV):∀ (L:List (Pf×Int)) (m:Int),(aC (nr Ql (ju s)) (m,true) L).2=true↔(L=[]\/m+L.length<=500)/\∀x∈L,Gn s x=true
 |[],m=>by simp[aC]
 |x::L,m=>by
  have e1:nr Ql (ju s) (m,true) x=((m+1, !jK s (m+1) x), !jK s (m+1) x):=by
   cases h:jK s (m+1) x<;>simp[nr,ju,Ql,h]
  rw[aC,e1]
  cases hb:jK s (m+1) x with
  |true=>
   have hn: ¬ (m+1<=500/\Gn s x=true):=fun h=>by
    rw[(z7 s (m+1) x).2 h]at hb;cases hb
   simp only[Bool.not_true,Bool.false_eq_true,if_false,false_iff]
   rintro⟨a,b⟩
   refine hn ⟨?_,b x ao⟩
   rcases a with a|a
   ·cases a
   ·simp at a;omega
  |false=>
   obtain⟨h1,h2⟩:=(z7 s (m+1) x).1 hb
   simp only[Bool.not_false,if_true]
   rw[Ik s L (m+1)]
   constructor
   ·rintro⟨a,b⟩
    refine⟨.inr ?_,fun y hy=>(List.mem_cons.1 hy).elim (fun e=>e ▸ h2) (b y)⟩
    rcases a with a|a
    ·subst a;simp;omega
    ·simp;omega
   ·rintro⟨a,b⟩
    refine⟨?_,fun y hy=>b y pD⟩
    rcases a with a|a
    ·cases a
    ·simp at a;exact .inr af
theorem OI(s:aV)(f:Pf):ud s f=true↔(dx f 1).length<=500/\∀x∈dx f 1,Gn s x=true:=by
 unfold ud
 rw[Ik]
 have hn:dx f 1≠[]:=by rw[o8];simp
 simp only[hn,false_or]
 constructor
 ·rintro⟨a,b⟩;exact⟨af,b⟩
 ·rintro⟨a,b⟩;exact⟨af,b⟩
end Go.Proofs.YtonbelhklnmjnaaGreat
