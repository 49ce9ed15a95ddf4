/-
  A PART OF THE PROOF. Conditions: none.
-/
import Derived.Shelf.Sort.Plain
import Derived.Shelf.Slices.In.SortNone
import Derived.Test.YtealblliddhgiaaGreatVr15
set_option linter.unusedSimpArgs false
set_option linter.unusedVariables false
namespace Go.Proofs.YtealblliddhgiaaGreat
def C9(l:List (D×D)):List (Int×D):=l.map fun p=>((match p.1 with| .int _ n=>n|_=>0),p.2)
def LP(l:List (D×D)):Bool:=l.all fun p=>match p.1 with| .int .i64 _=>true|_=>false
@[go_sem] theorem RW (m:List (Int×D)):C9 (enc (D.int .i64) m)=m:=by
  unfold C9 enc;rw[List.map_map];simp[Function.comp_def]
@[go_sem] theorem RX (m:List (Int×D)):LP (enc (D.int .i64) m)=true:=by simp[LP,enc]
@[go_sem] theorem RY:LP []=true:=rfl
@[go_sem] theorem RZ:C9 []=[]:=rfl
theorem wz:∀ {l:List (D×D)},LP l=true->enc (D.int .i64) (C9 l)=l
 |[],_=>rfl
 |(k,x)::l,h=>by
  simp only[LP,List.all_cons,Bool.and_eq_true]at h
  have ih:=wz (l:=l) h.2
  obtain⟨n,h1⟩:∃n,k= .int .i64 n:=by
   have h1:=h.1
   split at h1
   ·exact⟨_,rfl⟩
   ·cases h1
  subst h1
  simp only[enc,C9,List.map_cons]at ih|-
  rw[ih]
def eD(l:List Int):List (Int×D):=l.map fun n=>(n, .bool true)
@[go_sem] theorem QT:eD []=[]:=rfl
def sR(l:List Int)(n:Int):List Int:=if l.contains n=true then l else l++[n]
theorem o9{l:List Int}{n k:Int}:k∈sR l n↔k∈l\/k=n:=by
 unfold sR
 split
 ·rename_i h
  have:n∈l:=by simpa using h
  constructor
  ·exact .inl
  ·rintro(h|rfl)<;>assumption
 ·simp
theorem ly{l:List Int}(n:Int)(h:l.Nodup):(sR l n).Nodup:=by
 unfold sR
 split
 ·exact h
 ·rename_i hn
  have hn:n∉l:=by simpa using hn
  rw[List.nodup_append]
  exact⟨h,by simp,fun a ha b hb=>by simp at hb;subst hb;intro e;subst e;exact hn ha⟩
theorem kJ:∀ (l:List Int) (n:Int) (i:Nat),fg n (eD l) i=(l.findIdx? (· ==n)).map fun j=>(i+j,D.bool true)
 |[],n,i=>rfl
 |x::l,n,i=>by
  have ih:=kJ l n (i+1)
  simp only[eD,List.map_cons,fg,List.findIdx?_cons]at ih|-
  by_cases h:n=x
  ·subst h;simp
  ·have h2: ¬x=n:=fun e=>h e.symm
   simp only[beq_iff_eq,h,h2,if_false,ih,Option.map_map,Function.comp_def]
   congr 1;funext j;congr 1;omega
@[go_sem] theorem MU (l:List Int) (n:Int):wx n (.bool true) (eD l)=eD (sR l n):=by
  unfold wx sR
  rw[kJ]
  cases h:l.findIdx? (· ==n)with
  |none=>
   have:l.contains n=false:=by
    rw[List.findIdx?_eq_none_iff]at h
    rw[Bool.eq_false_iff];intro hc
    have:=h n (by simpa using hc)
    simp at this
   simp only[Option.map_none,this,Bool.false_eq_true,if_false]
   simp[eD]
  |some j=>
   rw[List.findIdx?_eq_some_iff_getElem]at h
   obtain⟨hj,he,_⟩:=h
   have e:l[j]=n:=by simpa using he
   have:l.contains n=true:=by rw[List.contains_iff_mem, <- e];exact List.getElem_mem hj
   simp only[Option.map_some,this,if_true,Nat.zero_add]
   apply List.ext_getElem?
   intro k
   rw[List.getElem?_set]
   split
   ·rename_i hk;subst hk;simp[eD,hj,e]
   ·rfl
def yH(l:List Int)(n:Int):List Int:=match l.findIdx? (· ==n)with|some j=>l.eraseIdx j|none=>l
theorem eV{α β:Type}(f:α->β):∀ (l:List α) (j:Nat),(l.map f).eraseIdx j=(l.eraseIdx j).map f
 |[],_=>rfl
 |_::_,0=>rfl
 |x::l,j+1=>by simp[eV f l j]
@[go_sem] theorem MV (l:List Int) (n:Int):QQ n (eD l)=eD (yH l n):=by
  unfold QQ yH
  rw[kJ]
  cases h:l.findIdx? (· ==n)with
  |none=>simp
  |some j=>simp only[Option.map_some,Nat.zero_add];exact eV _ _ _
theorem uY{l:List Int}(n:Int)(h:l.Nodup):(yH l n).Nodup/\∀k,k∈yH l n↔k∈l/\k≠n:=by
 unfold yH
 cases hf:l.findIdx? (· ==n)with
 |none=>
  rw[List.findIdx?_eq_none_iff]at hf
  refine⟨h,fun k=>⟨fun hk=>⟨hk,fun e=> ?_⟩,fun hk=>hk.1⟩⟩
  subst e
  have:=hf k hk
  simp at this
 |some j=>
  rw[List.findIdx?_eq_some_iff_getElem]at hf
  obtain⟨hj,he,_⟩:=hf
  have e:l[j]=n:=by simpa using he
  refine⟨h.sublist (List.eraseIdx_sublist _ _),fun k=> ?_⟩
  show k∈l.eraseIdx j↔_
  have xb:l=l.take j++l[j]::l.drop (j+1):=by rw[List.getElem_cons_drop,List.take_append_drop]
  rw[List.eraseIdx_eq_take_drop_succ]
  rw[xb,List.nodup_append,List.nodup_cons]at h
  obtain⟨h1,⟨h2,h3⟩,h4⟩:=h
  constructor
  ·intro hk
   rw[List.mem_append]at hk
   refine⟨?_,fun ek=> ?_⟩
   ·rcases hk with hk|hk
    ·exact List.mem_of_mem_take hk
    ·exact List.mem_of_mem_drop hk
   ·rcases hk with hk|hk
    ·exact h4 k hk l[j] (List.mem_cons_self ..) (by rw[ek,e])
    ·exact h2 (by rw[e, <- ek];exact hk)
  ·rintro⟨hk,fS⟩
   rw[xb,List.mem_append,List.mem_cons]at hk
   rw[List.mem_append]
   rcases hk with hk|hk|hk
   ·exact .inl hk
   ·exact absurd (hk.trans e) fS
   ·exact .inr hk
section
variable {P:Program}{o:Nat->ae}{t:TypeId}{id:Nat}{n:Int}{v:V}
def pT(P:Program)(kt:TypeId):Bool:=match bc P kt with|some .int=>true|_=>false
theorem uZ{kt:TypeId}(h:pT P kt=true):bc P kt=some .int:=by
 unfold pT at h;split at h
 ·assumption
 ·cases h
@[go_sem] theorem MW {kt:TypeId} (h:bc P kt=some .int):pT P kt=true:=by unfold pT;rw[h]
def LQ(P:Program)(o:Nat->ae)(t:TypeId)(id:Nat)(n:Int)(v:V):Option fW:=
 match nw P t,dz o v,o id with
 |some (kt,_),some vd, .map zd ze l=>match pT P kt&&LP l&&v.ids.all (· !=id)with
  |true=>some (.bT [],ck o v.ids++[(id, .map zd ze (enc (D.int .i64) (wx n vd (C9 l))))],id::v.ids)
  |false=>o6 P o t (.mp id) (.d (.int .i64 n)) v
 |_,_,_=>o6 P o t (.mp id) (.d (.int .i64 n)) v
@[go_sem high] theorem LR:fi P o t (.mp id) (.d (.int .i64 n)) v=LQ P o t id n v:=by
  unfold LQ
  split
  ·rename_i kt vt vd zd ze l h1 h2 h3
   split
   ·rename_i hc
    simp only[Bool.and_eq_true]at hc
    obtain⟨⟨c1,c2⟩,c3⟩:=hc
    have c4:=uZ c1
    have c5:dz o (.d (.int .i64 n))=some (.int .i64 n):=rfl
    have hl:=wz c2
    unfold fi
    simp only[h1,c5,h2,na,h3]
    rw[if_pos ⟨rfl,BM c4 n,rfl,c3⟩]
    conv=>lhs;rw[<- hl]
    rw[yC c4]
    unfold wx
    cases fg n (C9 l) 0 with
    |none=>simp[tJ,enc]
    |some p=>simp[tJ,BN,D.same,m9]
   ·exact uT ..
  ·exact uT ..
attribute [go_sem] LQ
def MX(l:List (D×D)):Bool:=l.all fun p=>match p.2 with| .bool true=>true|_=>false
@[go_sem] theorem R0 (l:List Int):MX (enc (D.int .i64) (eD l))=true:=by simp[MX,enc,eD]
@[go_sem] theorem R1:MX []=true:=rfl
theorem BP:∀ {m:List (Int×D)},MX (enc (D.int .i64) m)=true->eD (m.map (·.1))=m
 |[],_=>rfl
 |(k,x)::m,h=>by
  simp only[MX,enc,List.map_cons,List.all_cons,Bool.and_eq_true]at h
  have ih:=BP (m:=m) h.2
  have h1:x= .bool true:=by
   have h1:=h.1
   split at h1
   ·rfl
   ·cases h1
  simp only[eD,List.map_cons]at ih|-
  rw[ih,h1]
def FL(P:Program)(o:Nat->ae)(t:TypeId)(m:V)(n:Int)(ok:Bool):Option fW:=
 match nw P t with
 |some (kt,vt)=>match zeroV P vt with
  |some (.d (.bool false))=>match n6 o m with
   |some (rd,l)=>match pT P kt&&LP l&&MX l with
    |true=>some (match ok with|true=> .bT [.d (.bool (((C9 l).map (·.1)).contains n)), .d (.bool (((C9 l).map (·.1)).contains n))]|false=> .d (.bool (((C9 l).map (·.1)).contains n)),[],rd)
    |false=>sO P o t m (.d (.int .i64 n)) ok
   |none=>sO P o t m (.d (.int .i64 n)) ok
  |_=>sO P o t m (.d (.int .i64 n)) ok
 |none=>sO P o t m (.d (.int .i64 n)) ok
@[go_sem] theorem FM (l:List Int):((eD l).map (·.1))=l:=by simp[eD,Function.comp_def]
@[go_sem high] theorem QU {m:V} {ok:Bool}:gV P o t m (.d (.int .i64 n)) ok=FL P o t m n ok:=by
  unfold FL
  split
  ·rename_i kt vt h1
   split
   ·rename_i hz
    split
    ·rename_i rd l h
     split
     ·rename_i hc
      simp only[Bool.and_eq_true]at hc
      have c4:=uZ hc.1.1
      have hl:=wz hc.1.2
      have hs:eD ((C9 l).map (·.1))=C9 l:=BP (by rw[hl];exact hc.2)
      have c5:dz o (.d (.int .i64 n))=some (.int .i64 n):=rfl
      unfold gV
      simp only[h1,c5,h]
      rw[if_pos ⟨rfl,BM c4 n⟩]
      conv=>lhs;rw[<- hl]
      rw[yC c4, <- hs,kJ,FM]
      generalize (C9 l).map (·.1)=l'
      cases hf:l'.findIdx? (· ==n)with
      |none=>
       have:l'.contains n=false:=by
        rw[List.findIdx?_eq_none_iff]at hf
        rw[Bool.eq_false_iff];intro hc
        have:=hf n (by simpa using hc)
        simp at this
       cases ok<;>simp only[Option.map_none,tJ,hz,this,if_true,Bool.false_eq_true,if_false]
      |some j=>
       rw[List.findIdx?_eq_some_iff_getElem]at hf
       obtain⟨hj,he,_⟩:=hf
       have e:l'[j]=n:=by simpa using he
       have:l'.contains n=true:=by rw[List.contains_iff_mem, <- e];exact List.getElem_mem hj
       cases ok<;>simp only[Option.map_some,tJ,this,if_true,Bool.false_eq_true,if_false]
     ·exact mP ..
    ·exact mP ..
   ·exact mP ..
  ·exact mP ..
attribute [go_sem] FL
end
theorem Da{K:V->List (Nat×ae)->Prop}{id:Nat}{l:List Int}(h0:l=[]->K (.bT [.d (.bool false)]) [])
 (h1:∀ (i:Nat) n,l[i]? =some n->K (.bT [.d (.bool true), .d (.int .i64 n), .d (.bool true)]) [(id, .kg (enc (D.int .i64) (eD (l.eraseIdx i))) (some (.int .i64 n, .bool true)))]):uG K id (enc (D.int .i64) (eD l)):=by
 refine pS _ (fun h=>h0 ?_) fun i k x h=> ?_
 ·cases l with
  |nil=>rfl
  |cons x l=>simp[eD]at h
 ·unfold eD at h|-
  rw[List.getElem?_map]at h
  cases hl:l[i]? with
  |none=>rw[hl]at h;cases h
  |some n=>
   rw[hl]at h
   simp at h
   obtain⟨rfl,rfl⟩:=h
   have:=h1 i n hl
   rw[eV]
   exact this
theorem AE{l:List Int}{i:Nat}{n:Int}(h:l[i]? =some n):(∀v,v∈l↔v=n\/v∈l.eraseIdx i)/\(l.eraseIdx i).length+1=l.length:=by
 obtain⟨hi,e⟩:=List.getElem?_eq_some_iff.1 h
 refine⟨fun v=> ?_,by rw[List.length_eraseIdx];simp[hi];omega⟩
 have xb:l=l.take i++n::l.drop (i+1):=by rw[<- e,List.getElem_cons_drop,List.take_append_drop]
 rw[List.eraseIdx_eq_take_drop_succ]
 conv=>lhs;rw[xb]
 simp only[List.mem_append,List.mem_cons]
 constructor
 ·rintro(h|h|h)
  ·exact .inr (.inl h)
  ·exact .inl h
  ·exact .inr (.inr h)
 ·rintro(h|h|h)
  ·exact .inr (.inl h)
  ·exact .inl h
  ·exact .inr (.inr h)
attribute [go_sem] List.head?_cons
end Go.Proofs.YtealblliddhgiaaGreat
namespace Go.Proofs.YtealblliddhgiaaGreat
mutual
def jL(v:Int):Tm->Bool
 | .mk op n kids=>if op=1 then n==v else pU v op n kids 0
def pU(v op n:Int):List Tm->Nat->Bool
 |[],_=>false
 |k::l,i=>(jL v k&& !(op==8&&i==1&&n==v))||pU v op n l (i+1)
end
theorem lz(v:Int)(t:Tm):jL v t=if t.op=1 then t.n==v else pU v t.op t.n t.kids 0:=by cases t;rfl
@[reducible] def lQ (l:List Int):ae:= .map 3 4 (enc (D.int .i64) (eD l))
def QV(id:Nat)(Q:List Int->Prop)(o:Nat->ae)(nx:Nat)(K:V->(Nat->ae)->Nat->Prop):Prop:=
 ∀o' nx' l',nx<=nx'->Good o' nx'->(∀j,j<nx->j≠id->o' j=o j)->o' id=lQ l'->Q l'->K (.bT []) o' nx'
theorem AF{b nx id it n0:Nat}{Q:e9->S->Prop}{e:Nat->V}{o:Nat->ae}{ks n k:D}(own s:List Int)(hg:Good o nx)(aj:o id=lQ s)(NI:o it= .kg (enc (D.int .i64) (eD own)) none)(hb:b<=nx)(hs:s.Nodup)(WX:n0<nx)
 (he:eg nx e [.mp id, .aa, .aa, .ptr n0 0, .aa, .aa, .aa, .aa, .aa, .aa, .aa, .aa, .aa, .aa, .aa, .d ks, .d n, .d k, .aa, .aa, .aa, .aa, .aa, .aa, .aa, .aa, .aa, .aa, .aa, .aa, .aa, .aa, .aa, .aa, .aa, .aa, .aa, .ptr it 0] 0)
 (hQ:∀e' o' nx' s',e' 0= .mp id->e' 3= .ptr n0 0->e' 15= .d ks->e' 16= .d n->e' 17= .d k->nx<=nx'->Good o' nx'->(∀j,j<nx->j≠id->j≠it->o' j=o j)->o' id=lQ s'->s'.Nodup->(∀v,v∈s'↔v∈s\/v∈own)->Q (.exit 2) ⟨e',o',nx'⟩):
 jI b (fun Q s=>jZ Tryz.prog 45 b false (.seq (.af [⟨some 38, .next (.tmp 37) false,none⟩,⟨some 39, .extract (.tmp 38) 0,none⟩]) (.seq (.cond (.tmp 39) .skip (.exit 2)) (.block 3 (.seq (.af [⟨some 40, .entry (.tmp 37),none⟩,⟨some 41, .extract (.tmp 40) 0,none⟩,⟨some 7, .assign (.tmp 41),none⟩]) (.af [⟨some 42, .move (.tmp 0),none⟩,⟨some 43, .move (.tmp 7),none⟩,⟨none, .mapUpdate 93 (.tmp 42) (.tmp 43) (.const (.bool true)),none⟩]))))) Q s) Q ⟨e,o,nx⟩:=by
 have h1:id<nx:=hg.lt (by rw[aj];exact ae.noConfusion)
 have h2:it<nx:=hg.lt (by rw[NI];exact ae.noConfusion)
 have h3:id≠it:=fun h=>by rw[h,NI]at aj;cases aj
 have h4:it≠id:=fun h=>h3 h.symm
 refine bn (fun i:List Int×List Int×Option (D×D)=>⟨bF [.mp id, .aa, .aa, .ptr n0 0, .aa, .aa, .aa, .aa, .aa, .aa, .aa, .aa, .aa, .aa, .aa, .d ks, .d n, .d k, .aa, .aa, .aa, .aa, .aa, .aa, .aa, .aa, .aa, .aa, .aa, .aa, .aa, .aa, .aa, .aa, .aa, .aa, .aa, .ptr it 0],ao (ao o id (lQ i.2.1)) it (.kg (enc (D.int .i64) (eD i.1)) i.2.2),nx⟩)
  (fun i=>i.2.1.Nodup/\∀v,(v∈i.2.1\/v∈i.1)↔(v∈s\/v∈own)) (fun i=>i.1.length) (own,s,none) ⟨hs,fun _=>Iff.rfl⟩ ?_ ?_
 ·dsimp only
  refine cq.cN _ hb (Nat.le_refl _) ?_ (fun j hj=> ?_) he
  ·exact(by repeat(first|exact hg.mono (by omega)|exact Good.nil|refine Good.ao ?_ (by omega) rfl|refine Good.ao ?_ (by omega) (dK _ _ _ (by omega))|refine Good.ao ?_ (by omega) (by simp[ae.refs,V.ag,V.refs]<;>omega)))
  ·by_cases e1:j=it
   ·subst e1;rw[ab];exact NI
   ·rw[ad _ _ _ _ e1]
    by_cases e2:j=id
    ·subst e2;rw[ab];exact aj
    ·rw[ad _ _ _ _ e2]
 rintro⟨rest,s',last⟩ ⟨ij,hv⟩
 simp only at ij hv
 simp+contextual (disch:=first|omega|simp only[go_sem,false_implies]) only[go_sem,wrap64,if_pos,h3,h4]
 refine Da (fun hr=> ?_) fun i m hm=> ?_
 ·subst hr
  simp+contextual (disch:=first|omega|simp only[go_sem,false_implies]) only[go_sem,wrap64,if_pos,and_self]
  refine hQ _ _ _ s' ?_ ?_ ?_ ?_ ?_ ?_ ?_ (fun j g1 g2 g3=> ?_) ?_ ij (fun v=> ?_)
  ·rfl
  ·rfl
  ·rfl
  ·rfl
  ·rfl
  ·omega
  ·exact(by repeat(first|exact hg.mono (by omega)|exact Good.nil|refine Good.ao ?_ (by omega) rfl|refine Good.ao ?_ (by omega) (dK _ _ _ (by omega))|refine Good.ao ?_ (by omega) (by simp[ae.refs,V.ag,V.refs]<;>omega)))
  ·(repeat(first|rfl|rw[ab]|rw[ad _ _ _ _ (by omega)]))
  ·(repeat(first|rfl|rw[ab]|rw[ad _ _ _ _ (by omega)]))
  ·have:=hv v
   simpa using this
 ·simp+contextual (disch:=first|omega|simp only[go_sem,false_implies]) only[go_sem,wrap64,if_pos,h3,h4]
  obtain⟨r1,r2⟩:=AE hm
  refine aE (rest.eraseIdx i,sR s' m,some (.int .i64 m, .bool true)) ⟨ly _ ij,fun v=> ?_⟩ ?_ ?_
  ·dsimp only
   rw[o9, <- hv v,r1 v]
   constructor
   ·rintro((h|h)|h)
    ·exact .inl h
    ·exact .inr (.inl h)
    ·exact .inr (.inr h)
   ·rintro(h|h|h)
    ·exact .inl (.inl h)
    ·exact .inl (.inr h)
    ·exact .inr h
  ·dsimp only;omega
  ·dsimp only
   refine cq.cN _ hb (by omega) ?_ (fun j hj=> ?_) ?_
   ·exact(by repeat(first|exact hg.mono (by omega)|exact Good.nil|refine Good.ao ?_ (by omega) rfl|refine Good.ao ?_ (by omega) (dK _ _ _ (by omega))|refine Good.ao ?_ (by omega) (by simp[ae.refs,V.ag,V.refs]<;>omega)))
   ·by_cases e1:j=it
    ·subst e1;(repeat(first|rfl|rw[ab]|rw[ad _ _ _ _ (by omega)]))
    ·by_cases e2:j=id
     ·subst e2;(repeat(first|rfl|rw[ab]|rw[ad _ _ _ _ (by omega)]))
     ·(repeat(first|rfl|rw[ab]|rw[ad _ _ _ _ (by omega)]))
   ·(repeat(first|exact aw|refine aq ?_|refine ah rfl ?_|refine ah (aV (aU (by omega))) ?_|refine aF rfl (by simp[V.refs,V.ag]<;>first|omega|assumption) ?_))
theorem LS:∀t:Tm,t.fits->∀ (o:Nat->ae) (nx id:Nat) (l:List Int),Good o nx->o id=lQ l->l.Nodup->∀K X,QV id (fun l'=>l'.Nodup/\∀n,n∈l'↔n∈l\/jL n t=true) o nx K->eI Tryz.prog 107 [.mp id, .d t.d] o nx K X:=by
 refine Tm.gN fun t ih hf o nx id l hg ho hl K X hK=> ?_
 have qF:=(Tm.cY _).1 hf
 have aj:id<nx:=hg.lt (by rw[ho];exact ae.noConfusion)
 refine eI.bt mix Jh (by simp) ?_
 rw[Lh]
 have y1:id≠nx:=by omega
 have y2:∀k,id≠nx+k:=fun k=>by omega
 by_cases h1:t.op=1
 ·simp+contextual (disch:=first|omega|simp only[go_sem,false_implies]) only[go_sem,wrap64,if_pos,ho,y1,y2,Nat.add_assoc,Nat.left_eq_add,Nat.add_eq_left,Nat.add_left_cancel_iff,h1]
  refine hK _ _ (sR l t.n) ?_ ?_ (fun j hj fS=> ?_) ?_ ⟨ly _ hl,fun n=> ?_⟩
  ·omega
  ·exact(by repeat(first|exact hg.mono (by omega)|exact Good.nil|refine Good.ao ?_ (by omega) rfl|refine Good.ao ?_ (by omega) (dK _ _ _ (by omega))|refine Good.ao ?_ (by omega) (by simp[ae.refs,V.ag,V.refs]<;>omega)))
  ·(repeat(first|rfl|rw[ab]|rw[ad _ _ _ _ (by omega)]))
  ·(repeat(first|rfl|rw[ab]|rw[ad _ _ _ _ (by omega)]))
  ·rw[o9,lz,if_pos h1]
   rw[beq_iff_eq, @eq_comm _ t.n n]
 ·have kT:(t.op==1)=false:=by simpa using h1
  simp+contextual (disch:=first|omega|simp only[go_sem,false_implies]) only[go_sem,wrap64,if_pos,ho,y1,y2,Nat.add_assoc,Nat.left_eq_add,Nat.add_eq_left,Nat.add_left_cancel_iff,kT]
  refine bn (fun i:Nat×List Int×(Nat->ae)×Nat=>⟨bF [.mp id, .aa, .aa, .ptr nx 0, .aa, .aa, .aa, .aa, .aa, .aa, .aa, .aa, .aa, .aa, .aa, .d (.sl (t.kids.map Tm.d)), .d (.i t.kids.length), .d (.i i.1)],i.2.2.1,i.2.2.2⟩)
   (fun i=>i.1<=t.kids.length/\i.2.1.Nodup/\Good i.2.2.1 i.2.2.2/\nx+1<=i.2.2.2/\(∀j,j<nx->j≠id->i.2.2.1 j=o j)/\i.2.2.1 nx= .row t.row/\i.2.2.1 id=lQ i.2.1/\∀v,(v∈i.2.1\/pU v t.op t.n (t.kids.drop i.1) i.1=true)↔(v∈l\/jL v t=true)) (fun i=>t.kids.length - i.1) (0,l,ao o nx (.row t.row),nx+8)
   ⟨Nat.zero_le _,hl,by dsimp only;exact(by repeat(first|exact hg.mono (by omega)|exact Good.nil|refine Good.ao ?_ (by omega) rfl|refine Good.ao ?_ (by omega) (dK _ _ _ (by omega))|refine Good.ao ?_ (by omega) (by simp[ae.refs,V.ag,V.refs]<;>omega))),by dsimp only;omega,fun j hj fS=>by dsimp only;(repeat(first|rfl|rw[ab]|rw[ad _ _ _ _ (by omega)])),by dsimp only;(repeat(first|rfl|rw[ab]|rw[ad _ _ _ _ (by omega)])),by dsimp only;(repeat(first|rfl|rw[ab]|rw[ad _ _ _ _ (by omega)]));exact ho,fun v=>by simp only[List.drop_zero];rw[lz v t,if_neg h1]⟩ ?_ ?_
  ·dsimp only
   refine cq.cN _ (by omega) (by omega) (by repeat(first|exact hg.mono (by omega)|exact Good.nil|refine Good.ao ?_ (by omega) rfl|refine Good.ao ?_ (by omega) (dK _ _ _ (by omega))|refine Good.ao ?_ (by omega) (by simp[ae.refs,V.ag,V.refs]<;>omega))) (fun _ _=>rfl) ?_
   (repeat(first|exact aw|refine aq ?_|refine ah rfl ?_|refine ah (aV (aU (by omega))) ?_|refine aF rfl (by simp[V.refs,V.ag]<;>first|omega|assumption) ?_))
  rintro⟨k,l',o',nx'⟩ ⟨hk,zF,R2,ni,hold,a7,Ai,hv⟩
  simp only at hk zF R2 ni hold a7 Ai hv
  have z1:id≠nx':=by omega
  have z2:∀k,id≠nx'+k:=fun k=>by omega
  have z3:nx≠nx':=by omega
  have z4:∀k,nx≠nx'+k:=fun k=>by omega
  simp+contextual (disch:=first|omega|simp only[go_sem,false_implies]) only[go_sem,wrap64,if_pos,Ai,a7,z1,z2,z3,z4,Nat.add_assoc,Nat.left_eq_add,Nat.add_eq_left,Nat.add_left_cancel_iff]
  refine ax (fun h2=> ?_) (fun h2=> ?_)
  ·simp at h2
   obtain⟨x,hx⟩:=bH h2
   have lM:=List.mem_of_getElem? hx
   simp+contextual (disch:=first|omega|simp only[go_sem,false_implies]) only[go_sem,wrap64,if_pos,Ai,a7,z1,z2,z3,z4,Nat.add_assoc,Nat.left_eq_add,Nat.add_eq_left,Nat.add_left_cancel_iff,hx]
   refine gK (ih x lM (qF.2 x lM) _ _ (nx'+7) [] ?_ ?_ List.nodup_nil _ _ fun o2 n2 own m1 m2 m3 m4 m5=> ?_)
   ·have hg:=R2
    exact(by repeat(first|exact hg.mono (by omega)|exact Good.nil|refine Good.ao ?_ (by omega) rfl|refine Good.ao ?_ (by omega) (dK _ _ _ (by omega))|refine Good.ao ?_ (by omega) (by simp[ae.refs,V.ag,V.refs]<;>omega)))
   ·(repeat(first|rfl|rw[ab]|rw[ad _ _ _ _ (by omega)]))
   have p0:o2 nx= .row t.row:=by rw[m3 nx (by omega) (by omega)];(repeat(first|rfl|rw[ab]|rw[ad _ _ _ _ (by omega)]));exact a7
   have p1:o2 id=lQ l':=by rw[m3 id (by omega) (by omega)];(repeat(first|rfl|rw[ab]|rw[ad _ _ _ _ (by omega)]));exact Ai
   have p2:∀j,j<nx->j≠id->o2 j=o j:=fun j h3 h4=>by rw[m3 j (by omega) (by omega)];(repeat(first|rfl|rw[ab]|rw[ad _ _ _ _ (by omega)]));exact hold j h3 h4
   have w1:nx≠n2:=by omega
   have w2:∀k,nx≠n2+k:=fun k=>by omega
   have w3:id≠n2:=by omega
   have w4:∀k,id≠n2+k:=fun k=>by omega
   have w5:nx'+7≠n2:=by omega
   have w6:∀k,nx'+7≠n2+k:=fun k=>by omega
   obtain⟨tK,d1,d2,d3⟩:∃tK,tK.Nodup/\(∀v,v∈tK↔(jL v x=true/\ ¬ (t.op=8/\k=1/\t.n=v)))/\tK=if t.op=8/\k=1 then yH own t.n else own:=by
    refine⟨_, ?_,fun v=> ?_,rfl⟩
    ·split
     ·exact(uY _ m5.1).1
     ·exact m5.1
    ·have:=m5.2 v
     simp only[List.not_mem_nil,false_or]at this
     rw[<- this]
     split
     ·rename_i hc
      rw[(uY t.n m5.1).2]
      simp[hc,eq_comm]
     ·rename_i hc
      constructor
      ·exact fun h=>⟨h,fun h2=>hc ⟨h2.1,h2.2.1⟩⟩
      ·exact fun h=>h.1
   have step:∀v (s':List Int),(v∈s'↔v∈l'\/v∈tK)->((v∈s'\/pU v t.op t.n (t.kids.drop (k+1)) (k+1)=true)↔(v∈l\/jL v t=true)):=by
    intro v s' ij
    rw[<- hv v,ij,d2 v]
    have yI:t.kids.drop k=x::t.kids.drop (k+1):=by
     obtain⟨h5,h6⟩:=List.getElem?_eq_some_iff.1 hx
     rw[List.drop_eq_getElem_cons h5,h6]
    rw[yI,pU]
    simp only[Bool.or_eq_true,Bool.and_eq_true,Bool.not_eq_true',Bool.and_eq_false_iff,beq_eq_false_iff_ne,ne_eq,not_and]
    constructor
    ·rintro((h|⟨h,h6⟩)|h)
     ·exact .inl h
     ·refine .inr (.inl ⟨h, ?_⟩)
      by_cases c1:t.op=8
      ·by_cases c2:k=1
       ·exact .inr (h6 c1 c2)
       ·exact .inl (.inr c2)
      ·exact .inl (.inl c1)
     ·exact .inr (.inr h)
    ·rintro(h|⟨h,h6⟩|h)
     ·exact .inl (.inl h)
     ·refine .inl (.inr ⟨h,fun c1 c2=> ?_⟩)
      rcases h6 with(h6|h6)|h6
      ·exact absurd c1 h6
      ·exact absurd c2 h6
      ·exact h6
     ·exact .inr h
   have WY:((t.op==8)&&((k:Int)==1))=decide (t.op=8/\k=1):=by
    rw[Bool.eq_iff_iff];simp;omega
   simp+contextual (disch:=first|omega|simp only[go_sem,false_implies]) only[go_sem,wrap64,if_pos,p0,p1,w1,w2,w3,w4,w5,w6,Nat.add_assoc,Nat.left_eq_add,Nat.add_eq_left,Nat.add_left_cancel_iff]
   refine ax (fun h3=> ?_) (fun h3=> ?_)
   ·rw[WY]at h3
    simp only[decide_eq_true_eq]at h3
    rw[if_pos h3]at d3
    cases hd:own.findIdx? (· ==t.n)with
    |none=>
     have U2:fg t.n (eD own) 0=none:=by rw[kJ,hd];rfl
     obtain rfl:tK=own:=by rw[d3,yH,hd]
     simp+contextual (disch:=first|omega|simp only[go_sem,false_implies]) only[go_sem,wrap64,if_pos,p0,p1,m4,w1,w2,w3,w4,w5,w6,Nat.add_assoc,Nat.left_eq_add,Nat.add_eq_left,Nat.add_left_cancel_iff,U2]
     refine AF (n0:=nx) (id:=id) (it:=n2+12) (ks:= .sl (t.kids.map Tm.d)) (n:= .i t.kids.length) (k:= .i k) tK l' ?_ ?_ ?_ (by omega) zF (by omega) ?_ fun e' o4 n4 s' q0 q3 wA wB wC q1 q2 q4 q5 q6 q7=> ?_
     ·have hg:=m2
      exact(by repeat(first|exact hg.mono (by omega)|exact Good.nil|refine Good.ao ?_ (by omega) rfl|refine Good.ao ?_ (by omega) (dK _ _ _ (by omega))|refine Good.ao ?_ (by omega) (by simp[ae.refs,V.ag,V.refs]<;>omega)))
     ·(repeat(first|rfl|rw[ab]|rw[ad _ _ _ _ (by omega)]))
      exact p1
     ·(repeat(first|rfl|rw[ab]|rw[ad _ _ _ _ (by omega)]))
     ·(repeat(first|exact aw|refine aq ?_|refine ah rfl ?_|refine ah (aV (aU (by omega))) ?_|refine aF rfl (by simp[V.refs,V.ag]<;>first|omega|assumption) ?_))
     have r0:o4 nx= .row t.row:=by
      rw[q4 nx (by omega) (by omega) (by omega)];(repeat(first|rfl|rw[ab]|rw[ad _ _ _ _ (by omega)]))
      exact p0
     simp+contextual (disch:=first|omega|simp only[go_sem,false_implies]) only[go_sem,wrap64,if_pos,q0,q3,wA,wB,wC]
     refine aE (k+1,s',o4,n4) ⟨by dsimp only;omega,q6,q2,by dsimp only;omega,fun j g1 g2=> ?_,r0,q5,fun v=> ?_⟩ (by dsimp only;omega) ?_
     ·dsimp only
      rw[q4 j (by omega) (by omega) (by omega)];(repeat(first|rfl|rw[ab]|rw[ad _ _ _ _ (by omega)]))
      exact p2 j g1 g2
     ·dsimp only
      exact step v s' (q7 v)
     ·dsimp only
      refine cq.cN _ (by omega) (by omega) q2 (fun _ _=>rfl) ?_
      (repeat(first|exact aw|refine aq ?_|refine ah rfl ?_|refine ah (aV (aU (by omega))) ?_|refine aF rfl (by simp[V.refs,V.ag]<;>first|omega|assumption) ?_|refine ah (by first|exact q0|exact q1|exact q2|exact q3|exact q4|exact q5|exact q6|exact q7|exact q8|exact q9|exact Db|exact Dc|exact AG|exact Dd|exact De|exact wA|exact wB|exact wC|exact Df|exact Dg|exact Dh|exact Di|exact Dj|exact Dk|exact Dl|exact Dm|exact Dn|exact Dp|exact Dq|exact Dr|exact Ds|exact Dt|exact Du|exact Dv|exact Dw|exact Dx|exact Dy|exact Dz|exact DA|exact DB|exact DC) ?_|refine aF (by first|exact q0|exact q1|exact q2|exact q3|exact q4|exact q5|exact q6|exact q7|exact q8|exact q9|exact Db|exact Dc|exact AG|exact Dd|exact De|exact wA|exact wB|exact wC|exact Df|exact Dg|exact Dh|exact Di|exact Dj|exact Dk|exact Dl|exact Dm|exact Dn|exact Dp|exact Dq|exact Dr|exact Ds|exact Dt|exact Du|exact Dv|exact Dw|exact Dx|exact Dy|exact Dz|exact DA|exact DB|exact DC) (by simp[V.refs,V.ag]<;>first|omega|assumption) ?_))
    |some j=>
     have U2:fg t.n (eD own) 0=some (j, .bool true):=by rw[kJ,hd];simp
     have Yv:(enc (D.int .i64) (eD own)).eraseIdx j=enc (D.int .i64) (eD tK):=by
      rw[d3,yH,hd,pR];unfold eD;rw[eV]
     simp+contextual (disch:=first|omega|simp only[go_sem,false_implies]) only[go_sem,wrap64,if_pos,p0,p1,m4,w1,w2,w3,w4,w5,w6,Nat.add_assoc,Nat.left_eq_add,Nat.add_eq_left,Nat.add_left_cancel_iff,U2]
     rw[Yv]
     refine AF (n0:=nx) (id:=id) (it:=n2+12) (ks:= .sl (t.kids.map Tm.d)) (n:= .i t.kids.length) (k:= .i k) tK l' ?_ ?_ ?_ (by omega) zF (by omega) ?_ fun e' o4 n4 s' q0 q3 wA wB wC q1 q2 q4 q5 q6 q7=> ?_
     ·have hg:=m2
      exact(by repeat(first|exact hg.mono (by omega)|exact Good.nil|refine Good.ao ?_ (by omega) rfl|refine Good.ao ?_ (by omega) (dK _ _ _ (by omega))|refine Good.ao ?_ (by omega) (by simp[ae.refs,V.ag,V.refs]<;>omega)))
     ·(repeat(first|rfl|rw[ab]|rw[ad _ _ _ _ (by omega)]))
      exact p1
     ·(repeat(first|rfl|rw[ab]|rw[ad _ _ _ _ (by omega)]))
     ·(repeat(first|exact aw|refine aq ?_|refine ah rfl ?_|refine ah (aV (aU (by omega))) ?_|refine aF rfl (by simp[V.refs,V.ag]<;>first|omega|assumption) ?_))
     have r0:o4 nx= .row t.row:=by
      rw[q4 nx (by omega) (by omega) (by omega)];(repeat(first|rfl|rw[ab]|rw[ad _ _ _ _ (by omega)]))
      exact p0
     simp+contextual (disch:=first|omega|simp only[go_sem,false_implies]) only[go_sem,wrap64,if_pos,q0,q3,wA,wB,wC]
     refine aE (k+1,s',o4,n4) ⟨by dsimp only;omega,q6,q2,by dsimp only;omega,fun j g1 g2=> ?_,r0,q5,fun v=> ?_⟩ (by dsimp only;omega) ?_
     ·dsimp only
      rw[q4 j (by omega) (by omega) (by omega)];(repeat(first|rfl|rw[ab]|rw[ad _ _ _ _ (by omega)]))
      exact p2 j g1 g2
     ·dsimp only
      exact step v s' (q7 v)
     ·dsimp only
      refine cq.cN _ (by omega) (by omega) q2 (fun _ _=>rfl) ?_
      (repeat(first|exact aw|refine aq ?_|refine ah rfl ?_|refine ah (aV (aU (by omega))) ?_|refine aF rfl (by simp[V.refs,V.ag]<;>first|omega|assumption) ?_|refine ah (by first|exact q0|exact q1|exact q2|exact q3|exact q4|exact q5|exact q6|exact q7|exact q8|exact q9|exact Db|exact Dc|exact AG|exact Dd|exact De|exact wA|exact wB|exact wC|exact Df|exact Dg|exact Dh|exact Di|exact Dj|exact Dk|exact Dl|exact Dm|exact Dn|exact Dp|exact Dq|exact Dr|exact Ds|exact Dt|exact Du|exact Dv|exact Dw|exact Dx|exact Dy|exact Dz|exact DA|exact DB|exact DC) ?_|refine aF (by first|exact q0|exact q1|exact q2|exact q3|exact q4|exact q5|exact q6|exact q7|exact q8|exact q9|exact Db|exact Dc|exact AG|exact Dd|exact De|exact wA|exact wB|exact wC|exact Df|exact Dg|exact Dh|exact Di|exact Dj|exact Dk|exact Dl|exact Dm|exact Dn|exact Dp|exact Dq|exact Dr|exact Ds|exact Dt|exact Du|exact Dv|exact Dw|exact Dx|exact Dy|exact Dz|exact DA|exact DB|exact DC) (by simp[V.refs,V.ag]<;>first|omega|assumption) ?_))
   ·rw[WY]at h3
    simp only[decide_eq_false_iff_not]at h3
    rw[if_neg h3]at d3
    subst d3
    simp+contextual (disch:=first|omega|simp only[go_sem,false_implies]) only[go_sem,wrap64,if_pos,p0,p1,m4,w1,w2,w3,w4,w5,w6,Nat.add_assoc,Nat.left_eq_add,Nat.add_eq_left,Nat.add_left_cancel_iff]
    refine AF (n0:=nx) (id:=id) (it:=n2+8) (ks:= .sl (t.kids.map Tm.d)) (n:= .i t.kids.length) (k:= .i k) tK l' ?_ ?_ ?_ (by omega) zF (by omega) ?_ fun e' o4 n4 s' q0 q3 wA wB wC q1 q2 q4 q5 q6 q7=> ?_
    ·have hg:=m2
     exact(by repeat(first|exact hg.mono (by omega)|exact Good.nil|refine Good.ao ?_ (by omega) rfl|refine Good.ao ?_ (by omega) (dK _ _ _ (by omega))|refine Good.ao ?_ (by omega) (by simp[ae.refs,V.ag,V.refs]<;>omega)))
    ·(repeat(first|rfl|rw[ab]|rw[ad _ _ _ _ (by omega)]))
     exact p1
    ·(repeat(first|rfl|rw[ab]|rw[ad _ _ _ _ (by omega)]))
    ·(repeat(first|exact aw|refine aq ?_|refine ah rfl ?_|refine ah (aV (aU (by omega))) ?_|refine aF rfl (by simp[V.refs,V.ag]<;>first|omega|assumption) ?_))
    have r0:o4 nx= .row t.row:=by
     rw[q4 nx (by omega) (by omega) (by omega)];(repeat(first|rfl|rw[ab]|rw[ad _ _ _ _ (by omega)]))
     exact p0
    simp+contextual (disch:=first|omega|simp only[go_sem,false_implies]) only[go_sem,wrap64,if_pos,q0,q3,wA,wB,wC]
    refine aE (k+1,s',o4,n4) ⟨by dsimp only;omega,q6,q2,by dsimp only;omega,fun j g1 g2=> ?_,r0,q5,fun v=> ?_⟩ (by dsimp only;omega) ?_
    ·dsimp only
     rw[q4 j (by omega) (by omega) (by omega)];(repeat(first|rfl|rw[ab]|rw[ad _ _ _ _ (by omega)]))
     exact p2 j g1 g2
    ·dsimp only
     exact step v s' (q7 v)
    ·dsimp only
     refine cq.cN _ (by omega) (by omega) q2 (fun _ _=>rfl) ?_
     (repeat(first|exact aw|refine aq ?_|refine ah rfl ?_|refine ah (aV (aU (by omega))) ?_|refine aF rfl (by simp[V.refs,V.ag]<;>first|omega|assumption) ?_|refine ah (by first|exact q0|exact q1|exact q2|exact q3|exact q4|exact q5|exact q6|exact q7|exact q8|exact q9|exact Db|exact Dc|exact AG|exact Dd|exact De|exact wA|exact wB|exact wC|exact Df|exact Dg|exact Dh|exact Di|exact Dj|exact Dk|exact Dl|exact Dm|exact Dn|exact Dp|exact Dq|exact Dr|exact Ds|exact Dt|exact Du|exact Dv|exact Dw|exact Dx|exact Dy|exact Dz|exact DA|exact DB|exact DC) ?_|refine aF (by first|exact q0|exact q1|exact q2|exact q3|exact q4|exact q5|exact q6|exact q7|exact q8|exact q9|exact Db|exact Dc|exact AG|exact Dd|exact De|exact wA|exact wB|exact wC|exact Df|exact Dg|exact Dh|exact Di|exact Dj|exact Dk|exact Dl|exact Dm|exact Dn|exact Dp|exact Dq|exact Dr|exact Ds|exact Dt|exact Du|exact Dv|exact Dw|exact Dx|exact Dy|exact Dz|exact DA|exact DB|exact DC) (by simp[V.refs,V.ag]<;>first|omega|assumption) ?_))
  ·simp at h2
   simp+contextual (disch:=first|omega|simp only[go_sem,false_implies]) only[go_sem,wrap64,if_pos,and_self]
   refine hK _ _ l' ?_ ?_ hold Ai ⟨zF,fun n=> ?_⟩
   ·omega
   ·exact R2.mono (by omega)
   ·have:=hv n
    rw[List.drop_eq_nil_of_le (by omega)]at this
    simpa[pU]using this
end Go.Proofs.YtealblliddhgiaaGreat
section
namespace Go.Proofs.YtealblliddhgiaaGreat
open Go.Sort Go.RowKit
def BQ(l:List Int):List Int:=l.mergeSort fun x y=>decide (x<=y)
end Go.Proofs.YtealblliddhgiaaGreat
end
section
namespace Go.Proofs.YtealblliddhgiaaGreat
open Go.Shelf
end Go.Proofs.YtealblliddhgiaaGreat
end
namespace Go.Proofs.YtealblliddhgiaaGreat
theorem FN(t:Tm)(ht:t.fits)(o:Nat->ae)(nx:Nat)(hg:Good o nx)(K X:V->(Nat->ae)->Nat->Prop)
 (hK:∀o' nx' id l,nx<=id->id<nx'->Good o' nx'->(∀j,j<nx->o' j=o j)->o' id=lQ l->l.Nodup->(∀v,v∈l↔jL v t=true)->K (.mp id) o' nx'):
 eI Tryz.prog 71 [.d t.d] o nx K X:=by
 refine eI.bt mix Ph (by simp) ?_
 rw[Us]
 simp+contextual (disch:=first|omega|simp only[go_sem,false_implies]) only[go_sem,wrap64,if_pos,Nat.add_assoc,Nat.left_eq_add,Nat.add_eq_left,Nat.add_left_cancel_iff]
 refine gK (LS t ht _ _ (nx+2) [] ?_ ?_ List.nodup_nil _ _ fun o2 n2 l m1 m2 m3 m4 m5=> ?_)
 ·exact(by repeat(first|exact hg.mono (by omega)|exact Good.nil|refine Good.ao ?_ (by omega) rfl|refine Good.ao ?_ (by omega) (dK _ _ _ (by omega))|refine Good.ao ?_ (by omega) (by simp[ae.refs,V.ag,V.refs]<;>omega)))
 ·(repeat(first|rfl|rw[ab]|rw[ad _ _ _ _ (by omega)]))
 simp+contextual (disch:=first|omega|simp only[go_sem,false_implies]) only[go_sem,wrap64,if_pos,and_self]
 refine hK _ _ (nx+2) l ?_ ?_ ?_ (fun j hj=> ?_) m4 m5.1 (fun v=> ?_)
 ·omega
 ·omega
 ·exact m2.mono (by omega)
 ·rw[m3 j (by omega) (by omega)];(repeat(first|rfl|rw[ab]|rw[ad _ _ _ _ (by omega)]))
 ·have:=m5.2 v
  simpa using this
def tL:List Int->Int->List Int
 |[],n=>[n]
 |x::l,n=>if x<n then x::tL l n else if x=n then x::l else n::x::l
def AH(op n:Int)(i:Nat)(l out:List Int):List Int:=l.foldl (fun out v=>if(op !=8||(i:Int)!=1||v !=n)=true then tL out v else out) out
mutual
def ju:Tm->List Int
 | .mk op n kids=>if op=1 then [n]else nP op n kids 0 []
def nP(op n:Int):List Tm->Nat->List Int->List Int
 |[],_,out=>out
 |k::l,i,out=>nP op n l (i+1) (AH op n i (ju k) out)
end
theorem yJ(t:Tm):ju t=if t.op=1 then [t.n]else nP t.op t.n t.kids 0 []:=by cases t;rfl
theorem sS:∀ (l:List Int) (n v:Int),v∈tL l n↔v∈l\/v=n
 |[],n,v=>by simp[tL]
 |x::l,n,v=>by
  simp only[tL]
  split
  ·simp only[List.mem_cons,sS l n v];constructor
   ·rintro(h|h|h)
    ·exact .inl (.inl h)
    ·exact .inl (.inr h)
    ·exact .inr h
   ·rintro((h|h)|h)
    ·exact .inl h
    ·exact .inr (.inl h)
    ·exact .inr (.inr h)
  ·split
   ·rename_i h;subst h;simp only[List.mem_cons];constructor
    ·exact .inl
    ·rintro(h|h)
     ·exact h
     ·exact .inl h
   ·simp only[List.mem_cons];constructor
    ·rintro(h|h)
     ·exact .inr h
     ·exact .inl h
    ·rintro(h|h)
     ·exact .inr h
     ·exact .inl h
abbrev HN(l:List Int):Prop:=l.Pairwise (· <·)
theorem yK:∀ {l:List Int} (n:Int),HN l->HN (tL l n)
 |[],n,_=>by simp[tL]
 |x::l,n,h=>by
  have h1:=List.pairwise_cons.1 h
  simp only[tL]
  split
  ·rename_i hx
   refine List.pairwise_cons.2 ⟨fun y hy=> ?_,yK n h1.2⟩
   rcases(sS l n y).1 hy with hy|hy
   ·exact h1.1 y hy
   ·omega
  ·split
   ·exact h
   ·refine List.pairwise_cons.2 ⟨fun y hy=> ?_,h⟩
    rcases List.mem_cons.1 hy with hy|hy
    ·omega
    ·have:=h1.1 y hy;omega
theorem pV(op n:Int)(i:Nat):∀ (l out:List Int),HN out->HN (AH op n i l out)/\∀v,v∈AH op n i l out↔v∈out\/(v∈l/\ ¬ (op=8/\i=1/\n=v))
 |[],out,h=>⟨h,fun v=>by simp[AH]⟩
 |x::l,out,h=>by
  have hk:AH op n i (x::l) out=AH op n i l (if(op !=8||(i:Int)!=1||x !=n)=true then tL out x else out):=rfl
  rw[hk]
  by_cases hc:(op !=8||(i:Int)!=1||x !=n)=true
  ·rw[if_pos hc]
   have ih:=pV op n i l (tL out x) (yK x h)
   refine⟨ih.1,fun v=> ?_⟩
   rw[ih.2 v,sS,List.mem_cons]
   have rF: ¬ (op=8/\i=1/\n=x):=by
    rintro⟨h1,h2,h3⟩;subst h1;subst h2;subst h3;simp at hc
   constructor
   ·rintro((h|h)|h)
    ·exact .inl h
    ·subst h;exact .inr ⟨.inl rfl,rF⟩
    ·exact .inr ⟨.inr h.1,h.2⟩
   ·rintro(h|⟨h|h,h2⟩)
    ·exact .inl (.inl h)
    ·exact .inl (.inr h)
    ·exact .inr ⟨h,h2⟩
  ·rw[if_neg hc]
   have ih:=pV op n i l out h
   refine⟨ih.1,fun v=> ?_⟩
   rw[ih.2 v,List.mem_cons]
   have rF:op=8/\i=1/\n=x:=by simp at hc;exact⟨hc.1.1,by omega,hc.2.symm⟩
   constructor
   ·rintro(h|h)
    ·exact .inl h
    ·exact .inr ⟨.inr h.1,h.2⟩
   ·rintro(h|⟨h|h,h2⟩)
    ·exact .inl h
    ·subst h;exact absurd rF h2
    ·exact .inr ⟨h,h2⟩
theorem nQ:∀t:Tm,HN (ju t)/\∀v,v∈ju t↔jL v t=true:=by
 refine Tm.gN fun t ih=> ?_
 have hs:∀ (l:List Tm) (i:Nat) (out:List Int),(∀k∈l,k∈t.kids)->HN out->HN (nP t.op t.n l i out)/\∀v,v∈nP t.op t.n l i out↔v∈out\/pU v t.op t.n l i=true:=by
  intro l
  induction l with
  |nil=>intro i out _ h;exact⟨h,fun v=>by simp[nP,pU]⟩
  |cons k l oY=>
   intro i out hk h
   have h1:=ih k (hk k (by simp))
   have h2:=pV t.op t.n i (ju k) out h
   have h3:=oY (i+1) _ (fun x hx=>hk x (by simp[hx])) h2.1
   refine⟨h3.1,fun v=> ?_⟩
   show v∈nP t.op t.n l (i+1) (AH t.op t.n i (ju k) out)↔_
   rw[h3.2 v,h2.2 v,h1.2 v,pU]
   simp only[Bool.or_eq_true,Bool.and_eq_true,Bool.not_eq_true',Bool.and_eq_false_iff,beq_eq_false_iff_ne,ne_eq,not_and]
   have:(∀ (_:t.op=8) (_:i=1), ¬t.n=v)↔((¬t.op=8\/ ¬i=1)\/ ¬t.n=v):=by
    constructor
    ·intro h
     by_cases c1:t.op=8
     ·by_cases c2:i=1
      ·exact .inr (h c1 c2)
      ·exact .inl (.inr c2)
     ·exact .inl (.inl c1)
    ·rintro((h|h)|h) c1 c2
     ·exact absurd c1 h
     ·exact absurd c2 h
     ·exact h
   rw[this]
   constructor
   ·rintro((h|h)|h)
    ·exact .inl h
    ·exact .inr (.inl h)
    ·exact .inr (.inr h)
   ·rintro(h|h|h)
    ·exact .inl (.inl h)
    ·exact .inl (.inr h)
    ·exact .inr h
 by_cases h1:t.op=1
 ·rw[yJ,if_pos h1]
  refine⟨by simp,fun v=> ?_⟩
  rw[lz,if_pos h1]
  simp only[List.mem_singleton,beq_iff_eq]
  exact eq_comm
 ·rw[yJ,if_neg h1]
  have:=hs t.kids 0 [] (fun _ h=>h) (by simp)
  refine⟨this.1,fun v=> ?_⟩
  rw[this.2 v,lz,if_neg h1]
  simp
theorem FO:∀ {l l':List Int},HN l->HN l'->(∀v,v∈l↔v∈l')->l=l'
 |[],[],_,_,_=>rfl
 |[],y::l',_,_,h=>by have:=(h y).2 (by simp);cases this
 |x::l,[],_,_,h=>by have:=(h x).1 (by simp);cases this
 |x::l,y::l',h1,h2,h=>by
  have g1:=List.pairwise_cons.1 h1
  have g2:=List.pairwise_cons.1 h2
  have e:x=y:=by
   rcases List.mem_cons.1 ((h x).1 (by simp))with e|e
   ·exact e
   ·rcases List.mem_cons.1 ((h y).2 (by simp))with e2|e2
    ·exact e2.symm
    ·have:=g2.1 x e;have:=g1.1 y e2;omega
  subst e
  rw[FO g1.2 g2.2 fun v=> ?_]
  constructor
  ·intro hv
   rcases List.mem_cons.1 ((h v).1 (by simp[hv]))with e|e
   ·subst e;exact absurd (g1.1 v hv) (by omega)
   ·exact e
  ·intro hv
   rcases List.mem_cons.1 ((h v).2 (by simp[hv]))with e|e
   ·subst e;exact absurd (g2.1 v hv) (by omega)
   ·exact e
theorem FP{l:List Int}{t:Tm}(hn:l.Nodup)(h:∀v,v∈l↔jL v t=true):BQ l=ju t:=by
 have hp:(BQ l).Perm l:=List.mergeSort_perm _ _
 have hs:(BQ l).Pairwise (fun a b=>decide (a<=b)=true):=List.pairwise_mergeSort (fun a b c h1 h2=>by simp at*;omega) (fun a b=>by simp;omega) l
 have L4:(BQ l).Nodup:=hp.nodup_iff.2 hn
 refine FO ?_ (nQ t).1 fun v=>by rw[hp.mem_iff,h v,(nQ t).2 v]
 exact(hs.and L4).imp fun {a b} h=>by have:=h.1;have:=h.2;simp at*;omega
theorem sT{α:Type}{l:List α}{i:Nat}{n:α}(h:l[i]? =some n):(n::l.eraseIdx i).Perm l:=by
 obtain⟨hi,e⟩:=List.getElem?_eq_some_iff.1 h
 have xb:l=l.take i++n::l.drop (i+1):=by rw[<- e,List.getElem_cons_drop,List.take_append_drop]
 rw[List.eraseIdx_eq_take_drop_succ]
 conv=>rhs;rw[xb]
 exact List.perm_middle.symm
end Go.Proofs.YtealblliddhgiaaGreat
namespace Go.Proofs.YtealblliddhgiaaGreat
theorem FQ{o:Nat->ae}{nx:Nat}{Δ:List (Nat×ae)}(h:∀x∈Δ,x.1<nx):(hp o nx).put Δ=hp (put o Δ) nx:=by
 simp only[Hp.put,hp]
 congr 1
 funext j
 simp only[List.mem_map,eq_iff_iff]
 exact⟨fun h2=>h2.elim (fun h=>h) fun⟨x,hx,e⟩=>e ▸ h x hx, .inl⟩
theorem eI.AJ {P:Program}{g:FuncId}{args:List V}{o:Nat->ae}{nx id:Nat}{kt vt:TypeId}{l:List (D×D)}{K X:V->(Nat->ae)->Nat->Prop}(ho:o id= .map kt vt l)(aj:id<nx)
 (h:eI P g args (ao o id (.dZ l)) nx K X):eI P g args o nx K X:=by
 refine⟨h.1,fun M φ w vals hH hd=> ?_⟩
 obtain⟨h1,h2⟩:=vi hH (id:=id) aj ho
 have iA:(hp o nx).put [(id, .dZ l)]=hp (ao o id (.dZ l)) nx:=FQ (fun x hx=>by simp at hx;subst hx;exact aj)
 rw[iA]at h1 h2
 have hB:∀b, ¬ai M φ (hp o nx) b-> ¬ai M φ (hp (ao o id (.dZ l)) nx) b:=by
  rintro b hn (hb|⟨j,hl,hb⟩)
  ·exact hn (.inl hb)
  ·refine hn (.inr ⟨j, ?_,hb⟩)
   by_cases e:j=id
   ·subst e;show(o j).live=true;rw[ho];rfl
   ·have hl:(ao o id (.dZ l) j).live=true:=hl
    rw[ad _ _ _ _ e]at hl;exact hl
 refine(h.2 M φ w vals h1 (V.fP (H:=hp o nx) hB _ _ (fun j hj=>⟨?_,rfl,V.gP _ _ hd j hj⟩) hd)).mono ?_
 ·show im (ao o id (.dZ l) j) (o j)
  by_cases e:j=id
  ·subst e;rw[ab,ho];exact⟨fun _=>rfl,fun e he=>by cases he⟩
  ·rw[ad _ _ _ _ e];exact im.rfl' rfl
 ·rintro e w' ⟨ay,o',nx',v,k1,k2,k3⟩
  exact⟨ay,o',nx',v,k1,h2.trans k2,k3⟩
theorem eI.seal {P:Program}{g:FuncId}{args:List V}{o:Nat->ae}{nx:Nat}{K X:V->(Nat->ae)->Nat->Prop}
 (h:eI P g args o nx (fun v o' nx'=>∃x,dz o' v=some x/\K (.d x) (put o' (ck o' v.ids)) nx') X):eI P g args o nx K X:=by
 refine⟨h.1,fun M φ w vals hH hd=>(h.2 M φ w vals hH hd).mono ?_⟩
 rintro e w' ⟨ay,o',nx',v,k1,k2,k3⟩
 cases e with
 |returned val=>
  obtain⟨k4,x,k5,k6⟩:=k3
  have hu:=fun id aj=>cC v val k4 id aj
  obtain⟨f1,f2,f3,f4,f5⟩:=cG (H:=hp o' nx') k1 v.ids hu
  have iA:(hp o' nx').put (ck o' v.ids)=hp (put o' (ck o' v.ids)) nx':=FQ (fun y hy=>by
   simp only[ck,List.mem_map]at hy
   obtain⟨id,aj,rfl⟩:=hy
   exact hu id aj)
  have WZ:=f1;have W0:=f2
  rw[show ck (hp o' nx').o v.ids=ck o' v.ids from rfl,iA]at WZ W0
  have QG:∀k,bO ay ((hp o' nx').put (ck o' v.ids)) k->bO ay (hp o' nx') k:=by
   rintro k ⟨id,g1,g2⟩
   by_cases aj:id∈v.ids
   ·have:=f3 id aj
    rw[show((hp o' nx').put (ck o' v.ids)).o id=_ from this]at g1
    refine⟨id, ?_,g2⟩
    revert g1
    cases(hp o' nx').o id<;>simp[ae.fz,ae.live]
   ·have:=f4 id aj
    rw[show((hp o' nx').put (ck o' v.ids)).o id=_ from this]at g1
    exact⟨id,g1,g2⟩
  have h4:V.den (ai M ay ((hp o' nx').put (ck o' v.ids))) ay ((hp o' nx').put (ck o' v.ids)) w' v val:=
   V.jq (H:=hp o' nx') (fun k h h'=>h (h'.imp id (QG k))) v val (fun id aj=>by
     have dQ:(hp o' nx').us id:=(V.kF v val k4) id aj
     refine⟨?_,rfl,(f5 id).2 dQ⟩
     by_cases hm:id∈v.ids
     ·rw[show((hp o' nx').put (ck o' v.ids)).o id=_ from f3 id hm];exact im.fz _
     ·rw[show((hp o' nx').put (ck o' v.ids)).o id=_ from f4 id hm];exact im.rfl' rfl) k4
  have h5:=dR f1 (o:=o') v x val (fun id aj=>f3 id aj) k5 h4
  rw[show(hp o' nx').put (ck (hp o' nx').o v.ids)=hp (put o' (ck o' v.ids)) nx' from iA]at h5
  exact⟨ay,_,nx', .d x,WZ,k2.trans W0,h5,k6⟩
 |panicked ch=>exact⟨ay,o',nx',v,k1,k2,k3⟩
 |outgrown=>exact k3.elim
end Go.Proofs.YtealblliddhgiaaGreat
namespace Go.Proofs.YtealblliddhgiaaGreat
section
variable {B:Nat->Prop}{w:World}
theorem AK{l l':List (D×D)}(hl:l.Perm l'):∀ {p:List MapEntry},aH B w l p->∃p',p'.Perm p/\aH B w l' p':=by
 induction hl with
 |nil=>intro p h;exact⟨p,List.Perm.refl _,h⟩
 |cons x _ ih=>
  intro p h
  obtain⟨k,v⟩:=x
  obtain⟨e,es,rfl,h1,h2,h3⟩:=h
  obtain⟨p',g1,g2⟩:=ih h3
  exact⟨e::p',g1.cons _,_,_,rfl,h1,h2,g2⟩
 |swap x y t=>
  intro p h
  obtain⟨k,v⟩:=x
  obtain⟨k',v'⟩:=y
  obtain⟨e,es,rfl,h1,h2,e',es',rfl,kT,Ck,h3⟩:=h
  exact⟨e'::e::es',List.Perm.swap _ _ _,_,_,rfl,kT,Ck,_,_,rfl,h1,h2,h3⟩
 |trans _ _ Sp Sq=>
  intro p h
  obtain⟨l1,g1,g2⟩:=Sp h
  obtain⟨l2,g3,g4⟩:=Sq g2
  exact⟨l2,g3.trans g1,g4⟩
theorem D.DD {l l':List (D×D)}(hl:l.Perm l')(hk:nV (l.map (·.1))){v:Value}(h:D.den B w (.mp (l.map (·.1)) (l.map (·.2))) v):D.den B w (.mp (l'.map (·.1)) (l'.map (·.2))) v:=by
 obtain⟨m,es,clock,l2,h1,h2,h3,h4,h5,h6⟩:=kU h
 have hp:l2.Perm l':=h5.perm.trans hl
 obtain⟨p,g1,g2⟩:=AK hp h6
 obtain⟨g3,g4⟩:=(iM _ _).1 g2
 have MY:(l'.map (·.1)).Perm (l.map (·.1)):=(hl.map _).symm
 exact⟨m,es,clock,p,h1,h2,h3,h4, .inr ⟨g1,MY.nodup_iff.2 hk.1,fun k h=>hk.2 k (MY.mem_iff.1 h)⟩,g3,g4⟩
end
theorem cj.yL {P:Program}{f:FuncId}{ds:List D}{out:D}(h:eI P f (ds.map .d) (fun _=> .no) 0 (fun v o _=>∃x,dz o v=some x/\∀B w val,D.den B w x val->D.den B w out val) (fun _ _ _=>False)):cj P f ds (.ret [out]):=by
 refine⟨h.1,fun M w vals hM hd=> ?_⟩
 let ct:Place:=fun _=> .nilFunc
 have nE:∀b, ¬bO ct (hp (fun _=> .no) 0) b:=by rintro b ⟨id,hl,_⟩;simp[hp,ae.live]at hl
 refine(h.2 M ct w vals (kz ct hM) ((V.cd _ _).2 (D.aI (w:=w) (w':=w) (B:=M) (fun b _ hB=>⟨rfl,fun h=>h.elim hB (nE b)⟩) _ _ hd))).mono ?_
 rintro e w' ⟨ay,o',nx',v,k1,k2,k3⟩
 have EB:eF (fun _=>False) w w':=⟨k2.b8.os,k2.b8.tape,k2.b8.output,k2.b8.size,fun k hk _=>k2.b8.block k hk (nE k)⟩
 refine⟨EB, ?_⟩
 cases e with
 |outgrown=>exact k3.elim
 |panicked ch=>obtain⟨_,_,_,h⟩:=k3;exact h.elim
 |returned val=>
  obtain⟨g1,x,g2,g3⟩:=k3
  obtain⟨f1,f2,f3,f4,f5⟩:=cG k1 v.ids (fun id aj=>cC v val g1 id aj)
  have h3:=dR f1 (o:=o') v x val (fun id aj=>f3 id aj) g2 (V.aA f2 _ _ g1)
  exact g3 _ _ _ (D.aA (w:=w') (w':=w') (fun k _ hB=>⟨rfl,fun hM=>hB (.inl hM)⟩) x val h3)
end Go.Proofs.YtealblliddhgiaaGreat
namespace Go.Proofs.YtealblliddhgiaaGreat
@[reducible] def MZ (m:List (Int×D)):D:= .mp ((enc (D.int .i64) m).map (·.1)) ((enc (D.int .i64) m).map (·.2))
theorem jM(m:List (Int×D)):(((enc (D.int .i64) m).map (·.1)).zip ((enc (D.int .i64) m).map (·.2)))=enc (D.int .i64) m:=HI _ m
theorem yM{m:List (Int×D)}(h:(m.map (·.1)).Nodup):nV ((enc (D.int .i64) m).map (·.1)):=by
 have e:(enc (D.int .i64) m).map (·.1)=(m.map (·.1)).map (D.int .i64):=by simp[enc,Function.comp_def]
 rw[e]
 refine⟨?_,fun k hk=> ?_⟩
 ·have inj:∀l:List Int,l.Nodup->(l.map (D.int .i64)).Nodup:=by
   intro l
   induction l with
   |nil=>intro _;exact List.nodup_nil
   |cons x l ih=>
    intro h
    rw[List.nodup_cons]at h
    rw[List.map_cons,List.nodup_cons]
    refine⟨fun hm=> ?_,ih h.2⟩
    obtain⟨y,hy,he⟩:=List.mem_map.1 hm
    injection he with _ he
    subst he
    exact h.1 hy
  exact inj _ h
 ·obtain⟨n,_,rfl⟩:=List.mem_map.1 hk
  exact⟨n,rfl⟩
theorem yN(t:Tm)(ht:t.fits):cj Tryz.prog 71 [t.d] (.ret [MZ (eD (ju t))]):=by
 refine cj.yL (FN t ht _ _ (by repeat(first|exact hg.mono (by omega)|exact Good.nil|refine Good.ao ?_ (by omega) rfl|refine Good.ao ?_ (by omega) (dK _ _ _ (by omega))|refine Good.ao ?_ (by omega) (by simp[ae.refs,V.ag,V.refs]<;>omega))) _ _ fun o' nx' id l _ _ _ _ ho hn hm=> ?_)
 refine⟨_,by simp only[dz,ho];rfl,fun B w val h=> ?_⟩
 have hp:l.Perm (ju t):=by
  rw[<- FP hn hm]
  exact(List.mergeSort_perm _ _).symm
 have h1:(enc (D.int .i64) (eD l)).Perm (enc (D.int .i64) (eD (ju t))):=(hp.map _).map _
 refine D.DD h1 (yM ?_) h
 simpa[eD,Function.comp_def]using hn
end Go.Proofs.YtealblliddhgiaaGreat
namespace Go.Proofs.YtealblliddhgiaaGreat
theorem FR(a b:List Tm)(ha:a.length<=9223372036854775807)(hb:b.length<=9223372036854775807)(g:Nat)(h:∀x∈a,∀y∈b,cj Tryz.prog g [x.d,y.d] (.ret [.bool (gq x y)]))(o:Nat->ae)(nx:Nat)(hg:Good o nx)(K X:V->(Nat->ae)->Nat->Prop)
 (hK:∀o' nx',nx<=nx'->Good o' nx'->(∀j,j<nx->o' j=o j)->K (.d (.bool (a.length==b.length&&gO a b))) o' nx'):
 eI Tryz.prog 111 [.d (.sl (a.map Tm.d)), .d (.sl (b.map Tm.d)), .func (.func g) [] []] o nx K X:=by
 refine eI.bt mix Jj (by simp) ?_
 rw[Li]
 simp+contextual (disch:=first|omega|simp only[go_sem,false_implies]) only[go_sem,wrap64,if_pos,Nat.add_assoc,Nat.left_eq_add,Nat.add_eq_left,Nat.add_left_cancel_iff]
 refine ax (fun h1=> ?_) (fun h1=> ?_)
 ·simp+contextual (disch:=first|omega|simp only[go_sem,false_implies]) only[go_sem,wrap64,if_pos,and_self]
  have:(a.length==b.length&&gO a b)=false:=by
   have:(a.length==b.length)=false:=by
    rw[Bool.eq_false_iff];intro h
    simp at h;simp[h]at h1
   rw[this];rfl
  rw[this]at hK
  exact hK _ _ (by omega) (hg.mono (by omega)) (fun _ _=>rfl)
 ·have hl:a.length=b.length:=by simp at h1;omega
  have GO:(a.length==b.length)=true:=by simpa using hl
  rw[GO,Bool.true_and]at hK
  simp+contextual (disch:=first|omega|simp only[go_sem,false_implies]) only[go_sem,wrap64,if_pos,Nat.add_assoc,Nat.left_eq_add,Nat.add_eq_left,Nat.add_left_cancel_iff]
  refine bn (fun k:Nat=>⟨bF [.d (.sl (a.map Tm.d)), .d (.sl (b.map Tm.d)), .func (.func g) [] [], .aa, .aa, .aa, .aa, .aa, .aa, .aa, .aa, .aa, .aa, .aa, .aa, .d (.sl (a.map Tm.d)), .d (.i a.length), .d (.i k)],o,nx⟩)
   (fun k=>k<=a.length/\∀i,i<k->∀x y,a[i]? =some x->b[i]? =some y->gq x y=true) (fun k=>a.length - k) 0 ⟨Nat.zero_le _,fun i h=>by omega⟩ (cq.cN _ (Nat.le_refl _) (by omega) hg (fun _ _=>rfl) ?_) (fun k hk=> ?_)
  ·(repeat(first|exact aw|refine aq ?_|refine ah rfl ?_|refine ah (aV (aU (by omega))) ?_|refine aF rfl (by simp[V.refs,V.ag]<;>first|omega|assumption) ?_))
  simp+contextual (disch:=first|omega|simp only[go_sem,false_implies]) only[go_sem,wrap64,if_pos,and_self]
  refine ax (fun h2=> ?_) (fun h2=> ?_)
  ·simp at h2
   obtain⟨x,hx⟩:=bH h2
   obtain⟨y,hy⟩:=bH (l:=b) (k:=k) (by omega)
   simp+contextual (disch:=first|omega|simp only[go_sem,false_implies]) only[go_sem,wrap64,if_pos,hx,hy,Nat.add_assoc,Nat.left_eq_add,Nat.add_eq_left,Nat.add_left_cancel_iff]
   refine aJ (h x (List.mem_of_getElem? hx) y (List.mem_of_getElem? hy)) rfl ?_
   simp+contextual (disch:=first|omega|simp only[go_sem,false_implies]) only[go_sem,wrap64,if_pos,and_self]
   refine ax (fun h3=> ?_) (fun h3=> ?_)
   ·simp+contextual (disch:=first|omega|simp only[go_sem,false_implies]) only[go_sem,wrap64,if_pos,and_self]
    simp at h3
    have:gO a b=false:=by
     rw[Bool.eq_false_iff];intro h4
     have:=(gR _ _ hl).1 h4 k x y hx hy
     rw[h3]at this;cases this
    rw[this]at hK
    refine hK _ _ (by omega) ?_ (fun j hj=>by(repeat(first|rfl|rw[ab]|rw[ad _ _ _ _ (by omega)])))
    exact(by repeat(first|exact hg.mono (by omega)|exact Good.nil|refine Good.ao ?_ (by omega) rfl|refine Good.ao ?_ (by omega) (dK _ _ _ (by omega))|refine Good.ao ?_ (by omega) (by simp[ae.refs,V.ag,V.refs]<;>omega)))
   ·simp+contextual (disch:=first|omega|simp only[go_sem,false_implies]) only[go_sem,wrap64,if_pos,and_self]
    simp at h3
    refine aE (k+1) ⟨h2,fun i hi u v hu hv=> ?_⟩ (by omega) (cq.cN _ (Nat.le_refl _) (by omega) hg (fun j hj=>by(repeat(first|rfl|rw[ab]|rw[ad _ _ _ _ (by omega)]))) ?_)
    ·by_cases e:i=k
     ·subst e
      rw[hx]at hu;rw[hy]at hv
      injection hu with hu;injection hv with hv;subst hu;subst hv;exact h3
     ·exact hk.2 i (by omega) u v hu hv
    ·(repeat(first|exact aw|refine aq ?_|refine ah rfl ?_|refine ah (aV (aU (by omega))) ?_|refine aF rfl (by simp[V.refs,V.ag]<;>first|omega|assumption) ?_))
  ·simp+contextual (disch:=first|omega|simp only[go_sem,false_implies]) only[go_sem,wrap64,if_pos,and_self]
   simp at h2
   have:gO a b=true:=(gR _ _ hl).2 fun i x y hx hy=>hk.2 i (by have:=(List.getElem?_eq_some_iff.1 hx).1;omega) x y hx hy
   rw[this]at hK
   exact hK _ _ (by omega) (hg.mono (by omega)) (fun _ _=>rfl)
theorem HO:∀a:Tm,a.fits->∀b:Tm,b.fits->cj Tryz.prog 75 [a.d,b.d] (.ret [.bool (gq a b)]):=by
 refine Tm.gN fun a ih ha b hb=> ?_
 have M0:=(Tm.cY _).1 ha
 have D4:=(Tm.cY _).1 hb
 refine cj.bt mix Pl (by simp) ?_
 rw[Uw,oZ]
 simp+contextual (disch:=first|omega|simp only[go_sem,false_implies]) only[go_sem,wrap64,if_pos,and_self]
 refine x4 (ax (fun h1=> ?_) (fun h1=> ?_))
 ·rw[h1]
  simp+contextual (disch:=first|omega|simp only[go_sem,false_implies]) only[go_sem,wrap64,if_pos,h1]
  refine cK (FR a.kids b.kids M0.1 D4.1 75 (fun x hx y hy=>ih x hx (M0.2 x hx) y (D4.2 y hy)) _ _ (by repeat(first|exact hg.mono (by omega)|exact Good.nil|refine Good.ao ?_ (by omega) rfl|refine Good.ao ?_ (by omega) (dK _ _ _ (by omega))|refine Good.ao ?_ (by omega) (by simp[ae.refs,V.ag,V.refs]<;>omega))) _ _ fun o2 n2 m1 m2 m3=> ?_)
  simp+contextual (disch:=first|omega|simp only[go_sem,false_implies]) only[go_sem,wrap64,if_pos,h1]
 ·rw[h1]
  simp+contextual (disch:=first|omega|simp only[go_sem,false_implies]) only[go_sem,wrap64,if_pos,h1]
theorem fQ(n:Int):cj Tryz.prog 65 [.i n] (.ret [(Tm.mk 1 n []).d]):=by
 refine cj.bt mix Pg (by simp) ?_
 rw[Um]
 simp+contextual (disch:=first|omega|simp only[go_sem,false_implies]) only[go_sem,wrap64,if_pos,and_self]
 rw[Tm.pO]
 rfl
theorem LU(n:Int):cj Tryz.prog 73 [.i n] (.ret [(Tm.mk 1 n []).d]):=by
 refine cj.bt mix Pj (by simp) ?_
 rw[Uu]
 simp+contextual (disch:=first|omega|simp only[go_sem,false_implies]) only[go_sem,wrap64,if_pos,and_self]
 rw[Tm.pO]
 rfl
theorem FT(cid:Nat)(n:Int)(v:V)(o:Nat->ae)(nx:Nat)(ho:o cid= .row [.d (.i n),v])(hn:0<=n/\n<=1000000)(hg:Good o nx)(K X:V->(Nat->ae)->Nat->Prop)
 (hK:K (.d (.i n)) (ao o cid (.row [.d (.i (n+1)),v])) (nx+15)):eI Tryz.prog 142 [.ptr cid 0] o nx K X:=by
 refine eI.bt mix Jw (by simp) ?_
 rw[Lv]
 simp+contextual (disch:=first|omega|simp only[go_sem,false_implies]) only[go_sem,wrap64,if_pos,ho,Nat.add_assoc,Nat.left_eq_add,Nat.add_eq_left,Nat.add_left_cancel_iff]
 rw[show n+1 - 1=n by omega]
 exact hK
end Go.Proofs.YtealblliddhgiaaGreat
namespace Go.Proofs.YtealblliddhgiaaGreat
def lk:List (Int×Int)->Int->Option Int
 |[],_=>none
 |p::m,v=>if p.1=v then some p.2 else lk m v
mutual
def aQ:Tm->List (Int×Int)->List (Int×Int)->Int->Tm×List (Int×Int)×Int
 | .mk op n kids,bd,fr,nx=>
   if op=1 then(match lk bd n with
    |some k=>(.mk 1 k [],fr,nx)
    |none=>match lk fr n with
     |some k=>(.mk 1 k [],fr,nx)
     |none=>(.mk 1 nx [],fr++[(n,nx)],nx+1))
   else if op=8 then(.mk 8 nx (aM kids bd ((n,nx)::bd) 0 fr (nx+1)).1,(aM kids bd ((n,nx)::bd) 0 fr (nx+1)).2)
   else(.mk op n (aM kids bd bd 0 fr nx).1,(aM kids bd bd 0 fr nx).2)
def aM:List Tm->List (Int×Int)->List (Int×Int)->Nat->List (Int×Int)->Int->List Tm×List (Int×Int)×Int
 |[],_,_,_,fr,nx=>([],fr,nx)
 |k::l,bd,inn,i,fr,nx=>
  ((aQ k (if i=1 then inn else bd) fr nx).1::(aM l bd inn (i+1) (aQ k (if i=1 then inn else bd) fr nx).2.1 (aQ k (if i=1 then inn else bd) fr nx).2.2).1,
    (aM l bd inn (i+1) (aQ k (if i=1 then inn else bd) fr nx).2.1 (aQ k (if i=1 then inn else bd) fr nx).2.2).2)
end
theorem eB(t:Tm)(bd fr:List (Int×Int))(nx:Int):aQ t bd fr nx=if t.op=1 then(match lk bd t.n with
 |some k=>(.mk 1 k [],fr,nx)
 |none=>match lk fr t.n with
  |some k=>(.mk 1 k [],fr,nx)
  |none=>(.mk 1 nx [],fr++[(t.n,nx)],nx+1))
 else if t.op=8 then(.mk 8 nx (aM t.kids bd ((t.n,nx)::bd) 0 fr (nx+1)).1,(aM t.kids bd ((t.n,nx)::bd) 0 fr (nx+1)).2)
 else(.mk t.op t.n (aM t.kids bd bd 0 fr nx).1,(aM t.kids bd bd 0 fr nx).2):=by cases t;rfl
theorem cZ:∀ (t:Tm) (bd fr:List (Int×Int)) (nx:Int),nx<=(aQ t bd fr nx).2.2/\(aQ t bd fr nx).2.2<=nx+t.sz:=by
 refine Tm.gN fun t ih bd fr nx=> ?_
 have hs:∀ (l:List Tm) (bd inn fr:List (Int×Int)) (i:Nat) (nx:Int),(∀k∈l,k∈t.kids)->nx<=(aM l bd inn i fr nx).2.2/\(aM l bd inn i fr nx).2.2<=nx+jK l:=by
  intro l
  induction l with
  |nil=>intro bd inn fr i nx _;simp[aM,jK]
  |cons k l oY=>
   intro bd inn fr i nx hk
   simp only[aM,cE]
   have h1:=ih k (hk k (by simp)) (if i=1 then inn else bd) fr nx
   have h2:=oY bd inn (aQ k (if i=1 then inn else bd) fr nx).2.1 (i+1) (aQ k (if i=1 then inn else bd) fr nx).2.2 (fun x hx=>hk x (by simp[hx]))
   omega
 rw[eB,Tm.fh]
 have h0:=hs t.kids bd bd fr 0 nx (fun _ h=>h)
 have h8:=hs t.kids bd ((t.n,nx)::bd) fr 0 (nx+1) (fun _ h=>h)
 split
 ·split
  ·simp only;omega
  ·split<;>(simp only;omega)
 ·split<;>(simp only;omega)
abbrev m6(m:List (Int×Int)):Prop:=(m.map (·.1)).Nodup
theorem BR{m:List (Int×Int)}{v:Int}:lk m v=none↔v∉m.map (·.1):=by
 induction m with
 |nil=>simp[lk]
 |cons p m ih=>
  simp only[lk,List.map_cons,List.mem_cons,not_or]
  by_cases h:p.1=v
  ·simp[h]
  ·rw[if_neg h,ih]
   exact⟨fun h2=>⟨fun e=>h e.symm,h2⟩,fun h2=>h2.2⟩
theorem BS{m:List (Int×Int)}{v k:Int}(hk:m6 m):lk m v=some k↔(v,k)∈m:=by
 induction m with
 |nil=>simp[lk]
 |cons p m ih=>
  rw[m6,List.map_cons,List.nodup_cons]at hk
  simp only[lk,List.mem_cons]
  by_cases h:p.1=v
  ·rw[if_pos h]
   constructor
   ·intro e;injection e with e;exact .inl (by rw[<- h, <- e])
   ·rintro(e|e)
    ·rw[<- e]
    ·exact absurd (h ▸ List.mem_map.2 ⟨_,e,rfl⟩) hk.1
  ·rw[if_neg h,ih hk.2]
   constructor
   ·exact .inr
   ·rintro(e|e)
    ·exact absurd (by rw[<- e]) h
    ·exact e
theorem HP{m m':List (Int×Int)}(hk:m6 m)(h:m.Perm m')(v:Int):lk m v=lk m' v:=by
 have H7:m6 m':=(h.map _).nodup_iff.1 hk
 cases h1:lk m' v with
 |none=>rw[BR]at h1|-;rwa [(h.map _).mem_iff]
 |some k=>rw[BS H7]at h1;rw[BS hk];exact h.mem_iff.2 h1
def ints(m:List (Int×Int)):List (Int×D):=m.map fun p=>(p.1,D.i p.2)
theorem pW:∀ (m:List (Int×Int)) (v:Int) (i:Nat),(match fg v (ints m) i with|some (_,x)=>some x|none=>none)=(lk m v).map D.i
 |[],v,i=>rfl
 |p::m,v,i=>by
  have ih:=pW m v (i+1)
  simp only[ints,List.map_cons,fg,lk]at ih|-
  by_cases h:v=p.1
  ·subst h;simp
  ·have h2: ¬p.1=v:=fun e=>h e.symm
   simp only[beq_iff_eq,h,h2,if_false]
   exact ih
theorem pa{m:List (Int×Int)}{v k:Int}(h:lk m v=some k):∃j,fg v (ints m) 0=some (j,D.i k):=by
 have:=pW m v 0
 rw[h]at this
 cases ha:fg v (ints m) 0 with
 |none=>rw[ha]at this;cases this
 |some p=>obtain⟨j,x⟩:=p;rw[ha]at this;simp at this;exact⟨j,by rw[this]⟩
theorem lA{m:List (Int×Int)}{v:Int}(h:lk m v=none):fg v (ints m) 0=none:=by
 have:=pW m v 0
 rw[h]at this
 cases ha:fg v (ints m) 0 with
 |none=>rfl
 |some p=>obtain⟨j,x⟩:=p;rw[ha]at this;cases this
theorem sU{m:List (Int×Int)}{v k:Int}(h:lk m v=none):wx v (D.i k) (ints m)=ints (m++[(v,k)]):=by
 unfold wx;rw[lA h];simp[ints]
end Go.Proofs.YtealblliddhgiaaGreat
namespace Go.Proofs.YtealblliddhgiaaGreat
def kM:List (Int×Tm)->Int->Option Tm
 |[],_=>none
 |p::l,v=>if p.1=v then some p.2 else kM l v
mutual
def rb:Tm->List Int
 | .mk op n kids=>(if op=1\/op=8 then [n]else [])++tM kids
def tM:List Tm->List Int
 |[]=>[]
 |k::l=>rb k++tM l
end
theorem sV(t:Tm):rb t=(if t.op=1\/t.op=8 then [t.n]else [])++tM t.kids:=by cases t;rfl
def dW(b:List (Int×Tm))(t:Tm):List Int:=rb t++b.flatMap fun p=>p.1::rb p.2
def wD(l:List Int):Nat->Int->Int
 |0,n=>n
 |f+1,n=>if n∈l then wD l f (n+1)else n
def ey(l:List Int):Int:=wD l (l.length+1) 0
theorem pX:∀ (n:Nat) (l:List Int),(∀k:Nat,k<n->(k:Int)∈l)->n<=l.length
 |0,l,_=>Nat.zero_le _
 |n+1,l,h=>by
  have h1:(n:Int)∈l:=h n (by omega)
  have h2:=pX n (l.erase (n:Int)) (fun k hk=>(List.mem_erase_of_ne (by omega)).2 (h k (by omega)))
  rw[List.length_erase_of_mem h1]at h2
  have:0<l.length:=List.length_pos_of_mem h1
  omega
theorem qx(l:List Int):∀ (f:Nat) (n:Nat),(∀k:Nat,k<n->(k:Int)∈l)->n+f=l.length+1->
 ∃m:Nat,wD l f n=m/\(m:Int)∉l/\(∀k:Nat,k<m->(k:Int)∈l)/\m<=l.length
 |0,n,h,e=>by have:=pX n l h;omega
 |f+1,n,h,e=>by
  simp only[wD]
  split
  ·rename_i hm
   have:=qx l f (n+1) (fun k hk=>by
    by_cases e:k=n
    ·subst e;exact hm
    ·exact h k (by omega)) (by omega)
   simpa using this
  ·rename_i hm
   exact⟨n,rfl,hm,h,pX n l h⟩
theorem jN(l:List Int):∃m:Nat,ey l=m/\(m:Int)∉l/\(∀k:Nat,k<m->(k:Int)∈l)/\m<=l.length:=qx l _ 0 (by omega) (by omega)
theorem DE{l:List Int}{m:Nat}(h1:(m:Int)∉l)(h2:∀k:Nat,k<m->(k:Int)∈l):ey l=m:=by
 obtain⟨n,e,n1,n2,_⟩:=jN l
 rw[e]
 rcases Nat.lt_trichotomy n m with h|h|h
 ·exact absurd (h2 n h) n1
 ·rw[h]
 ·exact absurd (n2 m h) h1
theorem wE{l l':List Int}(h:∀v,v∈l↔v∈l'):ey l=ey l':=by
 obtain⟨n,e,n1,n2,_⟩:=jN l'
 rw[e]
 exact DE (fun h1=>n1 ((h _).1 h1)) (fun k hk=>(h _).2 (n2 k hk))
def lB(inner:List (Int×Tm))(body:Tm)(n:Int):Bool:=inner.any fun p=>jL p.1 body&&jL n p.2
def cg(b:List (Int×Tm))(n:Int):List (Int×Tm):=b.filter fun p=>p.1!=n
def bA:Nat->List (Int×Tm)->Tm->Tm
 |0,_,t=>t
 |f+1,b,t=>if t.op=1 then(match kM b t.n with|some x=>x|none=>t)
  else if t.op=8 then(match t.kids with
   |[a,body]=>if lB (cg b t.n) body t.n=true then .mk 8 (ey (dW b t)) [bA f b a,bA f (cg b t.n) (bA f [(t.n, .mk 1 (ey (dW b t)) [])] body)]
    else .mk 8 t.n [bA f b a,bA f (cg b t.n) body]
   |_=>t)
  else .mk t.op t.n (t.kids.map (bA f b))
mutual
def Tm.wf:Tm->Prop
 | .mk op _ kids=>(op=1->kids=[])/\(op=8->kids.length=2)/\Tm.Jz kids
def Tm.Jz:List Tm->Prop
 |[]=>True
 |k::l=>k.wf/\Tm.Jz l
end
theorem Tm.BT:∀l:List Tm,Tm.Jz l↔∀k∈l,k.wf
 |[]=>by simp[Tm.Jz]
 |k::l=>by simp[Tm.Jz,Tm.BT l]
theorem Tm.gw (t:Tm):t.wf↔(t.op=1->t.kids=[])/\(t.op=8->t.kids.length=2)/\∀k∈t.kids,k.wf:=by cases t;simp[Tm.wf,Tm.BT,Tm.op,Tm.kids]
theorem lC{t:Tm}(h:t.kids.length=2):∃a b,t.kids=[a,b]:=by
 match hk:t.kids with
 |[a,b]=>exact⟨a,b,rfl⟩
 |[]=>rw[hk]at h;cases h
 |[_]=>rw[hk]at h;cases h
 |_::_::_::_=>rw[hk]at h;simp at h
theorem mE{b:List (Int×Tm)}{v:Int}:kM b v=none↔v∉b.map (·.1):=by
 induction b with
 |nil=>simp[kM]
 |cons p l ih=>
  simp only[kM,List.map_cons,List.mem_cons,not_or]
  split
  ·rename_i h;simp[h]
  ·rename_i h;rw[ih];exact⟨fun h2=>⟨fun e=>h e.symm,h2⟩,fun h2=>h2.2⟩
theorem iJ{b:List (Int×Tm)}{v:Int}{x:Tm}(h:kM b v=some x):(v,x)∈b:=by
 induction b with
 |nil=>cases h
 |cons p l ih=>
  simp only[kM]at h
  split at h
  ·rename_i e;injection h with h;subst h;subst e;exact List.mem_cons_self ..
  ·exact List.mem_cons_of_mem _ (ih h)
theorem yO{b:List (Int×Tm)}(hb:(b.map (·.1)).Nodup){v:Int}{x:Tm}:kM b v=some x↔(v,x)∈b:=by
 refine⟨iJ,fun h=> ?_⟩
 induction b with
 |nil=>cases h
 |cons p l ih=>
  rw[List.map_cons,List.nodup_cons]at hb
  simp only[kM]
  rcases List.mem_cons.1 h with e|h
  ·subst e;simp
  ·rw[if_neg (fun e=>hb.1 (by rw[e];exact List.mem_map.2 ⟨_,h,rfl⟩)),ih hb.2 h]
theorem FU{b b':List (Int×Tm)}(hb:(b.map (·.1)).Nodup)(h:b.Perm b')(v:Int):kM b v=kM b' v:=by
 have D4:(b'.map (·.1)).Nodup:=(h.map _).nodup_iff.1 hb
 cases h2:kM b' v with
 |none=>rw[mE]at h2|-;exact fun h3=>h2 ((h.map _).mem_iff.1 h3)
 |some x=>rw[yO D4]at h2;rw[yO hb];exact h.mem_iff.2 h2
theorem lD{b:List (Int×Tm)}(n:Int)(hb:(b.map (·.1)).Nodup):((cg b n).map (·.1)).Nodup:=hb.sublist (List.filter_sublist.map _)
theorem yP{α:Type}{l l':List α}(f:α->Bool)(h:l.Perm l'):l.any f=l'.any f:=by
 rw[Bool.eq_iff_iff,List.any_eq_true,List.any_eq_true]
 exact⟨fun⟨x,hx,e⟩=>⟨x,h.mem_iff.1 hx,e⟩,fun⟨x,hx,e⟩=>⟨x,h.mem_iff.2 hx,e⟩⟩
theorem mQ{b:List (Int×Tm)}{t:Tm}{v:Int}:v∈dW b t↔v∈rb t\/∃p∈b,v=p.1\/v∈rb p.2:=by
 simp only[dW,List.mem_append,List.mem_flatMap,List.mem_cons]
theorem AL{b b':List (Int×Tm)}(h:b.Perm b')(t:Tm):ey (dW b t)=ey (dW b' t):=by
 refine wE fun v=> ?_
 rw[mQ,mQ]
 exact or_congr Iff.rfl ⟨fun⟨p,hp,e⟩=>⟨p,h.mem_iff.1 hp,e⟩,fun⟨p,hp,e⟩=>⟨p,h.mem_iff.2 hp,e⟩⟩
theorem kK:∀ (f:Nat) (t:Tm) {b b':List (Int×Tm)},(b.map (·.1)).Nodup->b.Perm b'->bA f b t=bA f b' t
 |0,_,_,_,_,_=>rfl
 |f+1,t,b,b',hb,h=>by
  have hi:(cg b t.n).Perm (cg b' t.n):=h.filter _
  have hc:∀body,lB (cg b t.n) body t.n=lB (cg b' t.n) body t.n:=fun body=>yP _ hi
  simp only[bA]
  rw[FU hb h]
  split
  ·rfl
  ·split
   ·split
    ·rename_i a body _
     rw[hc,AL h,kK f a hb h]
     rw[kK f _ (lD _ hb) hi]
     rw[kK f body (lD _ hb) hi]
    ·rfl
   ·rw[List.map_congr_left fun k _=>kK f k hb h]
theorem iK:∀ (f:Nat) (t:Tm) (b:List (Int×Tm)),t.wf->t.cc<=f->(∀p∈b,p.2.op=1/\p.2.kids=[])->(bA f b t).cc=t.cc/\(bA f b t).wf/\(bA f b t).sz=t.sz
 |0,t,_,_,h,_=>by cases t;simp only[Tm.cc]at h;omega
 |f+1,t,b,hw,hf,hb=>by
  have ig:=(Tm.gw t).1 hw
  have leaf:∀x:Tm,x.op=1->x.kids=[]->x.cc=1/\x.wf/\x.sz=1:=by
   intro x h1 h2
   obtain⟨op,n,kids⟩:=x
   simp only[Tm.op,Tm.kids]at h1 h2
   subst h1;subst h2
   refine⟨by simp[Tm.cc,Tm.dF],by simp[Tm.wf,Tm.Jz],by rw[Tm.fh];rfl⟩
  have QW:∀p∈cg b t.n,p.2.op=1/\p.2.kids=[]:=fun p hp=>hb p (List.mem_filter.1 hp).1
  have one:∀m:Int,∀p∈[(t.n,Tm.mk 1 m [])],p.2.op=1/\p.2.kids=[]:=by intro m p hp;simp at hp;subst hp;exact⟨rfl,rfl⟩
  simp only[bA]
  split
  ·rename_i h1
   have l1:=leaf t h1 (ig.1 h1)
   split
   ·rename_i x hx
    have:=hb _ (iJ hx)
    have l2:=leaf x this.1 this.2
    exact⟨l2.1.trans l1.1.symm,l2.2.1,l2.2.2.trans l1.2.2.symm⟩
   ·exact⟨rfl,hw,rfl⟩
  ·split
   ·rename_i h8
    obtain⟨a,body,hk⟩:=lC (ig.2.1 h8)
    have ha:a∈t.kids:=by rw[hk];simp
    have j6:body∈t.kids:=by rw[hk];simp
    have g1:=Tm.dc ha
    have g2:=Tm.dc j6
    have e1:=iK f a b (ig.2.2 a ha) (by omega) hb
    have e2:=iK f body _ (ig.2.2 body j6) (by omega) QW
    have e3:=fun m=>iK f body _ (ig.2.2 body j6) (by omega) (one m)
    have e4:=fun m=>iK f (bA f [(t.n, .mk 1 m [])] body) _ (e3 m).2.1 (by rw[(e3 m).1];omega) QW
    have fin:∀ (n:Int) (x y:Tm),x.cc=a.cc->x.wf->x.sz=a.sz->y.cc=body.cc->y.wf->y.sz=body.sz->(Tm.mk 8 n [x,y]).cc=t.cc/\(Tm.mk 8 n [x,y]).wf/\(Tm.mk 8 n [x,y]).sz=t.sz:=by
     intro n x y q1 q2 q3 q4 q5 q6
     rw[Tm.dg,Tm.dg t,Tm.fh,Tm.fh t,hk]
     simp only[Tm.kids,kI,cE,q1,q3,q4,q6]
     exact⟨trivial,by simp[Tm.wf,Tm.Jz,q2,q5],trivial⟩
    rw[hk]
    simp only
    split
    ·exact fin _ _ _ e1.1 e1.2.1 e1.2.2 ((e4 _).1.trans (e3 _).1) (e4 _).2.1 ((e4 _).2.2.trans (e3 _).2.2)
    ·exact fin _ _ _ e1.1 e1.2.1 e1.2.2 e2.1 e2.2.1 e2.2.2
   ·rename_i h1 h8
    have ih:∀k∈t.kids,(bA f b k).cc=k.cc/\(bA f b k).wf/\(bA f b k).sz=k.sz:=fun k hk=>by
     have:=Tm.dc hk
     exact iK f k b (ig.2.2 k hk) (by omega) hb
    have hl:∀l:List Tm,(∀k∈l,k∈t.kids)->Tm.dF (l.map (bA f b))=Tm.dF l/\jK (l.map (bA f b))=jK l:=by
     intro l
     induction l with
     |nil=>intro _;exact⟨rfl,rfl⟩
     |cons k l oY=>
      intro h
      have i1:=ih k (h k (by simp))
      have i2:=oY fun x hx=>h x (by simp[hx])
      simp only[List.map_cons,kI,cE,i1.1,i1.2.2,i2.1,i2.2]
      exact⟨trivial,trivial⟩
    have:=hl t.kids fun _ h=>h
    rw[Tm.dg,Tm.dg t,Tm.fh,Tm.fh t,Tm.gw]
    refine⟨by show 1+Tm.dF (t.kids.map (bA f b))=_;rw[this.1],⟨fun h=>absurd h h1,fun h=>absurd h h8,fun k hk=> ?_⟩,by show 1+jK (t.kids.map (bA f b))=_;rw[this.2]⟩
    obtain⟨x,hx,rfl⟩:=List.mem_map.1 hk
    exact(ih x hx).2.1
theorem dH:∀ (f f':Nat) (t:Tm) (b:List (Int×Tm)),t.wf->t.cc<=f->t.cc<=f'->bA f b t=bA f' b t
 |0,_,t,_,_,h,_=>by cases t;simp only[Tm.cc]at h;omega
 |_,0,t,_,_,_,h=>by cases t;simp only[Tm.cc]at h;omega
 |f+1,f'+1,t,b,hw,h1,h2=>by
  have ig:=(Tm.gw t).1 hw
  simp only[bA]
  split
  ·rfl
  ·split
   ·rename_i h8
    obtain⟨a,body,hk⟩:=lC (ig.2.1 h8)
    have ha:a∈t.kids:=by rw[hk];simp
    have j6:body∈t.kids:=by rw[hk];simp
    have g1:=Tm.dc ha
    have g2:=Tm.dc j6
    rw[hk]
    simp only
    have e0:=fun m=>iK f' body [(t.n, .mk 1 m [])] (ig.2.2 body j6) (by omega) (by intro p hp;simp at hp;subst hp;exact⟨rfl,rfl⟩)
    rw[dH f f' a b (ig.2.2 a ha) (by omega) (by omega),dH f f' body (cg b t.n) (ig.2.2 body j6) (by omega) (by omega),
     dH f f' body [(t.n, .mk 1 (ey (dW b t)) [])] (ig.2.2 body j6) (by omega) (by omega),
     dH f f' (bA f' [(t.n, .mk 1 (ey (dW b t)) [])] body) (cg b t.n) (e0 _).2.1 (by rw[(e0 _).1];omega) (by rw[(e0 _).1];omega)]
   ·rw[List.map_congr_left fun k hk=>dH f f' k b (ig.2.2 k hk) (by have:=Tm.dc hk;omega) (by have:=Tm.dc hk;omega)]
theorem mF:∀ (f:Nat) (t:Tm),t.wf->bA f [] t=t
 |0,_,_=>rfl
 |f+1,t,hw=>by
  have ig:=(Tm.gw t).1 hw
  simp only[bA]
  split
  ·rfl
  ·split
   ·rename_i h8
    obtain⟨a,body,hk⟩:=lC (ig.2.1 h8)
    rw[hk]
    simp only[cg,List.filter_nil,lB,List.any_nil,Bool.false_eq_true,if_false]
    rw[mF f a (ig.2.2 a (by rw[hk];simp)),mF f body (ig.2.2 body (by rw[hk];simp)), <- hk, <- h8]
    exact Tm.eta t
   ·rw[List.map_congr_left fun k hk=>mF f k (ig.2.2 k hk),List.map_id']
    exact Tm.eta t
end Go.Proofs.YtealblliddhgiaaGreat
namespace Go.Proofs.YtealblliddhgiaaGreat
end Go.Proofs.YtealblliddhgiaaGreat
namespace Go.Proofs.YtealblliddhgiaaGreat
def AM(t:Tm):Bool:=t.op==1||t.op==8
def jO(l:List Int)(x:Tm×Int):List Int:=if AM x.1=true then sR l x.1.n else l
theorem sW{l:List Tm}{v:Int}:v∈tM l↔∃k∈l,v∈rb k:=by
 induction l with
 |nil=>simp[tM]
 |cons k l ih=>simp[tM,ih]
theorem LV:∀ (t:Tm) (d v:Int),v∈rb t↔∃x∈pre t d,AM x.1=true/\x.1.n=v:=by
 refine Tm.gN fun t ih d v=> ?_
 rw[sV,ll,List.mem_append,sW]
 constructor
 ·rintro(h|⟨k,hk,h⟩)
  ·split at h
   ·rename_i h1
    simp at h
    exact⟨_,List.mem_cons_self ..,by simpa[AM]using h1,h.symm⟩
   ·cases h
  ·obtain⟨x,hx,e⟩:=(ih k hk (d+1) v).1 h
   exact⟨x,List.mem_cons_of_mem _ (List.mem_flatMap.2 ⟨k,hk,hx⟩),e⟩
 ·rintro⟨x,hx,h1,h2⟩
  rcases List.mem_cons.1 hx with rfl|hx
  ·left
   rw[if_pos (by simpa[AM]using h1)]
   simp[h2]
  ·obtain⟨k,hk,hx⟩:=List.mem_flatMap.1 hx
   exact .inr ⟨k,hk,(ih k hk (d+1) v).2 ⟨x,hx,h1,h2⟩⟩
theorem BU:∀ (L:List (Tm×Int)) (l:List Int),l.Nodup->(aS (uR (fun _=>none) jO) l L).1.Nodup/\∀v,v∈(aS (uR (fun _=>none) jO) l L).1↔v∈l\/∃x∈L,AM x.1=true/\x.1.n=v
 |[],l,h=>by simp[aS,h]
 |x::L,l,h=>by
  have h1:(jO l x).Nodup:=by
   unfold jO;split
   ·exact ly _ h
   ·exact h
  obtain⟨g1,g2⟩:=BU L (jO l x) h1
  have e:aS (uR (fun _=>none) jO) l (x::L)=aS (uR (fun _=>none) jO) (jO l x) L:=by simp[aS,uR]
  rw[e]
  refine⟨g1,fun v=> ?_⟩
  rw[g2]
  unfold jO
  split
  ·rename_i hx
   rw[o9]
   constructor
   ·rintro((h|rfl)|⟨y,hy,e⟩)
    ·exact .inl h
    ·exact .inr ⟨x,List.mem_cons_self ..,hx,rfl⟩
    ·exact .inr ⟨y,List.mem_cons_of_mem _ hy,e⟩
   ·rintro(h|⟨y,hy,e1,e2⟩)
    ·exact .inl (.inl h)
    ·rcases List.mem_cons.1 hy with rfl|hy
     ·exact .inl (.inr e2.symm)
     ·exact .inr ⟨y,hy,e1,e2⟩
  ·rename_i hx
   constructor
   ·rintro(h|⟨y,hy,e⟩)
    ·exact .inl h
    ·exact .inr ⟨y,List.mem_cons_of_mem _ hy,e⟩
   ·rintro(h|⟨y,hy,e1,e2⟩)
    ·exact .inl h
    ·rcases List.mem_cons.1 hy with rfl|hy
     ·exact absurd e1 hx
     ·exact .inr ⟨y,hy,e1,e2⟩
theorem sX(t:Tm)(ht:t.fits)(hd:t.cc<=900000)(o:Nat->ae)(nx id:Nat)(l:List Int)(hg:Good o nx)(ho:o id=lQ l)(hl:l.Nodup)(K X:V->(Nat->ae)->Nat->Prop)
 (hK:QV id (fun l'=>l'.Nodup/\∀n,n∈l'↔n∈l\/n∈rb t) o nx K):eI Tryz.prog 117 [.mp id, .d t.d] o nx K X:=by
 have aj:id<nx:=hg.lt (by rw[ho];exact ae.noConfusion)
 refine eI.bt mix Jo (by simp) ?_
 rw[Ln]
 have y1:id≠nx:=by omega
 have y2:∀k,id≠nx+k:=fun k=>by omega
 simp+contextual (disch:=first|omega|simp only[go_sem,false_implies]) only[go_sem,wrap64,if_pos,Nat.add_assoc,Nat.left_eq_add,Nat.add_eq_left,Nat.add_left_cancel_iff]
 refine gK (yB t _ _ _ _ ?_)
 simp+contextual (disch:=first|omega|simp only[go_sem,false_implies]) only[go_sem,wrap64,if_pos,Nat.add_assoc,Nat.left_eq_add,Nat.add_eq_left,Nat.add_left_cancel_iff]
 have hG:∀j,j<nx+7->ao (ao (ao o nx (.row [.mp id])) (nx+1) (.row t.row)) (nx+3) (.row t.row) j=ao (ao (ao (ao o nx (.row [.mp id])) (nx+1) (.row t.row)) (nx+3) (.row t.row)) id (lQ l) j:=by
  intro j _
  by_cases e:j=id
  ·subst e;(repeat(first|rfl|rw[ab]|rw[ad _ _ _ _ (by omega)]));exact ho
  ·rw[ad _ _ _ _ e]
 refine qu (σ:=List Int) t ht hd [.aa, .aa, .ptr nx 0] ?_ (by decide) rfl (by repeat(first|exact hg.mono (by omega)|exact Good.nil|refine Good.ao ?_ (by omega) rfl|refine Good.ao ?_ (by omega) (dK _ _ _ (by omega))|refine Good.ao ?_ (by omega) (by simp[ae.refs,V.ag,V.refs]<;>omega))) (by simp[V.ag,V.refs]) (ab _ _ _)
  (fun s=>ao (ao (ao (ao o nx (.row [.mp id])) (nx+1) (.row t.row)) (nx+3) (.row t.row)) id (lQ s)) (fun _=>none) jO (fun _=>True) l trivial rfl hG (fun _ _ _ _ _ _=>trivial) ?_ ?_
 ·(repeat(first|exact uQ|refine sI ?_|refine BE rfl ?_))
 ·intro L hL dK x hx s' _ _ o3 n3 hI hn RU K' X' gC
  simp only[sc]
  have hg:=hI.cQ
  have hle:=hI.le
  have q1:o3 nx= .row [.mp id]:=by rw[hI.eq nx (by omega)];(repeat(first|rfl|rw[ab]|rw[ad _ _ _ _ (by omega)]))
  have q2:o3 id=lQ s':=by rw[hI.eq id (by omega)];(repeat(first|rfl|rw[ab]|rw[ad _ _ _ _ (by omega)]))
  have z1:nx≠n3:=by omega
  have z2:∀k,nx≠n3+k:=fun k=>by omega
  have z3:id≠n3:=by omega
  have z4:∀k,id≠n3+k:=fun k=>by omega
  simp+contextual (disch:=first|omega|simp only[go_sem,false_implies]) only[go_sem,wrap64,if_pos,and_self]
  refine yq hL (pd:=none) ?_ ?_
  ·(repeat(first|rfl|rw[ab]|rw[ad _ _ _ _ (by omega)]))
   exact RU
  simp+contextual (disch:=first|omega|simp only[go_sem,false_implies]) only[go_sem,wrap64,if_pos,q1,q2]
  have same:∀ (o':Nat->ae) (n':Nat) (l:List Int),Good o' n'->n3<=n'->(∀j,j<nx+7->o' j=ao o3 id (lQ l) j)->gu (nx+7) (ao (ao (ao (ao o nx (.row [.mp id])) (nx+1) (.row t.row)) (nx+3) (.row t.row)) id (lQ l)) o' n':=fun o' n' l k1 k2 k3=>⟨k1,by omega,fun j hj=>by
   rw[k3 j hj]
   by_cases e:j=id
   ·subst e;rw[ab,ab]
   ·rw[ad _ _ _ _ e,ad _ _ _ _ e,hI.eq j hj,ad _ _ _ _ e]⟩
  refine ax (fun h3=> ?_) (fun h3=> ?_)
  ·have hp:jO s' x=sR s' x.1.n:=by unfold jO AM;rw[if_pos h3]
   rw[hp]at gC
   simp+contextual (disch:=first|omega|simp only[go_sem,false_implies]) only[go_sem,wrap64,if_pos,q1,q2,z1,z2,z3,z4,Nat.add_assoc,Nat.left_eq_add,Nat.add_eq_left,Nat.add_left_cancel_iff]
   refine gC _ _ _ .busy none (by omega) (same _ _ _ (by repeat(first|exact hg.mono (by omega)|exact Good.nil|refine Good.ao ?_ (by omega) rfl|refine Good.ao ?_ (by omega) (dK _ _ _ (by omega))|refine Good.ao ?_ (by omega) (by simp[ae.refs,V.ag,V.refs]<;>omega))) (by omega) fun j hj=> ?_) (by(repeat(first|rfl|rw[ab]|rw[ad _ _ _ _ (by omega)]))) (fun j h3 h4=>by(repeat(first|rfl|rw[ab]|rw[ad _ _ _ _ (by omega)])))
   by_cases e:j=id
   ·subst e;(repeat(first|rfl|rw[ab]|rw[ad _ _ _ _ (by omega)]))
   ·(repeat(first|rfl|rw[ab]|rw[ad _ _ _ _ (by omega)]))
  ·have hp:jO s' x=s':=by unfold jO AM;rw[if_neg (by simpa using h3)]
   rw[hp]at gC
   simp+contextual (disch:=first|omega|simp only[go_sem,false_implies]) only[go_sem,wrap64,if_pos,and_self]
   refine gC _ _ _ .busy none (by omega) (same _ _ _ (by repeat(first|exact hg.mono (by omega)|exact Good.nil|refine Good.ao ?_ (by omega) rfl|refine Good.ao ?_ (by omega) (dK _ _ _ (by omega))|refine Good.ao ?_ (by omega) (by simp[ae.refs,V.ag,V.refs]<;>omega))) (by omega) fun j hj=> ?_) (by(repeat(first|rfl|rw[ab]|rw[ad _ _ _ _ (by omega)]))) (fun j h3 h4=>by(repeat(first|rfl|rw[ab]|rw[ad _ _ _ _ (by omega)])))
   by_cases e:j=id
   ·subst e;(repeat(first|rfl|rw[ab]|rw[ad _ _ _ _ (by omega)]))
    exact q2
   ·(repeat(first|rfl|rw[ab]|rw[ad _ _ _ _ (by omega)]))
 ·intro o' n' hI
  have hle:=hI.le
  simp only[vA]
  simp+contextual (disch:=first|omega|simp only[go_sem,false_implies]) only[go_sem,wrap64,if_pos,and_self]
  obtain⟨g1,g2⟩:=BU (pre t 1) l hl
  refine hK _ _ _ (by omega) hI.cQ (fun j h1 h2=> ?_) (by rw[hI.eq id (by omega),ab]) ⟨g1,fun v=> ?_⟩
  ·rw[hI.eq j (by omega)];(repeat(first|rfl|rw[ab]|rw[ad _ _ _ _ (by omega)]))
  ·rw[g2 v,LV t 1 v]
end Go.Proofs.YtealblliddhgiaaGreat
namespace Go.Proofs.YtealblliddhgiaaGreat
end Go.Proofs.YtealblliddhgiaaGreat
namespace Go.Proofs.YtealblliddhgiaaGreat
theorem BV{v op n:Int}(h:op≠8):∀ (l:List Tm) (i:Nat),pU v op n l i=l.any (jL v)
 |[],i=>rfl
 |k::l,i=>by
  have:(op==8)=false:=by simpa using h
  simp[pU,BV h l,this]
theorem FV{s:bP}{t:Tm}(h:bp s t=true)(h1:t.op=1):t.kids=[]:=by
 simp[bp,h1]at h
 exact h.1
end Go.Proofs.YtealblliddhgiaaGreat
