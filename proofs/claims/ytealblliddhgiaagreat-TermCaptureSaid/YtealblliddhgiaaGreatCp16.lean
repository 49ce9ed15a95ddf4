/-
  A PART OF THE PROOF. Conditions: none.
-/
import Derived.Shelf.Sort.Plain
import Derived.Shelf.Slices.In.SortNone
import Derived.Test.YtealblliddhgiaaGreatCp15
set_option linter.unusedSimpArgs false
set_option linter.unusedVariables false
namespace Go.Proofs.YtealblliddhgiaaGreat
def DE(l:List (D×D)):List (Int×D):=l.map fun p=>((match p.1 with| .int _ n=>n|_=>0),p.2)
def Ms(l:List (D×D)):Bool:=l.all fun p=>match p.1 with| .int .i64 _=>true|_=>false
@[go_sem] theorem SL (m:List (Int×D)):DE (enc (D.int .i64) m)=m:=by
  unfold DE enc;rw[List.map_map];simp[Function.comp_def]
@[go_sem] theorem SM (m:List (Int×D)):Ms (enc (D.int .i64) m)=true:=by simp[Ms,enc]
@[go_sem] theorem SN:Ms []=true:=rfl
@[go_sem] theorem SO:DE []=[]:=rfl
theorem wM:∀ {l:List (D×D)},Ms l=true->enc (D.int .i64) (DE l)=l
 |[],_=>rfl
 |(k,x)::l,h=>by
  simp only[Ms,List.all_cons,Bool.and_eq_true]at h
  have ih:=wM (l:=l) h.2
  obtain⟨n,h1⟩:∃n,k= .int .i64 n:=by
   have h1:=h.1
   split at h1
   ·exact⟨_,rfl⟩
   ·cases h1
  subst h1
  simp only[enc,DE,List.map_cons]at ih|-
  rw[ih]
def eI(l:List Int):List (Int×D):=l.map fun n=>(n, .bool true)
@[go_sem] theorem RG:eI []=[]:=rfl
def s5(l:List Int)(n:Int):List Int:=if l.contains n=true then l else l++[n]
theorem pj{l:List Int}{n k:Int}:k∈s5 l n↔k∈l\/k=n:=by
 unfold s5
 split
 ·rename_i h
  have:n∈l:=by simpa using h
  constructor
  ·exact .inl
  ·rintro(h|rfl)<;>assumption
 ·simp
theorem lF{l:List Int}(n:Int)(h:l.Nodup):(s5 l n).Nodup:=by
 unfold s5
 split
 ·exact h
 ·rename_i hn
  have hn:n∉l:=by simpa using hn
  rw[List.nodup_append]
  exact⟨h,by simp,fun a ha b hb=>by simp at hb;subst hb;intro e;subst e;exact hn ha⟩
theorem kO:∀ (l:List Int) (n:Int) (i:Nat),fy n (eI l) i=(l.findIdx? (· ==n)).map fun j=>(i+j,D.bool true)
 |[],n,i=>rfl
 |x::l,n,i=>by
  have ih:=kO l n (i+1)
  simp only[eI,List.map_cons,fy,List.findIdx?_cons]at ih|-
  by_cases h:n=x
  ·subst h;simp
  ·have h2: ¬x=n:=fun e=>h e.symm
   simp only[beq_iff_eq,h,h2,if_false,ih,Option.map_map,Function.comp_def]
   congr 1;funext j;congr 1;omega
@[go_sem] theorem NH (l:List Int) (n:Int):wK n (.bool true) (eI l)=eI (s5 l n):=by
  unfold wK s5
  rw[kO]
  cases h:l.findIdx? (· ==n)with
  |none=>
   have:l.contains n=false:=by
    rw[List.findIdx?_eq_none_iff]at h
    rw[Bool.eq_false_iff];intro hc
    have:=h n (by simpa using hc)
    simp at this
   simp only[Option.map_none,this,Bool.false_eq_true,if_false]
   simp[eI]
  |some j=>
   rw[List.findIdx?_eq_some_iff_getElem]at h
   obtain⟨hj,he,_⟩:=h
   have e:l[j]=n:=by simpa using he
   have:l.contains n=true:=by rw[List.contains_iff_mem, <- e];exact List.getElem_mem hj
   simp only[Option.map_some,this,if_true,Nat.zero_add]
   apply List.ext_getElem?
   intro k
   rw[List.getElem?_set]
   split
   ·rename_i hk;subst hk;simp[eI,hj,e]
   ·rfl
def yX(l:List Int)(n:Int):List Int:=match l.findIdx? (· ==n)with|some j=>l.eraseIdx j|none=>l
theorem fh{α β:Type}(f:α->β):∀ (l:List α) (j:Nat),(l.map f).eraseIdx j=(l.eraseIdx j).map f
 |[],_=>rfl
 |_::_,0=>rfl
 |x::l,j+1=>by simp[fh f l j]
@[go_sem] theorem NI (l:List Int) (n:Int):RD n (eI l)=eI (yX l n):=by
  unfold RD yX
  rw[kO]
  cases h:l.findIdx? (· ==n)with
  |none=>simp
  |some j=>simp only[Option.map_some,Nat.zero_add];exact fh _ _ _
theorem u5{l:List Int}(n:Int)(h:l.Nodup):(yX l n).Nodup/\∀k,k∈yX l n↔k∈l/\k≠n:=by
 unfold yX
 cases hf:l.findIdx? (· ==n)with
 |none=>
  rw[List.findIdx?_eq_none_iff]at hf
  refine⟨h,fun k=>⟨fun hk=>⟨hk,fun e=> ?_⟩,fun hk=>hk.1⟩⟩
  subst e
  have:=hf k hk
  simp at this
 |some j=>
  rw[List.findIdx?_eq_some_iff_getElem]at hf
  obtain⟨hj,he,_⟩:=hf
  have e:l[j]=n:=by simpa using he
  refine⟨h.sublist (List.eraseIdx_sublist _ _),fun k=> ?_⟩
  show k∈l.eraseIdx j↔_
  have xu:l=l.take j++l[j]::l.drop (j+1):=by rw[List.getElem_cons_drop,List.take_append_drop]
  rw[List.eraseIdx_eq_take_drop_succ]
  rw[xu,List.nodup_append,List.nodup_cons]at h
  obtain⟨h1,⟨h2,h3⟩,h4⟩:=h
  constructor
  ·intro hk
   rw[List.mem_append]at hk
   refine⟨?_,fun ek=> ?_⟩
   ·rcases hk with hk|hk
    ·exact List.mem_of_mem_take hk
    ·exact List.mem_of_mem_drop hk
   ·rcases hk with hk|hk
    ·exact h4 k hk l[j] (List.mem_cons_self ..) (by rw[ek,e])
    ·exact h2 (by rw[e, <- ek];exact hk)
  ·rintro⟨hk,fK⟩
   rw[xu,List.mem_append,List.mem_cons]at hk
   rw[List.mem_append]
   rcases hk with hk|hk|hk
   ·exact .inl hk
   ·exact absurd (hk.trans e) fK
   ·exact .inr hk
section
variable {P:Program}{o:Nat->ae}{t:TypeId}{id:Nat}{n:Int}{v:V}
def p7(P:Program)(kt:TypeId):Bool:=match bf P kt with|some .int=>true|_=>false
theorem u6{kt:TypeId}(h:p7 P kt=true):bf P kt=some .int:=by
 unfold p7 at h;split at h
 ·assumption
 ·cases h
@[go_sem] theorem NJ {kt:TypeId} (h:bf P kt=some .int):p7 P kt=true:=by unfold p7;rw[h]
def Mt(P:Program)(o:Nat->ae)(t:TypeId)(id:Nat)(n:Int)(v:V):Option gq:=
 match nG P t,dG o v,o id with
 |some (kt,_),some vd, .map zC zD l=>match p7 P kt&&Ms l&&v.ids.all (· !=id)with
  |true=>some (.bW [],cw o v.ids++[(id, .map zC zD (enc (D.int .i64) (wK n vd (DE l))))],id::v.ids)
  |false=>pg P o t (.mp id) (.d (.int .i64 n)) v
 |_,_,_=>pg P o t (.mp id) (.d (.int .i64 n)) v
@[go_sem high] theorem Mu:fA P o t (.mp id) (.d (.int .i64 n)) v=Mt P o t id n v:=by
  unfold Mt
  split
  ·rename_i kt vt vd zC zD l h1 h2 h3
   split
   ·rename_i hc
    simp only[Bool.and_eq_true]at hc
    obtain⟨⟨c1,c2⟩,c3⟩:=hc
    have c4:=u6 c1
    have c5:dG o (.d (.int .i64 n))=some (.int .i64 n):=rfl
    have hl:=wM c2
    unfold fA
    simp only[h1,c5,h2,nm,h3]
    rw[if_pos ⟨rfl,Cb c4 n,rfl,c3⟩]
    conv=>lhs;rw[<- hl]
    rw[yT c4]
    unfold wK
    cases fy n (DE l) 0 with
    |none=>simp[tM,enc]
    |some p=>simp[tM,Cc,D.same,nk]
   ·exact uZ ..
  ·exact uZ ..
attribute [go_sem] Mt
def NK(l:List (D×D)):Bool:=l.all fun p=>match p.2 with| .bool true=>true|_=>false
@[go_sem] theorem SP (l:List Int):NK (enc (D.int .i64) (eI l))=true:=by simp[NK,enc,eI]
@[go_sem] theorem SQ:NK []=true:=rfl
theorem Ce:∀ {m:List (Int×D)},NK (enc (D.int .i64) m)=true->eI (m.map (·.1))=m
 |[],_=>rfl
 |(k,x)::m,h=>by
  simp only[NK,enc,List.map_cons,List.all_cons,Bool.and_eq_true]at h
  have ih:=Ce (m:=m) h.2
  have h1:x= .bool true:=by
   have h1:=h.1
   split at h1
   ·rfl
   ·cases h1
  simp only[eI,List.map_cons]at ih|-
  rw[ih,h1]
def Gn(P:Program)(o:Nat->ae)(t:TypeId)(m:V)(n:Int)(ok:Bool):Option gq:=
 match nG P t with
 |some (kt,vt)=>match zeroV P vt with
  |some (.d (.bool false))=>match ow o m with
   |some (rd,l)=>match p7 P kt&&Ms l&&NK l with
    |true=>some (match ok with|true=> .bW [.d (.bool (((DE l).map (·.1)).contains n)), .d (.bool (((DE l).map (·.1)).contains n))]|false=> .d (.bool (((DE l).map (·.1)).contains n)),[],rd)
    |false=>sX P o t m (.d (.int .i64 n)) ok
   |none=>sX P o t m (.d (.int .i64 n)) ok
  |_=>sX P o t m (.d (.int .i64 n)) ok
 |none=>sX P o t m (.d (.int .i64 n)) ok
@[go_sem] theorem Gp (l:List Int):((eI l).map (·.1))=l:=by simp[eI,Function.comp_def]
@[go_sem high] theorem RH {m:V} {ok:Bool}:gZ P o t m (.d (.int .i64 n)) ok=Gn P o t m n ok:=by
  unfold Gn
  split
  ·rename_i kt vt h1
   split
   ·rename_i hz
    split
    ·rename_i rd l h
     split
     ·rename_i hc
      simp only[Bool.and_eq_true]at hc
      have c4:=u6 hc.1.1
      have hl:=wM hc.1.2
      have hs:eI ((DE l).map (·.1))=DE l:=Ce (by rw[hl];exact hc.2)
      have c5:dG o (.d (.int .i64 n))=some (.int .i64 n):=rfl
      unfold gZ
      simp only[h1,c5,h]
      rw[if_pos ⟨rfl,Cb c4 n⟩]
      conv=>lhs;rw[<- hl]
      rw[yT c4, <- hs,kO,Gp]
      generalize (DE l).map (·.1)=l'
      cases hf:l'.findIdx? (· ==n)with
      |none=>
       have:l'.contains n=false:=by
        rw[List.findIdx?_eq_none_iff]at hf
        rw[Bool.eq_false_iff];intro hc
        have:=hf n (by simpa using hc)
        simp at this
       cases ok<;>simp only[Option.map_none,tM,hz,this,if_true,Bool.false_eq_true,if_false]
      |some j=>
       rw[List.findIdx?_eq_some_iff_getElem]at hf
       obtain⟨hj,he,_⟩:=hf
       have e:l'[j]=n:=by simpa using he
       have:l'.contains n=true:=by rw[List.contains_iff_mem, <- e];exact List.getElem_mem hj
       cases ok<;>simp only[Option.map_some,tM,this,if_true,Bool.false_eq_true,if_false]
     ·exact m8 ..
    ·exact m8 ..
   ·exact m8 ..
  ·exact m8 ..
attribute [go_sem] Gn
end
theorem u9{K:V->List (Nat×ae)->Prop}{id:Nat}{l:List Int}(h0:l=[]->K (.bW [.d (.bool false)]) [])
 (h1:∀ (i:Nat) n,l[i]? =some n->K (.bW [.d (.bool true), .d (.int .i64 n), .d (.bool true)]) [(id, .kg (enc (D.int .i64) (eI (l.eraseIdx i))) (some (.int .i64 n, .bool true)))]):uL K id (enc (D.int .i64) (eI l)):=by
 refine p6 _ (fun h=>h0 ?_) fun i k x h=> ?_
 ·cases l with
  |nil=>rfl
  |cons x l=>simp[eI]at h
 ·unfold eI at h|-
  rw[List.getElem?_map]at h
  cases hl:l[i]? with
  |none=>rw[hl]at h;cases h
  |some n=>
   rw[hl]at h
   simp at h
   obtain⟨rfl,rfl⟩:=h
   have:=h1 i n hl
   rw[fh]
   exact this
theorem s6{l:List Int}{i:Nat}{n:Int}(h:l[i]? =some n):(∀v,v∈l↔v=n\/v∈l.eraseIdx i)/\(l.eraseIdx i).length+1=l.length:=by
 obtain⟨hi,e⟩:=List.getElem?_eq_some_iff.1 h
 refine⟨fun v=> ?_,by rw[List.length_eraseIdx];simp[hi];omega⟩
 have xu:l=l.take i++n::l.drop (i+1):=by rw[<- e,List.getElem_cons_drop,List.take_append_drop]
 rw[List.eraseIdx_eq_take_drop_succ]
 conv=>lhs;rw[xu]
 simp only[List.mem_append,List.mem_cons]
 constructor
 ·rintro(h|h|h)
  ·exact .inr (.inl h)
  ·exact .inl h
  ·exact .inr (.inr h)
 ·rintro(h|h|h)
  ·exact .inr (.inl h)
  ·exact .inl h
  ·exact .inr (.inr h)
attribute [go_sem] List.head?_cons
end Go.Proofs.YtealblliddhgiaaGreat
namespace Go.Proofs.YtealblliddhgiaaGreat
mutual
def hO(v:Int):Tm->Bool
 | .mk op n kids=>if op=1 then n==v else p8 v op n kids 0
def p8(v op n:Int):List Tm->Nat->Bool
 |[],_=>false
 |k::l,i=>(hO v k&& !(op==8&&i==1&&n==v))||p8 v op n l (i+1)
end
theorem lG(v:Int)(t:Tm):hO v t=if t.op=1 then t.n==v else p8 v t.op t.n t.kids 0:=by cases t;rfl
@[reducible] def lU (l:List Int):ae:= .map 3 4 (enc (D.int .i64) (eI l))
def RI(id:Nat)(Q:List Int->Prop)(o:Nat->ae)(nx:Nat)(K:V->(Nat->ae)->Nat->Prop):Prop:=
 ∀o' nx' l',nx<=nx'->Good o' nx'->(∀j,j<nx->j≠id->o' j=o j)->o' id=lU l'->Q l'->K (.bW []) o' nx'
theorem A5{b nx id it n0:Nat}{Q:fq->S->Prop}{e:Nat->V}{o:Nat->ae}{ks n k:D}(own s:List Int)(hg:Good o nx)(aj:o id=lU s)(Ox:o it= .kg (enc (D.int .i64) (eI own)) none)(hb:b<=nx)(hs:s.Nodup)(XN:n0<nx)
 (he:eA nx e [.mp id, .ab, .ab, .ptr n0 0, .ab, .ab, .ab, .ab, .ab, .ab, .ab, .ab, .ab, .ab, .ab, .d ks, .d n, .d k, .ab, .ab, .ab, .ab, .ab, .ab, .ab, .ab, .ab, .ab, .ab, .ab, .ab, .ab, .ab, .ab, .ab, .ab, .ab, .ptr it 0] 0)
 (hQ:∀e' o' nx' s',e' 0= .mp id->e' 3= .ptr n0 0->e' 15= .d ks->e' 16= .d n->e' 17= .d k->nx<=nx'->Good o' nx'->(∀j,j<nx->j≠id->j≠it->o' j=o j)->o' id=lU s'->s'.Nodup->(∀v,v∈s'↔v∈s\/v∈own)->Q (.exit 2) ⟨e',o',nx'⟩):
 jR b (fun Q s=>ka Tryz.prog 45 b false (.seq (.af [⟨some 38, .next (.tmp 37) false,none⟩,⟨some 39, .extract (.tmp 38) 0,none⟩]) (.seq (.cond (.tmp 39) .skip (.exit 2)) (.block 3 (.seq (.af [⟨some 40, .entry (.tmp 37),none⟩,⟨some 41, .extract (.tmp 40) 0,none⟩,⟨some 7, .assign (.tmp 41),none⟩]) (.af [⟨some 42, .move (.tmp 0),none⟩,⟨some 43, .move (.tmp 7),none⟩,⟨none, .mapUpdate 93 (.tmp 42) (.tmp 43) (.const (.bool true)),none⟩]))))) Q s) Q ⟨e,o,nx⟩:=by
 have h1:id<nx:=hg.lt (by rw[aj];exact ae.noConfusion)
 have h2:it<nx:=hg.lt (by rw[Ox];exact ae.noConfusion)
 have h3:id≠it:=fun h=>by rw[h,Ox]at aj;cases aj
 have h4:it≠id:=fun h=>h3 h.symm
 refine aX (fun i:List Int×List Int×Option (D×D)=>⟨bB [.mp id, .ab, .ab, .ptr n0 0, .ab, .ab, .ab, .ab, .ab, .ab, .ab, .ab, .ab, .ab, .ab, .d ks, .d n, .d k, .ab, .ab, .ab, .ab, .ab, .ab, .ab, .ab, .ab, .ab, .ab, .ab, .ab, .ab, .ab, .ab, .ab, .ab, .ab, .ptr it 0],aq (aq o id (lU i.2.1)) it (.kg (enc (D.int .i64) (eI i.1)) i.2.2),nx⟩)
  (fun i=>i.2.1.Nodup/\∀v,(v∈i.2.1\/v∈i.1)↔(v∈s\/v∈own)) (fun i=>i.1.length) (own,s,none) ⟨hs,fun _=>Iff.rfl⟩ ?_ ?_
 ·dsimp only
  refine bY.cT _ hb (Nat.le_refl _) ?_ (fun j hj=> ?_) he
  ·exact(by repeat(first|exact hg.mono (by omega)|exact Good.nil|refine Good.aq ?_ (by omega) rfl|refine Good.aq ?_ (by omega) (dR _ _ _ (by omega))|refine Good.aq ?_ (by omega) (by simp[ae.refs,V.ag,V.refs]<;>omega)))
  ·by_cases e1:j=it
   ·subst e1;rw[aa];exact Ox
   ·rw[ad _ _ _ _ e1]
    by_cases e2:j=id
    ·subst e2;rw[aa];exact aj
    ·rw[ad _ _ _ _ e2]
 rintro⟨rest,s',last⟩ ⟨iz,hv⟩
 simp only at iz hv
 simp+contextual (disch:=first|omega|simp only[go_sem,false_implies]) only[go_sem,wrap64,if_pos,h3,h4]
 refine u9 (fun hr=> ?_) fun i m hm=> ?_
 ·subst hr
  simp+contextual (disch:=first|omega|simp only[go_sem,false_implies]) only[go_sem,wrap64,if_pos,and_self]
  refine hQ _ _ _ s' ?_ ?_ ?_ ?_ ?_ ?_ ?_ (fun j g1 g2 g3=> ?_) ?_ iz (fun v=> ?_)
  ·rfl
  ·rfl
  ·rfl
  ·rfl
  ·rfl
  ·omega
  ·exact(by repeat(first|exact hg.mono (by omega)|exact Good.nil|refine Good.aq ?_ (by omega) rfl|refine Good.aq ?_ (by omega) (dR _ _ _ (by omega))|refine Good.aq ?_ (by omega) (by simp[ae.refs,V.ag,V.refs]<;>omega)))
  ·(repeat(first|rfl|rw[aa]|rw[ad _ _ _ _ (by omega)]))
  ·(repeat(first|rfl|rw[aa]|rw[ad _ _ _ _ (by omega)]))
  ·have:=hv v
   simpa using this
 ·simp+contextual (disch:=first|omega|simp only[go_sem,false_implies]) only[go_sem,wrap64,if_pos,h3,h4]
  obtain⟨r1,r2⟩:=s6 hm
  refine az (rest.eraseIdx i,s5 s' m,some (.int .i64 m, .bool true)) ⟨lF _ iz,fun v=> ?_⟩ ?_ ?_
  ·dsimp only
   rw[pj, <- hv v,r1 v]
   constructor
   ·rintro((h|h)|h)
    ·exact .inl h
    ·exact .inr (.inl h)
    ·exact .inr (.inr h)
   ·rintro(h|h|h)
    ·exact .inl (.inl h)
    ·exact .inl (.inr h)
    ·exact .inr h
  ·dsimp only;omega
  ·dsimp only
   refine bY.cT _ hb (by omega) ?_ (fun j hj=> ?_) ?_
   ·exact(by repeat(first|exact hg.mono (by omega)|exact Good.nil|refine Good.aq ?_ (by omega) rfl|refine Good.aq ?_ (by omega) (dR _ _ _ (by omega))|refine Good.aq ?_ (by omega) (by simp[ae.refs,V.ag,V.refs]<;>omega)))
   ·by_cases e1:j=it
    ·subst e1;(repeat(first|rfl|rw[aa]|rw[ad _ _ _ _ (by omega)]))
    ·by_cases e2:j=id
     ·subst e2;(repeat(first|rfl|rw[aa]|rw[ad _ _ _ _ (by omega)]))
     ·(repeat(first|rfl|rw[aa]|rw[ad _ _ _ _ (by omega)]))
   ·(repeat(first|exact aw|refine ao ?_|refine ah rfl ?_|refine ah (aT (aS (by omega))) ?_|refine aF rfl (by simp[V.refs,V.ag]<;>first|omega|assumption) ?_))
theorem Mv:∀t:Tm,t.fits->∀ (o:Nat->ae) (nx id:Nat) (l:List Int),Good o nx->o id=lU l->l.Nodup->∀K X,RI id (fun l'=>l'.Nodup/\∀n,n∈l'↔n∈l\/hO n t=true) o nx K->eN Tryz.prog 107 [.mp id, .d t.d] o nx K X:=by
 refine Tm.jC fun t ih hf o nx id l hg ho hl K X hK=> ?_
 have rP:=(Tm.dy _).1 hf
 have aj:id<nx:=hg.lt (by rw[ho];exact ae.noConfusion)
 refine eN.bt mix JS (by simp) ?_
 rw[LY]
 have y1:id≠nx:=by omega
 have y2:∀k,id≠nx+k:=fun k=>by omega
 by_cases h1:t.op=1
 ·simp+contextual (disch:=first|omega|simp only[go_sem,false_implies]) only[go_sem,wrap64,if_pos,ho,y1,y2,Nat.add_assoc,Nat.left_eq_add,Nat.add_eq_left,Nat.add_left_cancel_iff,h1]
  refine hK _ _ (s5 l t.n) ?_ ?_ (fun j hj fK=> ?_) ?_ ⟨lF _ hl,fun n=> ?_⟩
  ·omega
  ·exact(by repeat(first|exact hg.mono (by omega)|exact Good.nil|refine Good.aq ?_ (by omega) rfl|refine Good.aq ?_ (by omega) (dR _ _ _ (by omega))|refine Good.aq ?_ (by omega) (by simp[ae.refs,V.ag,V.refs]<;>omega)))
  ·(repeat(first|rfl|rw[aa]|rw[ad _ _ _ _ (by omega)]))
  ·(repeat(first|rfl|rw[aa]|rw[ad _ _ _ _ (by omega)]))
  ·rw[pj,lG,if_pos h1]
   rw[beq_iff_eq, @eq_comm _ t.n n]
 ·have lX:(t.op==1)=false:=by simpa using h1
  simp+contextual (disch:=first|omega|simp only[go_sem,false_implies]) only[go_sem,wrap64,if_pos,ho,y1,y2,Nat.add_assoc,Nat.left_eq_add,Nat.add_eq_left,Nat.add_left_cancel_iff,lX]
  refine aX (fun i:Nat×List Int×(Nat->ae)×Nat=>⟨bB [.mp id, .ab, .ab, .ptr nx 0, .ab, .ab, .ab, .ab, .ab, .ab, .ab, .ab, .ab, .ab, .ab, .d (.sl (t.kids.map Tm.d)), .d (.i t.kids.length), .d (.i i.1)],i.2.2.1,i.2.2.2⟩)
   (fun i=>i.1<=t.kids.length/\i.2.1.Nodup/\Good i.2.2.1 i.2.2.2/\nx+1<=i.2.2.2/\(∀j,j<nx->j≠id->i.2.2.1 j=o j)/\i.2.2.1 nx= .row t.row/\i.2.2.1 id=lU i.2.1/\∀v,(v∈i.2.1\/p8 v t.op t.n (t.kids.drop i.1) i.1=true)↔(v∈l\/hO v t=true)) (fun i=>t.kids.length - i.1) (0,l,aq o nx (.row t.row),nx+8)
   ⟨Nat.zero_le _,hl,by dsimp only;exact(by repeat(first|exact hg.mono (by omega)|exact Good.nil|refine Good.aq ?_ (by omega) rfl|refine Good.aq ?_ (by omega) (dR _ _ _ (by omega))|refine Good.aq ?_ (by omega) (by simp[ae.refs,V.ag,V.refs]<;>omega))),by dsimp only;omega,fun j hj fK=>by dsimp only;(repeat(first|rfl|rw[aa]|rw[ad _ _ _ _ (by omega)])),by dsimp only;(repeat(first|rfl|rw[aa]|rw[ad _ _ _ _ (by omega)])),by dsimp only;(repeat(first|rfl|rw[aa]|rw[ad _ _ _ _ (by omega)]));exact ho,fun v=>by simp only[List.drop_zero];rw[lG v t,if_neg h1]⟩ ?_ ?_
  ·dsimp only
   refine bY.cT _ (by omega) (by omega) (by repeat(first|exact hg.mono (by omega)|exact Good.nil|refine Good.aq ?_ (by omega) rfl|refine Good.aq ?_ (by omega) (dR _ _ _ (by omega))|refine Good.aq ?_ (by omega) (by simp[ae.refs,V.ag,V.refs]<;>omega))) (fun _ _=>rfl) ?_
   (repeat(first|exact aw|refine ao ?_|refine ah rfl ?_|refine ah (aT (aS (by omega))) ?_|refine aF rfl (by simp[V.refs,V.ag]<;>first|omega|assumption) ?_))
  rintro⟨k,l',o',nx'⟩ ⟨hk,z8,Gq,ml,hold,a8,AJ,hv⟩
  simp only at hk z8 Gq ml hold a8 AJ hv
  have z1:id≠nx':=by omega
  have z2:∀k,id≠nx'+k:=fun k=>by omega
  have z3:nx≠nx':=by omega
  have z4:∀k,nx≠nx'+k:=fun k=>by omega
  simp+contextual (disch:=first|omega|simp only[go_sem,false_implies]) only[go_sem,wrap64,if_pos,AJ,a8,z1,z2,z3,z4,Nat.add_assoc,Nat.left_eq_add,Nat.add_eq_left,Nat.add_left_cancel_iff]
  refine ay (fun h2=> ?_) (fun h2=> ?_)
  ·simp at h2
   obtain⟨x,hx⟩:=a7 h2
   have kU:=List.mem_of_getElem? hx
   simp+contextual (disch:=first|omega|simp only[go_sem,false_implies]) only[go_sem,wrap64,if_pos,AJ,a8,z1,z2,z3,z4,Nat.add_assoc,Nat.left_eq_add,Nat.add_eq_left,Nat.add_left_cancel_iff,hx]
   refine ff (ih x kU (rP.2 x kU) _ _ (nx'+7) [] ?_ ?_ List.nodup_nil _ _ fun o2 n2 own m1 m2 m3 m4 m5=> ?_)
   ·have hg:=Gq
    exact(by repeat(first|exact hg.mono (by omega)|exact Good.nil|refine Good.aq ?_ (by omega) rfl|refine Good.aq ?_ (by omega) (dR _ _ _ (by omega))|refine Good.aq ?_ (by omega) (by simp[ae.refs,V.ag,V.refs]<;>omega)))
   ·(repeat(first|rfl|rw[aa]|rw[ad _ _ _ _ (by omega)]))
   have p0:o2 nx= .row t.row:=by rw[m3 nx (by omega) (by omega)];(repeat(first|rfl|rw[aa]|rw[ad _ _ _ _ (by omega)]));exact a8
   have p1:o2 id=lU l':=by rw[m3 id (by omega) (by omega)];(repeat(first|rfl|rw[aa]|rw[ad _ _ _ _ (by omega)]));exact AJ
   have p2:∀j,j<nx->j≠id->o2 j=o j:=fun j h3 h4=>by rw[m3 j (by omega) (by omega)];(repeat(first|rfl|rw[aa]|rw[ad _ _ _ _ (by omega)]));exact hold j h3 h4
   have w1:nx≠n2:=by omega
   have w2:∀k,nx≠n2+k:=fun k=>by omega
   have w3:id≠n2:=by omega
   have w4:∀k,id≠n2+k:=fun k=>by omega
   have w5:nx'+7≠n2:=by omega
   have w6:∀k,nx'+7≠n2+k:=fun k=>by omega
   obtain⟨tN,d1,d2,d3⟩:∃tN,tN.Nodup/\(∀v,v∈tN↔(hO v x=true/\ ¬ (t.op=8/\k=1/\t.n=v)))/\tN=if t.op=8/\k=1 then yX own t.n else own:=by
    refine⟨_, ?_,fun v=> ?_,rfl⟩
    ·split
     ·exact(u5 _ m5.1).1
     ·exact m5.1
    ·have:=m5.2 v
     simp only[List.not_mem_nil,false_or]at this
     rw[<- this]
     split
     ·rename_i hc
      rw[(u5 t.n m5.1).2]
      simp[hc,eq_comm]
     ·rename_i hc
      constructor
      ·exact fun h=>⟨h,fun h2=>hc ⟨h2.1,h2.2.1⟩⟩
      ·exact fun h=>h.1
   have step:∀v (s':List Int),(v∈s'↔v∈l'\/v∈tN)->((v∈s'\/p8 v t.op t.n (t.kids.drop (k+1)) (k+1)=true)↔(v∈l\/hO v t=true)):=by
    intro v s' iz
    rw[<- hv v,iz,d2 v]
    have wN:t.kids.drop k=x::t.kids.drop (k+1):=by
     obtain⟨h5,h6⟩:=List.getElem?_eq_some_iff.1 hx
     rw[List.drop_eq_getElem_cons h5,h6]
    rw[wN,p8]
    simp only[Bool.or_eq_true,Bool.and_eq_true,Bool.not_eq_true',Bool.and_eq_false_iff,beq_eq_false_iff_ne,ne_eq,not_and]
    constructor
    ·rintro((h|⟨h,h6⟩)|h)
     ·exact .inl h
     ·refine .inr (.inl ⟨h, ?_⟩)
      by_cases c1:t.op=8
      ·by_cases c2:k=1
       ·exact .inr (h6 c1 c2)
       ·exact .inl (.inr c2)
      ·exact .inl (.inl c1)
     ·exact .inr (.inr h)
    ·rintro(h|⟨h,h6⟩|h)
     ·exact .inl (.inl h)
     ·refine .inl (.inr ⟨h,fun c1 c2=> ?_⟩)
      rcases h6 with(h6|h6)|h6
      ·exact absurd c1 h6
      ·exact absurd c2 h6
      ·exact h6
     ·exact .inr h
   have XO:((t.op==8)&&((k:Int)==1))=decide (t.op=8/\k=1):=by
    rw[Bool.eq_iff_iff];simp;omega
   simp+contextual (disch:=first|omega|simp only[go_sem,false_implies]) only[go_sem,wrap64,if_pos,p0,p1,w1,w2,w3,w4,w5,w6,Nat.add_assoc,Nat.left_eq_add,Nat.add_eq_left,Nat.add_left_cancel_iff]
   refine ay (fun h3=> ?_) (fun h3=> ?_)
   ·rw[XO]at h3
    simp only[decide_eq_true_eq]at h3
    rw[if_pos h3]at d3
    cases hd:own.findIdx? (· ==t.n)with
    |none=>
     have VI:fy t.n (eI own) 0=none:=by rw[kO,hd];rfl
     obtain rfl:tN=own:=by rw[d3,yX,hd]
     simp+contextual (disch:=first|omega|simp only[go_sem,false_implies]) only[go_sem,wrap64,if_pos,p0,p1,m4,w1,w2,w3,w4,w5,w6,Nat.add_assoc,Nat.left_eq_add,Nat.add_eq_left,Nat.add_left_cancel_iff,VI]
     refine A5 (n0:=nx) (id:=id) (it:=n2+12) (ks:= .sl (t.kids.map Tm.d)) (n:= .i t.kids.length) (k:= .i k) tN l' ?_ ?_ ?_ (by omega) z8 (by omega) ?_ fun e' o4 n4 s' q0 q3 wO wP wQ q1 q2 q4 q5 q6 q7=> ?_
     ·have hg:=m2
      exact(by repeat(first|exact hg.mono (by omega)|exact Good.nil|refine Good.aq ?_ (by omega) rfl|refine Good.aq ?_ (by omega) (dR _ _ _ (by omega))|refine Good.aq ?_ (by omega) (by simp[ae.refs,V.ag,V.refs]<;>omega)))
     ·(repeat(first|rfl|rw[aa]|rw[ad _ _ _ _ (by omega)]))
      exact p1
     ·(repeat(first|rfl|rw[aa]|rw[ad _ _ _ _ (by omega)]))
     ·(repeat(first|exact aw|refine ao ?_|refine ah rfl ?_|refine ah (aT (aS (by omega))) ?_|refine aF rfl (by simp[V.refs,V.ag]<;>first|omega|assumption) ?_))
     have r0:o4 nx= .row t.row:=by
      rw[q4 nx (by omega) (by omega) (by omega)];(repeat(first|rfl|rw[aa]|rw[ad _ _ _ _ (by omega)]))
      exact p0
     simp+contextual (disch:=first|omega|simp only[go_sem,false_implies]) only[go_sem,wrap64,if_pos,q0,q3,wO,wP,wQ]
     refine az (k+1,s',o4,n4) ⟨by dsimp only;omega,q6,q2,by dsimp only;omega,fun j g1 g2=> ?_,r0,q5,fun v=> ?_⟩ (by dsimp only;omega) ?_
     ·dsimp only
      rw[q4 j (by omega) (by omega) (by omega)];(repeat(first|rfl|rw[aa]|rw[ad _ _ _ _ (by omega)]))
      exact p2 j g1 g2
     ·dsimp only
      exact step v s' (q7 v)
     ·dsimp only
      refine bY.cT _ (by omega) (by omega) q2 (fun _ _=>rfl) ?_
      (repeat(first|exact aw|refine ao ?_|refine ah rfl ?_|refine ah (aT (aS (by omega))) ?_|refine aF rfl (by simp[V.refs,V.ag]<;>first|omega|assumption) ?_|refine ah (by first|exact q0|exact q1|exact q2|exact q3|exact q4|exact q5|exact q6|exact q7|exact q8|exact q9|exact DF|exact DG|exact A6|exact DH|exact DI|exact wO|exact wP|exact wQ|exact DJ|exact DK|exact DL|exact DM|exact DN|exact DO|exact DP|exact DS|exact DT|exact DU|exact DV|exact DW|exact DX|exact DY|exact DZ|exact D0|exact D1|exact D2|exact D3|exact D4|exact D5|exact D6|exact D7) ?_|refine aF (by first|exact q0|exact q1|exact q2|exact q3|exact q4|exact q5|exact q6|exact q7|exact q8|exact q9|exact DF|exact DG|exact A6|exact DH|exact DI|exact wO|exact wP|exact wQ|exact DJ|exact DK|exact DL|exact DM|exact DN|exact DO|exact DP|exact DS|exact DT|exact DU|exact DV|exact DW|exact DX|exact DY|exact DZ|exact D0|exact D1|exact D2|exact D3|exact D4|exact D5|exact D6|exact D7) (by simp[V.refs,V.ag]<;>first|omega|assumption) ?_))
    |some j=>
     have VI:fy t.n (eI own) 0=some (j, .bool true):=by rw[kO,hd];simp
     have Zr:(enc (D.int .i64) (eI own)).eraseIdx j=enc (D.int .i64) (eI tN):=by
      rw[d3,yX,hd,p5];unfold eI;rw[fh]
     simp+contextual (disch:=first|omega|simp only[go_sem,false_implies]) only[go_sem,wrap64,if_pos,p0,p1,m4,w1,w2,w3,w4,w5,w6,Nat.add_assoc,Nat.left_eq_add,Nat.add_eq_left,Nat.add_left_cancel_iff,VI]
     rw[Zr]
     refine A5 (n0:=nx) (id:=id) (it:=n2+12) (ks:= .sl (t.kids.map Tm.d)) (n:= .i t.kids.length) (k:= .i k) tN l' ?_ ?_ ?_ (by omega) z8 (by omega) ?_ fun e' o4 n4 s' q0 q3 wO wP wQ q1 q2 q4 q5 q6 q7=> ?_
     ·have hg:=m2
      exact(by repeat(first|exact hg.mono (by omega)|exact Good.nil|refine Good.aq ?_ (by omega) rfl|refine Good.aq ?_ (by omega) (dR _ _ _ (by omega))|refine Good.aq ?_ (by omega) (by simp[ae.refs,V.ag,V.refs]<;>omega)))
     ·(repeat(first|rfl|rw[aa]|rw[ad _ _ _ _ (by omega)]))
      exact p1
     ·(repeat(first|rfl|rw[aa]|rw[ad _ _ _ _ (by omega)]))
     ·(repeat(first|exact aw|refine ao ?_|refine ah rfl ?_|refine ah (aT (aS (by omega))) ?_|refine aF rfl (by simp[V.refs,V.ag]<;>first|omega|assumption) ?_))
     have r0:o4 nx= .row t.row:=by
      rw[q4 nx (by omega) (by omega) (by omega)];(repeat(first|rfl|rw[aa]|rw[ad _ _ _ _ (by omega)]))
      exact p0
     simp+contextual (disch:=first|omega|simp only[go_sem,false_implies]) only[go_sem,wrap64,if_pos,q0,q3,wO,wP,wQ]
     refine az (k+1,s',o4,n4) ⟨by dsimp only;omega,q6,q2,by dsimp only;omega,fun j g1 g2=> ?_,r0,q5,fun v=> ?_⟩ (by dsimp only;omega) ?_
     ·dsimp only
      rw[q4 j (by omega) (by omega) (by omega)];(repeat(first|rfl|rw[aa]|rw[ad _ _ _ _ (by omega)]))
      exact p2 j g1 g2
     ·dsimp only
      exact step v s' (q7 v)
     ·dsimp only
      refine bY.cT _ (by omega) (by omega) q2 (fun _ _=>rfl) ?_
      (repeat(first|exact aw|refine ao ?_|refine ah rfl ?_|refine ah (aT (aS (by omega))) ?_|refine aF rfl (by simp[V.refs,V.ag]<;>first|omega|assumption) ?_|refine ah (by first|exact q0|exact q1|exact q2|exact q3|exact q4|exact q5|exact q6|exact q7|exact q8|exact q9|exact DF|exact DG|exact A6|exact DH|exact DI|exact wO|exact wP|exact wQ|exact DJ|exact DK|exact DL|exact DM|exact DN|exact DO|exact DP|exact DS|exact DT|exact DU|exact DV|exact DW|exact DX|exact DY|exact DZ|exact D0|exact D1|exact D2|exact D3|exact D4|exact D5|exact D6|exact D7) ?_|refine aF (by first|exact q0|exact q1|exact q2|exact q3|exact q4|exact q5|exact q6|exact q7|exact q8|exact q9|exact DF|exact DG|exact A6|exact DH|exact DI|exact wO|exact wP|exact wQ|exact DJ|exact DK|exact DL|exact DM|exact DN|exact DO|exact DP|exact DS|exact DT|exact DU|exact DV|exact DW|exact DX|exact DY|exact DZ|exact D0|exact D1|exact D2|exact D3|exact D4|exact D5|exact D6|exact D7) (by simp[V.refs,V.ag]<;>first|omega|assumption) ?_))
   ·rw[XO]at h3
    simp only[decide_eq_false_iff_not]at h3
    rw[if_neg h3]at d3
    subst d3
    simp+contextual (disch:=first|omega|simp only[go_sem,false_implies]) only[go_sem,wrap64,if_pos,p0,p1,m4,w1,w2,w3,w4,w5,w6,Nat.add_assoc,Nat.left_eq_add,Nat.add_eq_left,Nat.add_left_cancel_iff]
    refine A5 (n0:=nx) (id:=id) (it:=n2+8) (ks:= .sl (t.kids.map Tm.d)) (n:= .i t.kids.length) (k:= .i k) tN l' ?_ ?_ ?_ (by omega) z8 (by omega) ?_ fun e' o4 n4 s' q0 q3 wO wP wQ q1 q2 q4 q5 q6 q7=> ?_
    ·have hg:=m2
     exact(by repeat(first|exact hg.mono (by omega)|exact Good.nil|refine Good.aq ?_ (by omega) rfl|refine Good.aq ?_ (by omega) (dR _ _ _ (by omega))|refine Good.aq ?_ (by omega) (by simp[ae.refs,V.ag,V.refs]<;>omega)))
    ·(repeat(first|rfl|rw[aa]|rw[ad _ _ _ _ (by omega)]))
     exact p1
    ·(repeat(first|rfl|rw[aa]|rw[ad _ _ _ _ (by omega)]))
    ·(repeat(first|exact aw|refine ao ?_|refine ah rfl ?_|refine ah (aT (aS (by omega))) ?_|refine aF rfl (by simp[V.refs,V.ag]<;>first|omega|assumption) ?_))
    have r0:o4 nx= .row t.row:=by
     rw[q4 nx (by omega) (by omega) (by omega)];(repeat(first|rfl|rw[aa]|rw[ad _ _ _ _ (by omega)]))
     exact p0
    simp+contextual (disch:=first|omega|simp only[go_sem,false_implies]) only[go_sem,wrap64,if_pos,q0,q3,wO,wP,wQ]
    refine az (k+1,s',o4,n4) ⟨by dsimp only;omega,q6,q2,by dsimp only;omega,fun j g1 g2=> ?_,r0,q5,fun v=> ?_⟩ (by dsimp only;omega) ?_
    ·dsimp only
     rw[q4 j (by omega) (by omega) (by omega)];(repeat(first|rfl|rw[aa]|rw[ad _ _ _ _ (by omega)]))
     exact p2 j g1 g2
    ·dsimp only
     exact step v s' (q7 v)
    ·dsimp only
     refine bY.cT _ (by omega) (by omega) q2 (fun _ _=>rfl) ?_
     (repeat(first|exact aw|refine ao ?_|refine ah rfl ?_|refine ah (aT (aS (by omega))) ?_|refine aF rfl (by simp[V.refs,V.ag]<;>first|omega|assumption) ?_|refine ah (by first|exact q0|exact q1|exact q2|exact q3|exact q4|exact q5|exact q6|exact q7|exact q8|exact q9|exact DF|exact DG|exact A6|exact DH|exact DI|exact wO|exact wP|exact wQ|exact DJ|exact DK|exact DL|exact DM|exact DN|exact DO|exact DP|exact DS|exact DT|exact DU|exact DV|exact DW|exact DX|exact DY|exact DZ|exact D0|exact D1|exact D2|exact D3|exact D4|exact D5|exact D6|exact D7) ?_|refine aF (by first|exact q0|exact q1|exact q2|exact q3|exact q4|exact q5|exact q6|exact q7|exact q8|exact q9|exact DF|exact DG|exact A6|exact DH|exact DI|exact wO|exact wP|exact wQ|exact DJ|exact DK|exact DL|exact DM|exact DN|exact DO|exact DP|exact DS|exact DT|exact DU|exact DV|exact DW|exact DX|exact DY|exact DZ|exact D0|exact D1|exact D2|exact D3|exact D4|exact D5|exact D6|exact D7) (by simp[V.refs,V.ag]<;>first|omega|assumption) ?_))
  ·simp at h2
   simp+contextual (disch:=first|omega|simp only[go_sem,false_implies]) only[go_sem,wrap64,if_pos,and_self]
   refine hK _ _ l' ?_ ?_ hold AJ ⟨z8,fun n=> ?_⟩
   ·omega
   ·exact Gq.mono (by omega)
   ·have:=hv n
    rw[List.drop_eq_nil_of_le (by omega)]at this
    simpa[p8]using this
end Go.Proofs.YtealblliddhgiaaGreat
section
namespace Go.Proofs.YtealblliddhgiaaGreat
open Go.Sort Go.RowKit
def yY(P:Program)(g:FuncId):Prop:=∀ (dS off cap:Nat) (zs:List Int) (w:World),Holds (Value.int .i64) w dS off zs.toArray->dS<w.heap.size->zs.length<4611686018427387904->
    Calls P g #[.slice (some ⟨dS,off,none⟩) zs.length cap] w fun e w'=>
     e= .returned (.tuple #[])/\∃n os,w'=grow (putRow (Value.int .i64) (Sort.ahead w n) dS off (zs.mergeSort fun x y=>decide (x<=y)).toArray) os
def dW(l:List Int):List Int:=l.mergeSort fun x y=>decide (x<=y)
theorem Cf{B:Nat->Prop}{w:World}:∀ (zs:List Int) (xs:List Value),gm B w 1 (zs.map (D.int .i64)) xs↔xs=zs.map (Value.int .i64):=by
 have hd:∀ (zs:List Int) (evs:List Value),D.aB B w (zs.map (D.int .i64)) evs↔evs=zs.map (Value.int .i64):=by
  intro zs
  induction zs with
  |nil=>intro evs;simp[D.aB]
  |cons z zs ih=>
   intro evs
   simp only[List.map_cons,D.aB]
   constructor
   ·rintro⟨v,vs,rfl,h1,h2⟩
    rw[(ih vs).1 h2]
    simp only[D.den]at h1
    rw[h1]
   ·intro h
    exact⟨_,_,h,rfl,(ih _).2 rfl⟩
 have hf:∀zs:List Int,(zs.map (Value.int .i64)).flatMap (·.cells.toList)=zs.map (Value.int .i64):=by
  intro zs
  induction zs with
  |nil=>rfl
  |cons z zs ih=>simp only[List.map_cons,List.flatMap_cons,ih];rfl
 intro zs xs
 constructor
 ·rintro⟨evs,h1,h2,h3⟩
  rw[h1,(hd zs evs).1 h3,hf]
 ·intro h
  subst h
  exact⟨_,(hf zs).symm,fun ev dI=>by
   obtain⟨z,_,rfl⟩:=List.mem_map.1 dI
   rfl,(hd zs _).2 rfl⟩
theorem Gs{P:Program}{g:FuncId}(hE:Enters P g)(hS:yY P g){o:Nat->ae}{nx id ep:Nat}{ty:TypeId}{zs:List Int}(ho:o id= .arr ep ty 1 (zs.map (D.int .i64)))
 (hn:∀p cap w,Calls P g #[.slice p 0 cap] w fun e w'=>e= .returned (.tuple #[])/\w'=w)
 (hlen:zs.length<4611686018427387904) {K X:V->(Nat->ae)->Nat->Prop} (hK:K (.bW []) (aq o id (.arr ep ty 1 ((dW zs).map (D.int .i64)))) nx):eN P g [.osl id ep] o nx K X:=by
 refine⟨hE,fun M φ w vals hH hd=> ?_⟩
 obtain⟨val,us,jN,⟨v0,v1,v2⟩,dB⟩:=hd
 have dB:us=[]:=dB
 subst dB
 have ec:val=φ id:=(v2 ep (by show(o id).aZ=some ep;rw[ho];rfl)).2 rfl
 have O5:vals=#[φ id]:=by rw[<- ec];exact Array.ext' (by simpa using jN)
 subst O5
 have FW:=hH.ok id
 unfold aL at FW
 rw[show(hp o nx).o id= .arr ep ty 1 (zs.map (D.int .i64))from ho]at FW
 obtain⟨_,xs,eF,a8⟩:=FW
 have G5:=(Cf zs xs).1 a8
 subst G5
 simp only[List.length_map]at eF
 obtain⟨hl,rM|⟨b,cap,cur,du,_,hg,vA,zR,NL,RJ⟩⟩:=eF
 ·obtain⟨h1,h2⟩:=rM
  have hz:zs=[]:=List.length_eq_zero_iff.1 h2
  subst hz
  rw[h1]
  refine(hn none 0 w).mono ?_
  rintro e w' ⟨rfl,rfl⟩
  have EW:aq o id (.arr ep ty 1 ((dW []).map (D.int .i64)))=o:=by
   funext j
   by_cases e:j=id
   ·subst e;rw[aa,ho,show dW []=[] by simp[dW]]
   ·rw[ad _ _ _ _ e]
  rw[EW]at hK
  exact⟨φ,o,nx, .bW [],hH,Trans.refl _ _ _,⟨#[],rfl,rfl⟩,hK⟩
 ·rw[du]
  have hb:b<w.heap.size:=(Array.getElem?_eq_some_iff.1 hg).1
  have RK:∀j,j<zs.length->cur[j]? =some (.int .i64 zs[j]!):=by
   intro j hj
   have h1:(cur.toList.take (zs.length*1))[j]? =(zs.map (Value.int .i64))[j]? :=by rw[RJ]
   rw[List.getElem?_take_of_lt (by omega),List.getElem?_map,List.getElem?_eq_getElem hj]at h1
   simp only[Option.map_some]at h1
   rw[getElem!_pos zs j hj]
   simpa using h1
  refine(hS b 0 cap zs w (fun j hj=> ?_) hb hlen).mono ?_
  ·simp only[List.size_toArray]at hj
   refine⟨?_, ?_⟩
   ·unfold World.cell?
    simp only[hg,Option.isSome_none,Bool.false_eq_true,if_false,Nat.zero_add]
    rw[RK j hj];simp
   ·unfold World.frozen?
    simp[hg]
  rintro e w' ⟨rfl,n,os,rfl⟩
  have LL:(dW zs).length=zs.length:=List.length_mergeSort zs
  have uV:∀k,k<w.heap.size->(grow (putRow (Value.int .i64) (Sort.ahead w n) b 0 (dW zs).toArray) os).heap[k]? =(w.heap.modify b (onCells (putCells (Value.int .i64) 0 (dW zs).toArray)))[k]? :=by
   intro k hk
   unfold grow putRow mapBlock Sort.ahead
   simp only
   rw[Array.getElem?_append_left (by simpa using hk)]
  have ux:eM (· =b) w (grow (putRow (Value.int .i64) (Sort.ahead w n) b 0 (dW zs).toArray) os):=by
   refine⟨rfl,rfl,rfl, ?_,fun k hk fK=> ?_⟩
   ·unfold grow putRow mapBlock Sort.ahead;simp
   ·rw[uV k hk,Array.getElem?_modify,if_neg (fun e=>fK e.symm)]
  have bS:((hp o nx).o id).live=true:=by show(o id).live=true;rw[ho];rfl
  have Db:dS (φ id)=some b:=by rw[du];rfl
  have Kz:(grow (putRow (Value.int .i64) (Sort.ahead w n) b 0 (dW zs).toArray) os).heap[b]? =some (.cells (putCells (Value.int .i64) 0 (dW zs).toArray cur) ty (0,0)):=by
   rw[uV b hb,Array.getElem?_modify,if_pos rfl,hg];rfl
  have hZ:(hp o nx).put [(id, .arr ep ty 1 ((dW zs).map (D.int .i64)))]=hp (aq o id (.arr ep ty 1 ((dW zs).map (D.int .i64)))) nx:=by
   have dB:id<nx:=v1
   simp only[Hp.put,hp]
   congr 1
   funext j
   simp only[List.map_cons,List.map_nil,List.mem_singleton,eq_iff_iff]
   exact⟨fun h=>h.elim (fun h=>h) (fun e=>e ▸ dB), .inl⟩
  have pK:aL M φ ((hp o nx).put [(id, .arr ep ty 1 ((dW zs).map (D.int .i64)))]) (grow (putRow (Value.int .i64) (Sort.ahead w n) b 0 (dW zs).toArray) os) id:=by
   unfold aL
   rw[show((hp o nx).put [(id, .arr ep ty 1 ((dW zs).map (D.int .i64)))]).o id= .arr ep ty 1 ((dW zs).map (D.int .i64)) by simp]
   refine⟨by decide,(dW zs).map (Value.int .i64), ?_,(Cf _ _).2 rfl⟩
   simp only[List.length_map,LL]
   refine⟨by simp[LL], .inr ⟨b,cap,_,du,Nat.zero_le _,Kz,vA,zR, ?_, ?_⟩⟩
   ·unfold putCells;simpa using NL
   ·apply List.ext_getElem?
    intro j
    by_cases hj:j<zs.length
    ·rw[List.getElem?_take_of_lt (by omega),List.getElem?_map,List.getElem?_eq_getElem (l:=dW zs) (by omega)]
     have zF:j<cur.size:=by omega
     unfold putCells
     simp only[Array.getElem?_toList,Array.getElem?_mapIdx,Option.map_some]
     rw[Array.getElem?_eq_getElem zF]
     simp only[Option.map_some,Nat.zero_le,true_and,Nat.zero_add,List.size_toArray,Nat.sub_zero]
     rw[if_pos (by omega)]
     rw[getElem!_pos _ j (by simp;omega)]
     simp
    ·rw[List.getElem?_eq_none (by rw[List.length_take,Nat.mul_one];exact Nat.le_trans (Nat.min_le_left _ _) (Nat.not_lt.1 hj)),List.getElem?_eq_none (by rw[List.length_map,LL];exact Nat.not_lt.1 hj)]
  have Ka:=gI hH (id:=id) v1 bS Db ux (.arr ep ty 1 ((dW zs).map (D.int .i64))) (by rw[show(hp o nx).o id=_ from ho];rfl) (by rw[show(hp o nx).o id=_ from ho];rfl) pK
  have JM:=eQ (φ:=φ) (H:=hp o nx) (id:=id) v1 bS Db ux (.arr ep ty 1 ((dW zs).map (D.int .i64))) (by rw[show(hp o nx).o id=_ from ho];rfl) (by rw[show(hp o nx).o id=_ from ho];rfl)
  rw[hZ]at Ka JM
  exact⟨φ,_,nx, .bW [],Ka,JM,⟨#[],rfl,rfl⟩,hK⟩
end Go.Proofs.YtealblliddhgiaaGreat
end
section
namespace Go.Proofs.YtealblliddhgiaaGreat
open Go.Shelf
def yZ:Go.Shelf.Ren:=⟨fun|189=>72|125=>109|257=>108|128=>140|129=>141|294=>131|295=>132|296=>133|297=>134|298=>135|299=>136|216=>137|300=>138|301=>139|328=>143|329=>144|330=>145|331=>146|332=>147|215=>129|343=>148|n=>n,fun|28=>53|3=>3|46=>143|0=>0|51=>168|53=>170|4=>4|183=>161|182=>160|131=>151|5=>5|9=>9|218=>172|222=>88|228=>177|229=>178|n=>n,fun|n=>n⟩
theorem Cg:Go.Proofs.Lays.n189 Tryz.prog yZ:={
 mixed:=by kernel_rfl
 f125:=Tryz.func109.trans (congrArg some (by kernel_rfl))
 f128:=Tryz.func140.trans (congrArg some (by kernel_rfl))
 f129:=Tryz.func141.trans (congrArg some (by kernel_rfl))
 f189:=Tryz.func72.trans (congrArg some (by kernel_rfl))
 f215:=Tryz.func129.trans (congrArg some (by kernel_rfl))
 f216:=Tryz.func137.trans (congrArg some (by kernel_rfl))
 f257:=Tryz.func108.trans (congrArg some (by kernel_rfl))
 f294:=Tryz.func131.trans (congrArg some (by kernel_rfl))
 f295:=Tryz.func132.trans (congrArg some (by kernel_rfl))
 f296:=Tryz.func133.trans (congrArg some (by kernel_rfl))
 f297:=Tryz.func134.trans (congrArg some (by kernel_rfl))
 f298:=Tryz.func135.trans (congrArg some (by kernel_rfl))
 f299:=Tryz.func136.trans (congrArg some (by kernel_rfl))
 f300:=Tryz.func138.trans (congrArg some (by kernel_rfl))
 f301:=Tryz.func139.trans (congrArg some (by kernel_rfl))
 f328:=Tryz.func143.trans (congrArg some (by kernel_rfl))
 f329:=Tryz.func144.trans (congrArg some (by kernel_rfl))
 f330:=Tryz.func145.trans (congrArg some (by kernel_rfl))
 f331:=Tryz.func146.trans (congrArg some (by kernel_rfl))
 f332:=Tryz.func147.trans (congrArg some (by kernel_rfl))
 f343:=Tryz.func148.trans (congrArg some (by kernel_rfl))
 t0:=Tryz.underlying0
 a0:=Tryz.isAgg0
 z0:=Tryz.sizeOf0
 v0:=Tryz.zeroValue0
 t3:=Tryz.underlying3
 a3:=Tryz.isAgg3
 z3:=Tryz.sizeOf3
 v3:=Tryz.zeroValue3
 t4:=Tryz.underlying4
 a4:=Tryz.isAgg4
 z4:=Tryz.sizeOf4
 v4:=Tryz.zeroValue4
 t5:=Tryz.underlying5
 a5:=Tryz.isAgg5
 z5:=Tryz.sizeOf5
 v5:=Tryz.zeroValue5
 t9:=Tryz.underlying9
 a9:=Tryz.isAgg9
 z9:=Tryz.sizeOf9
 v9:=Tryz.zeroValue9
 t28:=Tryz.underlying53
 a28:=Tryz.isAgg53
 z28:=Tryz.sizeOf53
 v28:=Tryz.zeroValue53
 t46:=Tryz.underlying143
 a46:=Tryz.isAgg143
 z46:=Tryz.sizeOf143
 v46:=Tryz.zeroValue143
 t51:=Tryz.underlying168
 a51:=Tryz.isAgg168
 z51:=Tryz.sizeOf168
 v51:=Tryz.zeroValue168
 t53:=Tryz.underlying170
 a53:=Tryz.isAgg170
 z53:=Tryz.sizeOf170
 v53:=Tryz.zeroValue170
 t131:=Tryz.underlying151
 a131:=Tryz.isAgg151
 z131:=Tryz.sizeOf151
 v131:=Tryz.zeroValue151
 t182:=Tryz.underlying160
 a182:=Tryz.isAgg160
 z182:=Tryz.sizeOf160
 v182:=Tryz.zeroValue160
 t183:=Tryz.underlying161
 a183:=Tryz.isAgg161
 z183:=Tryz.sizeOf161
 v183:=Tryz.zeroValue161
 t218:=Tryz.underlying172
 a218:=Tryz.isAgg172
 z218:=Tryz.sizeOf172
 v218:=Tryz.zeroValue172
 t222:=Tryz.underlying88
 a222:=Tryz.isAgg88
 z222:=Tryz.sizeOf88
 v222:=Tryz.zeroValue88
 t228:=Tryz.underlying177
 a228:=Tryz.isAgg177
 z228:=Tryz.sizeOf177
 v228:=Tryz.zeroValue177
 t229:=Tryz.underlying178
 a229:=Tryz.isAgg178
 z229:=Tryz.sizeOf178
 v229:=Tryz.zeroValue178}
theorem D8:yY Tryz.prog 72:=fun dS off cap zs w h1 h2 h3=>Any.slices_Sort_int Cg dS off cap zs w h1 h2 h3
theorem D9:∀ (p:Option Addr) (cap:Nat) (w:World),Calls Tryz.prog 72 #[.slice p 0 cap] w fun e w'=>e= .returned (.tuple #[])/\w'=w:=fun p cap w=>Any.slices_Sort_int_none Cg p cap w
theorem y0:Enters Tryz.prog 72:=⟨_,Tryz.func72,by kernel_rfl,by kernel_rfl⟩
end Go.Proofs.YtealblliddhgiaaGreat
end
namespace Go.Proofs.YtealblliddhgiaaGreat
theorem zc(t:Tm)(ht:t.fits)(o:Nat->ae)(nx:Nat)(hg:Good o nx)(K X:V->(Nat->ae)->Nat->Prop)
 (hK:∀o' nx' id l,nx<=id->id<nx'->Good o' nx'->(∀j,j<nx->o' j=o j)->o' id=lU l->l.Nodup->(∀v,v∈l↔hO v t=true)->K (.mp id) o' nx'):
 eN Tryz.prog 71 [.d t.d] o nx K X:=by
 refine eN.bt mix P5 (by simp) ?_
 rw[U9]
 simp+contextual (disch:=first|omega|simp only[go_sem,false_implies]) only[go_sem,wrap64,if_pos,Nat.add_assoc,Nat.left_eq_add,Nat.add_eq_left,Nat.add_left_cancel_iff]
 refine ff (Mv t ht _ _ (nx+2) [] ?_ ?_ List.nodup_nil _ _ fun o2 n2 l m1 m2 m3 m4 m5=> ?_)
 ·exact(by repeat(first|exact hg.mono (by omega)|exact Good.nil|refine Good.aq ?_ (by omega) rfl|refine Good.aq ?_ (by omega) (dR _ _ _ (by omega))|refine Good.aq ?_ (by omega) (by simp[ae.refs,V.ag,V.refs]<;>omega)))
 ·(repeat(first|rfl|rw[aa]|rw[ad _ _ _ _ (by omega)]))
 simp+contextual (disch:=first|omega|simp only[go_sem,false_implies]) only[go_sem,wrap64,if_pos,and_self]
 refine hK _ _ (nx+2) l ?_ ?_ ?_ (fun j hj=> ?_) m4 m5.1 (fun v=> ?_)
 ·omega
 ·omega
 ·exact m2.mono (by omega)
 ·rw[m3 j (by omega) (by omega)];(repeat(first|rfl|rw[aa]|rw[ad _ _ _ _ (by omega)]))
 ·have:=m5.2 v
  simpa using this
def nZ:List Int->Int->List Int
 |[],n=>[n]
 |x::l,n=>if x<n then x::nZ l n else if x=n then x::l else n::x::l
def p9(op n:Int)(i:Nat)(l out:List Int):List Int:=l.foldl (fun out v=>if(op !=8||(i:Int)!=1||v !=n)=true then nZ out v else out) out
mutual
def aQ:Tm->List Int
 | .mk op n kids=>if op=1 then [n]else ke op n kids 0 []
def ke(op n:Int):List Tm->Nat->List Int->List Int
 |[],_,out=>out
 |k::l,i,out=>ke op n l (i+1) (p9 op n i (aQ k) out)
end
theorem s7(t:Tm):aQ t=if t.op=1 then [t.n]else ke t.op t.n t.kids 0 []:=by cases t;rfl
theorem s8:∀ (l:List Int) (n v:Int),v∈nZ l n↔v∈l\/v=n
 |[],n,v=>by simp[nZ]
 |x::l,n,v=>by
  simp only[nZ]
  split
  ·simp only[List.mem_cons,s8 l n v];constructor
   ·rintro(h|h|h)
    ·exact .inl (.inl h)
    ·exact .inl (.inr h)
    ·exact .inr h
   ·rintro((h|h)|h)
    ·exact .inl h
    ·exact .inr (.inl h)
    ·exact .inr (.inr h)
  ·split
   ·rename_i h;subst h;simp only[List.mem_cons];constructor
    ·exact .inl
    ·rintro(h|h)
     ·exact h
     ·exact .inl h
   ·simp only[List.mem_cons];constructor
    ·rintro(h|h)
     ·exact .inr h
     ·exact .inl h
    ·rintro(h|h)
     ·exact .inr h
     ·exact .inl h
abbrev Ew(l:List Int):Prop:=l.Pairwise (· <·)
theorem zd:∀ {l:List Int} (n:Int),Ew l->Ew (nZ l n)
 |[],n,_=>by simp[nZ]
 |x::l,n,h=>by
  have h1:=List.pairwise_cons.1 h
  simp only[nZ]
  split
  ·rename_i hx
   refine List.pairwise_cons.2 ⟨fun y hy=> ?_,zd n h1.2⟩
   rcases(s8 l n y).1 hy with hy|hy
   ·exact h1.1 y hy
   ·omega
  ·split
   ·exact h
   ·refine List.pairwise_cons.2 ⟨fun y hy=> ?_,h⟩
    rcases List.mem_cons.1 hy with hy|hy
    ·omega
    ·have:=h1.1 y hy;omega
theorem qa(op n:Int)(i:Nat):∀ (l out:List Int),Ew out->Ew (p9 op n i l out)/\∀v,v∈p9 op n i l out↔v∈out\/(v∈l/\ ¬ (op=8/\i=1/\n=v))
 |[],out,h=>⟨h,fun v=>by simp[p9]⟩
 |x::l,out,h=>by
  have hk:p9 op n i (x::l) out=p9 op n i l (if(op !=8||(i:Int)!=1||x !=n)=true then nZ out x else out):=rfl
  rw[hk]
  by_cases hc:(op !=8||(i:Int)!=1||x !=n)=true
  ·rw[if_pos hc]
   have ih:=qa op n i l (nZ out x) (zd x h)
   refine⟨ih.1,fun v=> ?_⟩
   rw[ih.2 v,s8,List.mem_cons]
   have rO: ¬ (op=8/\i=1/\n=x):=by
    rintro⟨h1,h2,h3⟩;subst h1;subst h2;subst h3;simp at hc
   constructor
   ·rintro((h|h)|h)
    ·exact .inl h
    ·subst h;exact .inr ⟨.inl rfl,rO⟩
    ·exact .inr ⟨.inr h.1,h.2⟩
   ·rintro(h|⟨h|h,h2⟩)
    ·exact .inl (.inl h)
    ·exact .inl (.inr h)
    ·exact .inr ⟨h,h2⟩
  ·rw[if_neg hc]
   have ih:=qa op n i l out h
   refine⟨ih.1,fun v=> ?_⟩
   rw[ih.2 v,List.mem_cons]
   have rO:op=8/\i=1/\n=x:=by simp at hc;exact⟨hc.1.1,by omega,hc.2.symm⟩
   constructor
   ·rintro(h|h)
    ·exact .inl h
    ·exact .inr ⟨.inr h.1,h.2⟩
   ·rintro(h|⟨h|h,h2⟩)
    ·exact .inl h
    ·subst h;exact absurd rO h2
    ·exact .inr ⟨h,h2⟩
theorem bQ:∀t:Tm,Ew (aQ t)/\∀v,v∈aQ t↔hO v t=true:=by
 refine Tm.jC fun t ih=> ?_
 have hs:∀ (l:List Tm) (i:Nat) (out:List Int),(∀k∈l,k∈t.kids)->Ew out->Ew (ke t.op t.n l i out)/\∀v,v∈ke t.op t.n l i out↔v∈out\/p8 v t.op t.n l i=true:=by
  intro l
  induction l with
  |nil=>intro i out _ h;exact⟨h,fun v=>by simp[ke,p8]⟩
  |cons k l tL=>
   intro i out hk h
   have h1:=ih k (hk k (by simp))
   have h2:=qa t.op t.n i (aQ k) out h
   have h3:=tL (i+1) _ (fun x hx=>hk x (by simp[hx])) h2.1
   refine⟨h3.1,fun v=> ?_⟩
   show v∈ke t.op t.n l (i+1) (p9 t.op t.n i (aQ k) out)↔_
   rw[h3.2 v,h2.2 v,h1.2 v,p8]
   simp only[Bool.or_eq_true,Bool.and_eq_true,Bool.not_eq_true',Bool.and_eq_false_iff,beq_eq_false_iff_ne,ne_eq,not_and]
   have:(∀ (_:t.op=8) (_:i=1), ¬t.n=v)↔((¬t.op=8\/ ¬i=1)\/ ¬t.n=v):=by
    constructor
    ·intro h
     by_cases c1:t.op=8
     ·by_cases c2:i=1
      ·exact .inr (h c1 c2)
      ·exact .inl (.inr c2)
     ·exact .inl (.inl c1)
    ·rintro((h|h)|h) c1 c2
     ·exact absurd c1 h
     ·exact absurd c2 h
     ·exact h
   rw[this]
   constructor
   ·rintro((h|h)|h)
    ·exact .inl h
    ·exact .inr (.inl h)
    ·exact .inr (.inr h)
   ·rintro(h|h|h)
    ·exact .inl (.inl h)
    ·exact .inl (.inr h)
    ·exact .inr h
 by_cases h1:t.op=1
 ·rw[s7,if_pos h1]
  refine⟨by simp,fun v=> ?_⟩
  rw[lG,if_pos h1]
  simp only[List.mem_singleton,beq_iff_eq]
  exact eq_comm
 ·rw[s7,if_neg h1]
  have:=hs t.kids 0 [] (fun _ h=>h) (by simp)
  refine⟨this.1,fun v=> ?_⟩
  rw[this.2 v,lG,if_neg h1]
  simp
theorem Gt:∀ {l l':List Int},Ew l->Ew l'->(∀v,v∈l↔v∈l')->l=l'
 |[],[],_,_,_=>rfl
 |[],y::l',_,_,h=>by have:=(h y).2 (by simp);cases this
 |x::l,[],_,_,h=>by have:=(h x).1 (by simp);cases this
 |x::l,y::l',h1,h2,h=>by
  have g1:=List.pairwise_cons.1 h1
  have g2:=List.pairwise_cons.1 h2
  have e:x=y:=by
   rcases List.mem_cons.1 ((h x).1 (by simp))with e|e
   ·exact e
   ·rcases List.mem_cons.1 ((h y).2 (by simp))with e2|e2
    ·exact e2.symm
    ·have:=g2.1 x e;have:=g1.1 y e2;omega
  subst e
  rw[Gt g1.2 g2.2 fun v=> ?_]
  constructor
  ·intro hv
   rcases List.mem_cons.1 ((h v).1 (by simp[hv]))with e|e
   ·subst e;exact absurd (g1.1 v hv) (by omega)
   ·exact e
  ·intro hv
   rcases List.mem_cons.1 ((h v).2 (by simp[hv]))with e|e
   ·subst e;exact absurd (g2.1 v hv) (by omega)
   ·exact e
theorem s9{l:List Int}{t:Tm}(hn:l.Nodup)(h:∀v,v∈l↔hO v t=true):dW l=aQ t:=by
 have hp:(dW l).Perm l:=List.mergeSort_perm _ _
 have hs:(dW l).Pairwise (fun a b=>decide (a<=b)=true):=List.pairwise_mergeSort (fun a b c h1 h2=>by simp at*;omega) (fun a b=>by simp;omega) l
 have MI:(dW l).Nodup:=hp.nodup_iff.2 hn
 refine Gt ?_ (bQ t).1 fun v=>by rw[hp.mem_iff,h v,(bQ t).2 v]
 exact(hs.and MI).imp fun {a b} h=>by have:=h.1;have:=h.2;simp at*;omega
theorem n6{α:Type}{l:List α}{i:Nat}{n:α}(h:l[i]? =some n):(n::l.eraseIdx i).Perm l:=by
 obtain⟨hi,e⟩:=List.getElem?_eq_some_iff.1 h
 have xu:l=l.take i++n::l.drop (i+1):=by rw[<- e,List.getElem_cons_drop,List.take_append_drop]
 rw[List.eraseIdx_eq_take_drop_succ]
 conv=>rhs;rw[xu]
 exact List.perm_middle.symm
theorem ze:∀ (l:List Int) (n:Int),(nZ l n).length<=l.length+1
 |[],n=>by simp[nZ]
 |x::l,n=>by
  have:=ze l n
  simp only[nZ]
  split
  ·simp;omega
  ·split<;>simp
theorem ta(op n:Int)(i:Nat):∀ (l out:List Int),(p9 op n i l out).length<=out.length+l.length
 |[],out=>by simp[p9]
 |x::l,out=>by
  have hk:p9 op n i (x::l) out=p9 op n i l (if(op !=8||(i:Int)!=1||x !=n)=true then nZ out x else out):=rfl
  rw[hk]
  have h1:=ze out x
  split
  ·have:=ta op n i l (nZ out x);simp;omega
  ·have:=ta op n i l out;simp;omega
theorem Ea:∀t:Tm,(aQ t).length<=t.sz:=by
 refine Tm.jC fun t ih=> ?_
 have hs:∀ (l:List Tm) (i:Nat) (out:List Int),(∀k∈l,k∈t.kids)->(ke t.op t.n l i out).length<=out.length+jD l:=by
  intro l
  induction l with
  |nil=>intro i out _;simp[ke]
  |cons k l tL=>
   intro i out hk
   have h1:=ih k (hk k (by simp))
   have h2:=ta t.op t.n i (aQ k) out
   have h3:=tL (i+1) (p9 t.op t.n i (aQ k) out) (fun x hx=>hk x (by simp[hx]))
   rw[cB]
   show(ke t.op t.n l (i+1) (p9 t.op t.n i (aQ k) out)).length<=_
   omega
 rw[s7,Tm.fi]
 split
 ·simp
 ·have:=hs t.kids 0 [] (fun _ h=>h);simp at this;omega
theorem Eb{s:bP}{l:List Tm}(h:eH s l=true):∀t∈l,t.sz<=40/\t.b7<=12:=by
 intro t ht
 rw[m9]at h
 simp only[iH,Bool.and_eq_true,List.all_eq_true,dP,decide_eq_true_eq,mM]at h
 have:=(h.2 t ht).1
 omega
theorem A7(s:bP)(hs:s.Fits)(t:Tm)(ht:t.Fin):cq Tryz.prog 32 [s.d,t.d] (.ret [.sl (if eH s [t]=true then(aQ t).map .i else []), .i (kM (eH s [t]))]):=by
 refine cq.bt mix PN (by simp) ?_
 rw[Ux]
 simp+contextual (disch:=first|omega|simp only[go_sem,false_implies]) only[go_sem,wrap64,if_pos,and_self]
 refine aM (wL s hs [t] (by simp) (fun x hx=>by simp at hx;subst hx;exact ht)) rfl ?_
 cases h1:eH s [t]with
 |false=>simp+contextual (disch:=first|omega|simp only[go_sem,false_implies]) only[go_sem,wrap64,if_pos,and_self];simp[kM]
 |true=>
  simp+contextual (disch:=first|omega|simp only[go_sem,false_implies]) only[go_sem,wrap64,if_pos,and_self]
  refine ff (zc t ht.fits _ _ (by repeat(first|exact hg.mono (by omega)|exact Good.nil|refine Good.aq ?_ (by omega) rfl|refine Good.aq ?_ (by omega) (dR _ _ _ (by omega))|refine Good.aq ?_ (by omega) (by simp[ae.refs,V.ag,V.refs]<;>omega))) _ _ fun o2 n2 id l m1 m2 m3 m4 m5 m6 m7=> ?_)
  have w1:id≠n2:=by omega
  have w2:∀k,id≠n2+k:=fun k=>by omega
  simp+contextual (disch:=first|omega|simp only[go_sem,false_implies]) only[go_sem,wrap64,if_pos,m5,w1,w2,Nat.add_assoc,Nat.left_eq_add,Nat.add_eq_left,Nat.add_left_cancel_iff]
  have VJ:=s9 m6 m7
  have hlen:l.length<=40:=by
   have e1:(dW l).length=l.length:=List.length_mergeSort l
   have e2:=Ea t
   have e3:=(Eb h1 t (by simp)).1
   rw[<- VJ]at e2;omega
  refine aX (fun i:List Int×List Int×Option (D×D)=>⟨bB [.ab, .ab, .ab, .ab, .ab, .ab, .osl (n2+1) 0, .ab, .ab, .ab, .ab, .ab, .ab, .ab, .ab, .ptr n2 0],aq (aq (fun _=> .no) n2 (.kg (enc (D.int .i64) (eI i.1)) i.2.2)) (n2+1) (.arr 0 3 1 (i.2.1.map .i)),n2+2⟩)
   (fun i=>i.1.length+i.2.1.length<=40/\(i.2.1++i.1).Perm l) (fun i=>i.1.length) (l,[],none) ⟨by simpa using hlen,by simp⟩ (bY.iq (fun _=>False) .aW (n2+1) _ (by omega) (fun j hj=> ?_) (by dsimp only;(repeat(first|rfl|rw[aa]|rw[ad _ _ _ _ (by omega)]))) (.inl ⟨rfl,rfl,by decide⟩) (fun j hj=>by dsimp only;(repeat(first|rfl|rw[aa]|rw[ad _ _ _ _ (by omega)]))) (fun _ h=>h.elim) ?_) ?_
  ·dsimp only
   have ne:j≠n2+1:=by omega
   simp only[aJ,ne,if_false]
   split
   ·exact aE rfl (by simp[ae.refs])
   ·exact wG
  ·try dsimp only
   (repeat(first|exact bT|refine bF ?_|refine bq rfl ?_|refine bq (aT (aS (by omega))) ?_|refine dn 0 rfl rfl rfl ?_|refine dm rfl (by simp[V.refs,V.ag]<;>first|omega|assumption) ?_|refine dp rfl (by simp[V.ids]<;>omega) ?_))
  rintro⟨rest,ir,last⟩ ⟨hl,hp⟩
  simp only at hl hp
  simp+contextual (disch:=first|omega|simp only[go_sem,false_implies]) only[go_sem,wrap64,if_pos,and_self]
  refine u9 (fun hr=> ?_) fun i m hm=> ?_
  ·subst hr
   simp+contextual (disch:=first|omega|simp only[go_sem,false_implies]) only[go_sem,wrap64,if_pos,Nat.add_assoc,Nat.left_eq_add,Nat.add_eq_left,Nat.add_left_cancel_iff]
   have Et:ir.Perm l:=by simpa using hp
   have Zs:dW ir=aQ t:=s9 (Et.nodup_iff.2 m6) fun v=>by rw[Et.mem_iff,m7 v]
   refine ff (Gs y0 D8 (zs:=ir) (by(repeat(first|rfl|rw[aa]|rw[ad _ _ _ _ (by omega)]))) D9 (by omega) ?_)
   simp+contextual (disch:=first|omega|simp only[go_sem,false_implies]) only[go_sem,wrap64,if_pos,Nat.add_assoc,Nat.left_eq_add,Nat.add_eq_left,Nat.add_left_cancel_iff]
   rw[Zs]
   simp[kM]
  ·have e1:ir.length<=140737488355328:=by omega
   have e2:ir.length*8<=140737488355328:=by omega
   have e3:ir.length<=140737488355327:=by omega
   have e4:(ir.length+1)*8<=140737488355328:=by omega
   simp+contextual (disch:=first|omega|simp only[go_sem,false_implies]) only[go_sem,wrap64,if_pos,Nat.add_assoc,Nat.left_eq_add,Nat.add_eq_left,Nat.add_left_cancel_iff,e1,e2,e3,e4]
   obtain⟨r1,r2⟩:=s6 hm
   have EJ:(rest.eraseIdx i).length+1=rest.length:=r2
   refine az (rest.eraseIdx i,ir++[m],some (.int .i64 m, .bool true)) ⟨by dsimp only;simp;omega, ?_⟩ (by dsimp only;omega) (bY.iq (fun j=>j=n2+1) (.osl (n2+1) 1) (n2+1) _ (by omega) (fun j hj=> ?_) (by dsimp only;(repeat(first|rfl|rw[aa]|rw[ad _ _ _ _ (by omega)]))) (.inr ⟨n2+1,1,rfl,rfl,by rw[aa,List.map_append];rfl⟩) (fun j hj=>by dsimp only;(repeat(first|rfl|rw[aa]|rw[ad _ _ _ _ (by omega)]))) (fun j h h2=>by omega) ?_)
   ·dsimp only
    refine List.Perm.trans ?_ hp
    rw[List.append_assoc]
    refine List.Perm.append_left _ ?_
    exact n6 hm
   ·dsimp only
    have ne:j≠n2+1:=by omega
    have Zt:j≠n2+9:=by omega
    simp only[aJ,ne,Zt,if_false]
    split
    ·exact aE rfl (by simp[ae.refs])
    ·exact wG
   ·try dsimp only
    (repeat(first|exact bT|refine bF ?_|refine bq rfl ?_|refine bq (aT (aS (by omega))) ?_|refine dn 0 rfl rfl rfl ?_|refine dm rfl (by simp[V.refs,V.ag]<;>first|omega|assumption) ?_|refine dp rfl (by simp[V.ids]<;>omega) ?_))
end Go.Proofs.YtealblliddhgiaaGreat
namespace Go.Proofs.YtealblliddhgiaaGreat
theorem Gu{o:Nat->ae}{nx:Nat}{Δ:List (Nat×ae)}(h:∀x∈Δ,x.1<nx):(hp o nx).put Δ=hp (put o Δ) nx:=by
 simp only[Hp.put,hp]
 congr 1
 funext j
 simp only[List.mem_map,eq_iff_iff]
 exact⟨fun h2=>h2.elim (fun h=>h) fun⟨x,hx,e⟩=>e ▸ h x hx, .inl⟩
theorem eN.A8 {P:Program}{g:FuncId}{args:List V}{o:Nat->ae}{nx id:Nat}{kt vt:TypeId}{l:List (D×D)}{K X:V->(Nat->ae)->Nat->Prop}(ho:o id= .map kt vt l)(aj:id<nx)
 (h:eN P g args (aq o id (.et l)) nx K X):eN P g args o nx K X:=by
 refine⟨h.1,fun M φ w vals hH hd=> ?_⟩
 obtain⟨h1,h2⟩:=vx hH (id:=id) aj ho
 have hZ:(hp o nx).put [(id, .et l)]=hp (aq o id (.et l)) nx:=Gu (fun x hx=>by simp at hx;subst hx;exact aj)
 rw[hZ]at h1 h2
 have hB:∀b, ¬ai M φ (hp o nx) b-> ¬ai M φ (hp (aq o id (.et l)) nx) b:=by
  rintro b hn (hb|⟨j,hl,hb⟩)
  ·exact hn (.inl hb)
  ·refine hn (.inr ⟨j, ?_,hb⟩)
   by_cases e:j=id
   ·subst e;show(o j).live=true;rw[ho];rfl
   ·have hl:(aq o id (.et l) j).live=true:=hl
    rw[ad _ _ _ _ e]at hl;exact hl
 refine(h.2 M φ w vals h1 (V.fY (H:=hp o nx) hB _ _ (fun j hj=>⟨?_,rfl,V.gU _ _ hd j hj⟩) hd)).mono ?_
 ·show iG (aq o id (.et l) j) (o j)
  by_cases e:j=id
  ·subst e;rw[aa,ho];exact⟨fun _=>rfl,fun e he=>by cases he⟩
  ·rw[ad _ _ _ _ e];exact iG.rfl' rfl
 ·rintro e w' ⟨ax,o',nx',v,k1,k2,k3⟩
  exact⟨ax,o',nx',v,k1,h2.trans k2,k3⟩
theorem eN.seal {P:Program}{g:FuncId}{args:List V}{o:Nat->ae}{nx:Nat}{K X:V->(Nat->ae)->Nat->Prop}
 (h:eN P g args o nx (fun v o' nx'=>∃x,dG o' v=some x/\K (.d x) (put o' (cw o' v.ids)) nx') X):eN P g args o nx K X:=by
 refine⟨h.1,fun M φ w vals hH hd=>(h.2 M φ w vals hH hd).mono ?_⟩
 rintro e w' ⟨ax,o',nx',v,k1,k2,k3⟩
 cases e with
 |returned val=>
  obtain⟨k4,x,k5,k6⟩:=k3
  have hu:=fun id aj=>cJ v val k4 id aj
  obtain⟨f1,f2,f3,f4,f5⟩:=cM (H:=hp o' nx') k1 v.ids hu
  have hZ:(hp o' nx').put (cw o' v.ids)=hp (put o' (cw o' v.ids)) nx':=Gu (fun y hy=>by
   simp only[cw,List.mem_map]at hy
   obtain⟨id,aj,rfl⟩:=hy
   exact hu id aj)
  have XP:=f1;have XQ:=f2
  rw[show cw (hp o' nx').o v.ids=cw o' v.ids from rfl,hZ]at XP XQ
  have Rt:∀k,bR ax ((hp o' nx').put (cw o' v.ids)) k->bR ax (hp o' nx') k:=by
   rintro k ⟨id,g1,g2⟩
   by_cases aj:id∈v.ids
   ·have:=f3 id aj
    rw[show((hp o' nx').put (cw o' v.ids)).o id=_ from this]at g1
    refine⟨id, ?_,g2⟩
    revert g1
    cases(hp o' nx').o id<;>simp[ae.fz,ae.live]
   ·have:=f4 id aj
    rw[show((hp o' nx').put (cw o' v.ids)).o id=_ from this]at g1
    exact⟨id,g1,g2⟩
  have h4:V.den (ai M ax ((hp o' nx').put (cw o' v.ids))) ax ((hp o' nx').put (cw o' v.ids)) w' v val:=
   V.jv (H:=hp o' nx') (fun k h h'=>h (h'.imp id (Rt k))) v val (fun id aj=>by
     have dB:(hp o' nx').us id:=(V.kI v val k4) id aj
     refine⟨?_,rfl,(f5 id).2 dB⟩
     by_cases hm:id∈v.ids
     ·rw[show((hp o' nx').put (cw o' v.ids)).o id=_ from f3 id hm];exact iG.fz _
     ·rw[show((hp o' nx').put (cw o' v.ids)).o id=_ from f4 id hm];exact iG.rfl' rfl) k4
  have h5:=ed f1 (o:=o') v x val (fun id aj=>f3 id aj) k5 h4
  rw[show(hp o' nx').put (cw (hp o' nx').o v.ids)=hp (put o' (cw o' v.ids)) nx' from hZ]at h5
  exact⟨ax,_,nx', .d x,XP,k2.trans XQ,h5,k6⟩
 |panicked ch=>exact⟨ax,o',nx',v,k1,k2,k3⟩
 |outgrown=>exact k3.elim
end Go.Proofs.YtealblliddhgiaaGreat
namespace Go.Proofs.YtealblliddhgiaaGreat
section
variable {B:Nat->Prop}{w:World}
theorem A9{l l':List (D×D)}(hl:l.Perm l'):∀ {p:List MapEntry},aH B w l p->∃p',p'.Perm p/\aH B w l' p':=by
 induction hl with
 |nil=>intro p h;exact⟨p,List.Perm.refl _,h⟩
 |cons x _ ih=>
  intro p h
  obtain⟨k,v⟩:=x
  obtain⟨e,es,rfl,h1,h2,h3⟩:=h
  obtain⟨p',g1,g2⟩:=ih h3
  exact⟨e::p',g1.cons _,_,_,rfl,h1,h2,g2⟩
 |swap x y t=>
  intro p h
  obtain⟨k,v⟩:=x
  obtain⟨k',v'⟩:=y
  obtain⟨e,es,rfl,h1,h2,e',es',rfl,lX,w9,h3⟩:=h
  exact⟨e'::e::es',List.Perm.swap _ _ _,_,_,rfl,lX,w9,_,_,rfl,h1,h2,h3⟩
 |trans _ _ Tc Td=>
  intro p h
  obtain⟨l1,g1,g2⟩:=Tc h
  obtain⟨l2,g3,g4⟩:=Td g2
  exact⟨l2,g3.trans g1,g4⟩
theorem D.Ec {l l':List (D×D)}(hl:l.Perm l')(hk:og (l.map (·.1))){v:Value}(h:D.den B w (.mp (l.map (·.1)) (l.map (·.2))) v):D.den B w (.mp (l'.map (·.1)) (l'.map (·.2))) v:=by
 obtain⟨m,es,clock,l2,h1,h2,h3,h4,h5,h6⟩:=lb h
 have hp:l2.Perm l':=h5.perm.trans hl
 obtain⟨p,g1,g2⟩:=A9 hp h6
 obtain⟨g3,g4⟩:=(iU _ _).1 g2
 have NM:(l'.map (·.1)).Perm (l.map (·.1)):=(hl.map _).symm
 exact⟨m,es,clock,p,h1,h2,h3,h4, .inr ⟨g1,NM.nodup_iff.2 hk.1,fun k h=>hk.2 k (NM.mem_iff.1 h)⟩,g3,g4⟩
end
theorem cq.zf {P:Program}{f:FuncId}{ds:List D}{out:D}(h:eN P f (ds.map .d) (fun _=> .no) 0 (fun v o _=>∃x,dG o v=some x/\∀B w val,D.den B w x val->D.den B w out val) (fun _ _ _=>False)):cq P f ds (.ret [out]):=by
 refine⟨h.1,fun M w vals hM hd=> ?_⟩
 let cC:Place:=fun _=> .nilFunc
 have nN:∀b, ¬bR cC (hp (fun _=> .no) 0) b:=by rintro b ⟨id,hl,_⟩;simp[hp,ae.live]at hl
 refine(h.2 M cC w vals (kC cC hM) ((V.ck _ _).2 (D.aI (w:=w) (w':=w) (B:=M) (fun b _ hB=>⟨rfl,fun h=>h.elim hB (nN b)⟩) _ _ hd))).mono ?_
 rintro e w' ⟨ax,o',nx',v,k1,k2,k3⟩
 have ux:eM (fun _=>False) w w':=⟨k2.cg.os,k2.cg.tape,k2.cg.output,k2.cg.size,fun k hk _=>k2.cg.block k hk (nN k)⟩
 refine⟨ux, ?_⟩
 cases e with
 |outgrown=>exact k3.elim
 |panicked ch=>obtain⟨_,_,_,h⟩:=k3;exact h.elim
 |returned val=>
  obtain⟨g1,x,g2,g3⟩:=k3
  obtain⟨f1,f2,f3,f4,f5⟩:=cM k1 v.ids (fun id aj=>cJ v val g1 id aj)
  have h3:=ed f1 (o:=o') v x val (fun id aj=>f3 id aj) g2 (V.aC f2 _ _ g1)
  exact g3 _ _ _ (D.aC (w:=w') (w':=w') (fun k _ hB=>⟨rfl,fun hM=>hB (.inl hM)⟩) x val h3)
end Go.Proofs.YtealblliddhgiaaGreat
namespace Go.Proofs.YtealblliddhgiaaGreat
@[reducible] def NN (m:List (Int×D)):D:= .mp ((enc (D.int .i64) m).map (·.1)) ((enc (D.int .i64) m).map (·.2))
theorem jS(m:List (Int×D)):(((enc (D.int .i64) m).map (·.1)).zip ((enc (D.int .i64) m).map (·.2)))=enc (D.int .i64) m:=Ir _ m
theorem zg{m:List (Int×D)}(h:(m.map (·.1)).Nodup):og ((enc (D.int .i64) m).map (·.1)):=by
 have e:(enc (D.int .i64) m).map (·.1)=(m.map (·.1)).map (D.int .i64):=by simp[enc,Function.comp_def]
 rw[e]
 refine⟨?_,fun k hk=> ?_⟩
 ·have inj:∀l:List Int,l.Nodup->(l.map (D.int .i64)).Nodup:=by
   intro l
   induction l with
   |nil=>intro _;exact List.nodup_nil
   |cons x l ih=>
    intro h
    rw[List.nodup_cons]at h
    rw[List.map_cons,List.nodup_cons]
    refine⟨fun hm=> ?_,ih h.2⟩
    obtain⟨y,hy,he⟩:=List.mem_map.1 hm
    injection he with _ he
    subst he
    exact h.1 hy
  exact inj _ h
 ·obtain⟨n,_,rfl⟩:=List.mem_map.1 hk
  exact⟨n,rfl⟩
theorem zh(t:Tm)(ht:t.fits):cq Tryz.prog 71 [t.d] (.ret [NN (eI (aQ t))]):=by
 refine cq.zf (zc t ht _ _ (by repeat(first|exact hg.mono (by omega)|exact Good.nil|refine Good.aq ?_ (by omega) rfl|refine Good.aq ?_ (by omega) (dR _ _ _ (by omega))|refine Good.aq ?_ (by omega) (by simp[ae.refs,V.ag,V.refs]<;>omega))) _ _ fun o' nx' id l _ _ _ _ ho hn hm=> ?_)
 refine⟨_,by simp only[dG,ho];rfl,fun B w val h=> ?_⟩
 have hp:l.Perm (aQ t):=by
  rw[<- s9 hn hm]
  exact(List.mergeSort_perm _ _).symm
 have h1:(enc (D.int .i64) (eI l)).Perm (enc (D.int .i64) (eI (aQ t))):=(hp.map _).map _
 refine D.Ec h1 (zg ?_) h
 simpa[eI,Function.comp_def]using hn
end Go.Proofs.YtealblliddhgiaaGreat
namespace Go.Proofs.YtealblliddhgiaaGreat
theorem Gv(a b:List Tm)(ha:a.length<=9223372036854775807)(hb:b.length<=9223372036854775807)(g:Nat)(h:∀x∈a,∀y∈b,cq Tryz.prog g [x.d,y.d] (.ret [.bool (o9 x y)]))(o:Nat->ae)(nx:Nat)(hg:Good o nx)(K X:V->(Nat->ae)->Nat->Prop)
 (hK:∀o' nx',nx<=nx'->Good o' nx'->(∀j,j<nx->o' j=o j)->K (.d (.bool (a.length==b.length&&jt a b))) o' nx'):
 eN Tryz.prog 111 [.d (.sl (a.map Tm.d)), .d (.sl (b.map Tm.d)), .func (.func g) [] []] o nx K X:=by
 refine eN.bt mix JU (by simp) ?_
 rw[LZ]
 simp+contextual (disch:=first|omega|simp only[go_sem,false_implies]) only[go_sem,wrap64,if_pos,Nat.add_assoc,Nat.left_eq_add,Nat.add_eq_left,Nat.add_left_cancel_iff]
 refine ay (fun h1=> ?_) (fun h1=> ?_)
 ·simp+contextual (disch:=first|omega|simp only[go_sem,false_implies]) only[go_sem,wrap64,if_pos,and_self]
  have:(a.length==b.length&&jt a b)=false:=by
   have:(a.length==b.length)=false:=by
    rw[Bool.eq_false_iff];intro h
    simp at h;simp[h]at h1
   rw[this];rfl
  rw[this]at hK
  exact hK _ _ (by omega) (hg.mono (by omega)) (fun _ _=>rfl)
 ·have hl:a.length=b.length:=by simp at h1;omega
  have Ht:(a.length==b.length)=true:=by simpa using hl
  rw[Ht,Bool.true_and]at hK
  simp+contextual (disch:=first|omega|simp only[go_sem,false_implies]) only[go_sem,wrap64,if_pos,Nat.add_assoc,Nat.left_eq_add,Nat.add_eq_left,Nat.add_left_cancel_iff]
  refine aX (fun k:Nat=>⟨bB [.d (.sl (a.map Tm.d)), .d (.sl (b.map Tm.d)), .func (.func g) [] [], .ab, .ab, .ab, .ab, .ab, .ab, .ab, .ab, .ab, .ab, .ab, .ab, .d (.sl (a.map Tm.d)), .d (.i a.length), .d (.i k)],o,nx⟩)
   (fun k=>k<=a.length/\∀i,i<k->∀x y,a[i]? =some x->b[i]? =some y->o9 x y=true) (fun k=>a.length - k) 0 ⟨Nat.zero_le _,fun i h=>by omega⟩ (bY.cT _ (Nat.le_refl _) (by omega) hg (fun _ _=>rfl) ?_) (fun k hk=> ?_)
  ·(repeat(first|exact aw|refine ao ?_|refine ah rfl ?_|refine ah (aT (aS (by omega))) ?_|refine aF rfl (by simp[V.refs,V.ag]<;>first|omega|assumption) ?_))
  simp+contextual (disch:=first|omega|simp only[go_sem,false_implies]) only[go_sem,wrap64,if_pos,and_self]
  refine ay (fun h2=> ?_) (fun h2=> ?_)
  ·simp at h2
   obtain⟨x,hx⟩:=a7 h2
   obtain⟨y,hy⟩:=a7 (l:=b) (k:=k) (by omega)
   simp+contextual (disch:=first|omega|simp only[go_sem,false_implies]) only[go_sem,wrap64,if_pos,hx,hy,Nat.add_assoc,Nat.left_eq_add,Nat.add_eq_left,Nat.add_left_cancel_iff]
   refine aM (h x (List.mem_of_getElem? hx) y (List.mem_of_getElem? hy)) rfl ?_
   simp+contextual (disch:=first|omega|simp only[go_sem,false_implies]) only[go_sem,wrap64,if_pos,and_self]
   refine ay (fun h3=> ?_) (fun h3=> ?_)
   ·simp+contextual (disch:=first|omega|simp only[go_sem,false_implies]) only[go_sem,wrap64,if_pos,and_self]
    simp at h3
    have:jt a b=false:=by
     rw[Bool.eq_false_iff];intro h4
     have:=(mZ _ _ hl).1 h4 k x y hx hy
     rw[h3]at this;cases this
    rw[this]at hK
    refine hK _ _ (by omega) ?_ (fun j hj=>by(repeat(first|rfl|rw[aa]|rw[ad _ _ _ _ (by omega)])))
    exact(by repeat(first|exact hg.mono (by omega)|exact Good.nil|refine Good.aq ?_ (by omega) rfl|refine Good.aq ?_ (by omega) (dR _ _ _ (by omega))|refine Good.aq ?_ (by omega) (by simp[ae.refs,V.ag,V.refs]<;>omega)))
   ·simp+contextual (disch:=first|omega|simp only[go_sem,false_implies]) only[go_sem,wrap64,if_pos,and_self]
    simp at h3
    refine az (k+1) ⟨h2,fun i hi u v hu hv=> ?_⟩ (by omega) (bY.cT _ (Nat.le_refl _) (by omega) hg (fun j hj=>by(repeat(first|rfl|rw[aa]|rw[ad _ _ _ _ (by omega)]))) ?_)
    ·by_cases e:i=k
     ·subst e
      rw[hx]at hu;rw[hy]at hv
      injection hu with hu;injection hv with hv;subst hu;subst hv;exact h3
     ·exact hk.2 i (by omega) u v hu hv
    ·(repeat(first|exact aw|refine ao ?_|refine ah rfl ?_|refine ah (aT (aS (by omega))) ?_|refine aF rfl (by simp[V.refs,V.ag]<;>first|omega|assumption) ?_))
  ·simp+contextual (disch:=first|omega|simp only[go_sem,false_implies]) only[go_sem,wrap64,if_pos,and_self]
   simp at h2
   have:jt a b=true:=(mZ _ _ hl).2 fun i x y hx hy=>hk.2 i (by have:=(List.getElem?_eq_some_iff.1 hx).1;omega) x y hx hy
   rw[this]at hK
   exact hK _ _ (by omega) (hg.mono (by omega)) (fun _ _=>rfl)
theorem Iw:∀a:Tm,a.fits->∀b:Tm,b.fits->cq Tryz.prog 75 [a.d,b.d] (.ret [.bool (o9 a b)]):=by
 refine Tm.jC fun a ih ha b hb=> ?_
 have NO:=(Tm.dy _).1 ha
 have Hf:=(Tm.dy _).1 hb
 refine cq.bt mix P8 (by simp) ?_
 rw[Vd,yO]
 simp+contextual (disch:=first|omega|simp only[go_sem,false_implies]) only[go_sem,wrap64,if_pos,and_self]
 refine ym (ay (fun h1=> ?_) (fun h1=> ?_))
 ·rw[h1]
  simp+contextual (disch:=first|omega|simp only[go_sem,false_implies]) only[go_sem,wrap64,if_pos,h1]
  refine cQ (Gv a.kids b.kids NO.1 Hf.1 75 (fun x hx y hy=>ih x hx (NO.2 x hx) y (Hf.2 y hy)) _ _ (by repeat(first|exact hg.mono (by omega)|exact Good.nil|refine Good.aq ?_ (by omega) rfl|refine Good.aq ?_ (by omega) (dR _ _ _ (by omega))|refine Good.aq ?_ (by omega) (by simp[ae.refs,V.ag,V.refs]<;>omega))) _ _ fun o2 n2 m1 m2 m3=> ?_)
  simp+contextual (disch:=first|omega|simp only[go_sem,false_implies]) only[go_sem,wrap64,if_pos,h1]
 ·rw[h1]
  simp+contextual (disch:=first|omega|simp only[go_sem,false_implies]) only[go_sem,wrap64,if_pos,h1]
theorem fZ(n:Int):cq Tryz.prog 65 [.i n] (.ret [(Tm.mk 1 n []).d]):=by
 refine cq.bt mix P4 (by simp) ?_
 rw[U3]
 simp+contextual (disch:=first|omega|simp only[go_sem,false_implies]) only[go_sem,wrap64,if_pos,and_self]
 rw[Tm.sB]
 rfl
theorem Mw(n:Int):cq Tryz.prog 73 [.i n] (.ret [(Tm.mk 1 n []).d]):=by
 refine cq.bt mix P6 (by simp) ?_
 rw[Vb]
 simp+contextual (disch:=first|omega|simp only[go_sem,false_implies]) only[go_sem,wrap64,if_pos,and_self]
 rw[Tm.sB]
 rfl
theorem Gw(cid:Nat)(n:Int)(v:V)(o:Nat->ae)(nx:Nat)(ho:o cid= .row [.d (.i n),v])(hn:0<=n/\n<=1000000)(hg:Good o nx)(K X:V->(Nat->ae)->Nat->Prop)
 (hK:K (.d (.i n)) (aq o cid (.row [.d (.i (n+1)),v])) (nx+15)):eN Tryz.prog 142 [.ptr cid 0] o nx K X:=by
 refine eN.bt mix J7 (by simp) ?_
 rw[Mc]
 simp+contextual (disch:=first|omega|simp only[go_sem,false_implies]) only[go_sem,wrap64,if_pos,ho,Nat.add_assoc,Nat.left_eq_add,Nat.add_eq_left,Nat.add_left_cancel_iff]
 rw[show n+1 - 1=n by omega]
 exact hK
end Go.Proofs.YtealblliddhgiaaGreat
namespace Go.Proofs.YtealblliddhgiaaGreat
def lk:List (Int×Int)->Int->Option Int
 |[],_=>none
 |p::m,v=>if p.1=v then some p.2 else lk m v
mutual
def bL:Tm->List (Int×Int)->List (Int×Int)->Int->Tm×List (Int×Int)×Int
 | .mk op n kids,bd,fr,nx=>
   if op=1 then(match lk bd n with
    |some k=>(.mk 1 k [],fr,nx)
    |none=>match lk fr n with
     |some k=>(.mk 1 k [],fr,nx)
     |none=>(.mk 1 nx [],fr++[(n,nx)],nx+1))
   else if op=8 then(.mk 8 nx (bg kids bd ((n,nx)::bd) 0 fr (nx+1)).1,(bg kids bd ((n,nx)::bd) 0 fr (nx+1)).2)
   else(.mk op n (bg kids bd bd 0 fr nx).1,(bg kids bd bd 0 fr nx).2)
def bg:List Tm->List (Int×Int)->List (Int×Int)->Nat->List (Int×Int)->Int->List Tm×List (Int×Int)×Int
 |[],_,_,_,fr,nx=>([],fr,nx)
 |k::l,bd,inn,i,fr,nx=>
  ((bL k (if i=1 then inn else bd) fr nx).1::(bg l bd inn (i+1) (bL k (if i=1 then inn else bd) fr nx).2.1 (bL k (if i=1 then inn else bd) fr nx).2.2).1,
    (bg l bd inn (i+1) (bL k (if i=1 then inn else bd) fr nx).2.1 (bL k (if i=1 then inn else bd) fr nx).2.2).2)
end
theorem pk(t:Tm)(bd fr:List (Int×Int))(nx:Int):bL t bd fr nx=if t.op=1 then(match lk bd t.n with
 |some k=>(.mk 1 k [],fr,nx)
 |none=>match lk fr t.n with
  |some k=>(.mk 1 k [],fr,nx)
  |none=>(.mk 1 nx [],fr++[(t.n,nx)],nx+1))
 else if t.op=8 then(.mk 8 nx (bg t.kids bd ((t.n,nx)::bd) 0 fr (nx+1)).1,(bg t.kids bd ((t.n,nx)::bd) 0 fr (nx+1)).2)
 else(.mk t.op t.n (bg t.kids bd bd 0 fr nx).1,(bg t.kids bd bd 0 fr nx).2):=by cases t;rfl
theorem iu:∀ (t:Tm) (bd fr:List (Int×Int)) (nx:Int),nx<=(bL t bd fr nx).2.2/\(bL t bd fr nx).2.2<=nx+t.sz:=by
 refine Tm.jC fun t ih bd fr nx=> ?_
 have hs:∀ (l:List Tm) (bd inn fr:List (Int×Int)) (i:Nat) (nx:Int),(∀k∈l,k∈t.kids)->nx<=(bg l bd inn i fr nx).2.2/\(bg l bd inn i fr nx).2.2<=nx+jD l:=by
  intro l
  induction l with
  |nil=>intro bd inn fr i nx _;simp[bg,jD]
  |cons k l tL=>
   intro bd inn fr i nx hk
   simp only[bg,cB]
   have h1:=ih k (hk k (by simp)) (if i=1 then inn else bd) fr nx
   have h2:=tL bd inn (bL k (if i=1 then inn else bd) fr nx).2.1 (i+1) (bL k (if i=1 then inn else bd) fr nx).2.2 (fun x hx=>hk x (by simp[hx]))
   omega
 rw[pk,Tm.fi]
 have h0:=hs t.kids bd bd fr 0 nx (fun _ h=>h)
 have h8:=hs t.kids bd ((t.n,nx)::bd) fr 0 (nx+1) (fun _ h=>h)
 split
 ·split
  ·simp only;omega
  ·split<;>(simp only;omega)
 ·split<;>(simp only;omega)
abbrev ni(m:List (Int×Int)):Prop:=(m.map (·.1)).Nodup
theorem Ch{m:List (Int×Int)}{v:Int}:lk m v=none↔v∉m.map (·.1):=by
 induction m with
 |nil=>simp[lk]
 |cons p m ih=>
  simp only[lk,List.map_cons,List.mem_cons,not_or]
  by_cases h:p.1=v
  ·simp[h]
  ·rw[if_neg h,ih]
   exact⟨fun h2=>⟨fun e=>h e.symm,h2⟩,fun h2=>h2.2⟩
theorem Ci{m:List (Int×Int)}{v k:Int}(hk:ni m):lk m v=some k↔(v,k)∈m:=by
 induction m with
 |nil=>simp[lk]
 |cons p m ih=>
  rw[ni,List.map_cons,List.nodup_cons]at hk
  simp only[lk,List.mem_cons]
  by_cases h:p.1=v
  ·rw[if_pos h]
   constructor
   ·intro e;injection e with e;exact .inl (by rw[<- h, <- e])
   ·rintro(e|e)
    ·rw[<- e]
    ·exact absurd (h ▸ List.mem_map.2 ⟨_,e,rfl⟩) hk.1
  ·rw[if_neg h,ih hk.2]
   constructor
   ·exact .inr
   ·rintro(e|e)
    ·exact absurd (by rw[<- e]) h
    ·exact e
theorem Ix{m m':List (Int×Int)}(hk:ni m)(h:m.Perm m')(v:Int):lk m v=lk m' v:=by
 have IL:ni m':=(h.map _).nodup_iff.1 hk
 cases h1:lk m' v with
 |none=>rw[Ch]at h1|-;rwa [(h.map _).mem_iff]
 |some k=>rw[Ci IL]at h1;rw[Ci hk];exact h.mem_iff.2 h1
def ints(m:List (Int×Int)):List (Int×D):=m.map fun p=>(p.1,D.i p.2)
theorem qb:∀ (m:List (Int×Int)) (v:Int) (i:Nat),(match fy v (ints m) i with|some (_,x)=>some x|none=>none)=(lk m v).map D.i
 |[],v,i=>rfl
 |p::m,v,i=>by
  have ih:=qb m v (i+1)
  simp only[ints,List.map_cons,fy,lk]at ih|-
  by_cases h:v=p.1
  ·subst h;simp
  ·have h2: ¬p.1=v:=fun e=>h e.symm
   simp only[beq_iff_eq,h,h2,if_false]
   exact ih
theorem pn{m:List (Int×Int)}{v k:Int}(h:lk m v=some k):∃j,fy v (ints m) 0=some (j,D.i k):=by
 have:=qb m v 0
 rw[h]at this
 cases ha:fy v (ints m) 0 with
 |none=>rw[ha]at this;cases this
 |some p=>obtain⟨j,x⟩:=p;rw[ha]at this;simp at this;exact⟨j,by rw[this]⟩
theorem lH{m:List (Int×Int)}{v:Int}(h:lk m v=none):fy v (ints m) 0=none:=by
 have:=qb m v 0
 rw[h]at this
 cases ha:fy v (ints m) 0 with
 |none=>rfl
 |some p=>obtain⟨j,x⟩:=p;rw[ha]at this;cases this
theorem tc{m:List (Int×Int)}{v k:Int}(h:lk m v=none):wK v (D.i k) (ints m)=ints (m++[(v,k)]):=by
 unfold wK;rw[lH h];simp[ints]
end Go.Proofs.YtealblliddhgiaaGreat
