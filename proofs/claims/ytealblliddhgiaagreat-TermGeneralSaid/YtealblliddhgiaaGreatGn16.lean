/-
  A PART OF THE PROOF. Conditions: none.
-/
import Derived.Shelf.Sort.Plain
import Derived.Shelf.Slices.In.SortNone
import Derived.Test.YtealblliddhgiaaGreatGn15
set_option linter.unusedSimpArgs false
set_option linter.unusedVariables false
namespace Go.Proofs.YtealblliddhgiaaGreat
def Tm.sz (t:Tm):Nat:=(pre t 1).length
def mF(l:List Tm):Nat:=(l.map Tm.sz).sum
theorem Tm.uB (t:Tm):t.A8=(t.sz:Int):=rfl
theorem Tm.iQ (t:Tm):t.sz=1+mF t.kids:=by
 unfold Tm.sz mF
 rw[l9,List.length_cons,List.length_flatMap,Nat.add_comm]
 congr 2
 exact List.map_congr_left fun k hk=>rS k _ _
theorem Tm.Ia (op n:Int)(l:List Tm):(Tm.mk op n l).sz=1+mF l:=Tm.iQ _
theorem dL(k:Tm)(l:List Tm):mF (k::l)=k.sz+mF l:=by simp[mF]
theorem Tm.nn (t:Tm):1<=t.sz:=by rw[Tm.iQ];omega
theorem lE(k:Tm)(l:List Tm):Tm.dQ (k::l)=Nat.max k.ck (Tm.dQ l):=by simp[Tm.dQ]
theorem sN:∀ (l:List Tm) (n:Nat),Tm.dQ l<=n↔∀k∈l,k.ck<=n
 |[],n=>by simp[Tm.dQ]
 |x::l,n=>by
  rw[lE]
  simp only[List.mem_cons,forall_eq_or_imp, <- sN l n]
  exact Nat.max_le
theorem Tm.ec (t:Tm):t.ck=1+Tm.dQ t.kids:=by cases t;simp[Tm.ck,Tm.kids]
theorem FO:∀t:Tm,∀left depth:Int,iL t left depth=if(t.sz:Int)<=left/\(t.ck:Int)<=depth then left - t.sz else -1:=by
 refine Tm.eO fun t ih left depth=> ?_
 have hs:∀ (l:List Tm) (left d:Int),(∀k∈l,k∈t.kids)->0<=left->0<=d->cw l left d=if(mF l:Int)<=left/\(Tm.dQ l:Int)<=d then left - mF l else -1:=by
  intro l
  induction l with
  |nil=>intro left d _ h1 h2;simp[cw,mF,Tm.dQ,h1,h2]
  |cons k l AX=>
   intro left d hk h1 h2
   simp only[cw,if_pos h1]
   rw[ih k (hk k (by simp))]
   have hm:(Tm.dQ (k::l):Int)<=d↔(k.ck:Int)<=d/\(Tm.dQ l:Int)<=d:=by
    have:= @Nat.max_le k.ck (Tm.dQ l) d.toNat
    have e:Tm.dQ (k::l)=max k.ck (Tm.dQ l):=lE k l
    rw[e];omega
   simp only[dL,hm]
   by_cases hc:(k.sz:Int)<=left/\(k.ck:Int)<=d
   ·rw[if_pos hc,AX _ _ (fun x hx=>hk x (by simp[hx])) (by omega) h2]
    by_cases tk:(mF l:Int)<=left - k.sz/\(Tm.dQ l:Int)<=d
    ·rw[if_pos tk,if_pos (by omega)];omega
    ·rw[if_neg tk,if_neg (by omega)]
   ·rw[if_neg hc,oR (by omega),if_neg (by omega)]
 rw[A0,Tm.iQ,Tm.ec]
 by_cases h:left<1\/depth<1
 ·rw[if_pos h,if_neg (by omega)]
 ·rw[if_neg h,hs _ _ _ (fun _ h=>h) (by omega) (by omega)]
  by_cases hc:(mF t.kids:Int)<=left - 1/\(Tm.dQ t.kids:Int)<=depth - 1
  ·rw[if_pos hc,if_pos (by omega)];omega
  ·rw[if_neg hc,if_neg (by omega)]
theorem jS(t:Tm)(left depth:Int):0<=iL t left depth↔(t.sz:Int)<=left/\(t.ck:Int)<=depth:=by
 rw[FO];split<;>omega
theorem jT(t:Tm):iZ t=true↔t.sz<=50/\t.ck<=14:=by
 simp only[iZ,decide_eq_true_eq,jS];omega
theorem Tm.Ps.A9 {t:Tm}(hf:t.fits)(h:iZ t=true):t.Ps:=by
 rw[jT]at h
 exact⟨⟨hf,by omega⟩,by rw[Tm.uB];omega⟩
theorem FP:∀ (t:Tm) (d m:Int),(∀x∈pre t d,x.2<=m)↔d+t.ck - 1<=m:=by
 refine Tm.eO fun t ih d m=> ?_
 rw[l9,Tm.ec]
 simp only[List.mem_cons,forall_eq_or_imp,List.mem_flatMap]
 have h1:(∀x:Tm×Int,(∃k,k∈t.kids/\x∈pre k (d+1))->x.2<=m)↔∀k∈t.kids,d+1+k.ck - 1<=m:=by
  constructor
  ·intro h k hk
   exact(ih k hk _ _).1 fun x hx=>h x ⟨k,hk,hx⟩
  ·rintro h x ⟨k,hk,hx⟩
   exact(ih k hk _ _).2 (h k hk) x hx
 rw[h1]
 constructor
 ·rintro⟨h2,h3⟩
  have:=(sN t.kids (m - d).toNat).2 fun k hk=>by have:=h3 k hk;omega
  omega
 ·intro h
  have:=(sN t.kids (m - d).toNat).1 (by omega)
  exact⟨by omega,fun k hk=>by have:=this k hk;omega⟩
theorem D9(p:Tm->Bool):∀ (t:Tm) (d:Int),(pre t d).all (fun x=>p x.1)=(p t&&t.kids.all fun k=>(pre k (d+1)).all fun x=>p x.1):=by
 intro t d
 rw[l9,List.all_cons,List.all_flatMap]
theorem uC(s:aO):∀ (t:Tm) (d:Int),im s t=(pre t d).all fun x=>bu s x.1:=by
 refine Tm.eO fun t ih d=> ?_
 rw[D9 (bu s),lC]
 congr 1
 rw[Bool.eq_iff_iff]
 simp only[List.all_eq_true (l:=t.kids)]
 exact forall_congr' fun k=>forall_congr' fun hk=>by rw[ih k hk (d+1)]
theorem CW:∀ (t:Tm) (d:Int),eE t=(pre t d).all fun x=>(decide (1<=x.1.op)&&decide (x.1.op<=3))||x.1.op==5:=by
 refine Tm.eO fun t ih d=> ?_
 rw[D9 (fun t=>(decide (1<=t.op)&&decide (t.op<=3))||t.op==5),qQ,Bool.and_comm]
 congr 1
 rw[Bool.eq_iff_iff]
 simp only[List.all_eq_true (l:=t.kids)]
 exact forall_congr' fun k=>forall_congr' fun hk=>by rw[ih k hk (d+1)]
theorem Ba{s:aO}{t:Tm}(h:bu s t=true):eX t.op 1 15=true:=by
 rw[show eX t.op 1 15=true↔1<=t.op/\t.op<=15 by simp[eX]]
 by_cases h6:eX t.op 6 15=true
 ·simp[eX]at h6;omega
 ·simp only[bu,if_neg h6]at h
  by_cases h1:t.op=1
  ·omega
  by_cases h2:t.op=2
  ·omega
  by_cases h3:t.op=3
  ·omega
  by_cases h4:t.op=4
  ·omega
  by_cases h5:t.op=5
  ·omega
  by_cases h8:t.op=8
  ·omega
  rw[if_neg h1,if_neg h2,if_neg h3,if_neg h4,if_neg h5,if_neg h8]at h
  cases h
def uD(s:aO)(x:Tm×Int):Bool:= !(decide (12<x.2)|| !eX x.1.op 1 15|| !bu s x.1)
theorem rT(s:aO):∀ (l:List (Tm×Int)) (n:Int) (b:Bool),(aL (sw fJ (gJ s)) (n,b) l).2=(decide (l=[]\/n+l.length<=40)&&l.all (uD s))
 |[],n,b=>by simp[aL]
 |x::l,n,b=>by
  have e1:∀c,nU s n x=c->sw fJ (gJ s) (n,b) x=((n+1, !c), !c):=fun c hc=>by show((n+1, !nU s n x),(fJ (n+1, !nU s n x)).isNone)=_;rw[hc];cases c<;>rfl
  have hb:nU s n x=(decide (40<n+1)|| !uD s x):=by simp[nU,uD,Bool.or_assoc]
  rw[List.all_cons]
  cases hg:uD s x with
  |false=>
   have e:nU s n x=true:=by rw[hb,hg];simp
   rw[aL,e1 _ e];simp
  |true=>
   by_cases h40:40<n+1
   ·have:decide (x::l=[]\/n+(x::l).length<=40)=false:=by simp;omega
    have e:nU s n x=true:=by rw[hb];simp[h40]
    rw[this,Bool.false_and,aL,e1 _ e];simp
   ·have e:nU s n x=false:=by rw[hb,hg];simp;omega
    rw[aL,e1 _ e]
    simp only[Bool.not_false,if_true,rT s l,Bool.true_and]
    congr 1
    cases l with
    |nil=>simp;omega
    |cons y l=>simp;omega
theorem iz(s:aO)(t:Tm):iF s t=bL s t:=by
 rw[iF,rT,bL,uC s t 1,Bool.eq_iff_iff]
 have hn:pre t 1≠[]:=by rw[l9];simp
 simp only[Bool.and_eq_true,decide_eq_true_eq,hn,false_or,jS,List.all_eq_true]
 have hd:=FP t 1 12
 constructor
 ·rintro⟨h1,h2⟩
  have h3:∀x∈pre t 1,x.2<=12:=fun x hx=>by have:=h2 x hx;simp[uD]at this;omega
  have:=hd.1 h3
  exact⟨⟨by unfold Tm.sz;omega,by omega⟩,fun x hx=>by have:=h2 x hx;simp[uD]at this;exact this.2⟩
 ·rintro⟨⟨h1,h2⟩,h3⟩
  have h4:=hd.2 (by omega)
  refine⟨by unfold Tm.sz at h1;omega,fun x hx=> ?_⟩
  have h5:=h4 x hx
  have h6:=h3 x hx
  have h7:=Ba h6
  simp[uD,h6,h7];omega
theorem uE:∀ (l:List (Tm×Int)) (b:Bool),(aL (sw vJ (fun _ x=> !qa x)) b l).2=l.all fun x=> !qa x
 |[],b=>rfl
 |x::l,b=>by
  have e1:∀c,qa x=c->sw vJ (fun _ x=> !qa x) b x=(!c, !c):=fun c hc=>by show(!qa x,(vJ (!qa x)).isNone)=_;rw[hc];cases c<;>rfl
  rw[aL,List.all_cons]
  cases hv:qa x with
  |false=>rw[e1 _ hv];simp[uE l]
  |true=>rw[e1 _ hv];simp
theorem nO{s:aO}{t:Tm}(h:bL s t=true):qS t=eE t:=by
 rw[qS,uE,CW t 1,Bool.eq_iff_iff]
 simp only[bL,Bool.and_eq_true,uC s t 1,List.all_eq_true]at h
 simp only[List.all_eq_true]
 refine forall_congr' fun x=>forall_congr' fun hx=> ?_
 have:=Ba (h.2 x hx)
 simp[eX]at this
 simp[qa]
 omega
theorem lF(s:aO)(l:List Tm):eW s l=gK s l:=by
 unfold eW gK;congr 2;funext t;exact iz s t
theorem jU:∀a:Tm,iM a a=true:=by
 refine Tm.eO fun a ih=> ?_
 rw[p8]
 have:iq a.kids a.kids=true:=(iw _ _ rfl).2 fun i x y hx hy=>by
  rw[hx]at hy;injection hy with hy;subst hy;exact ih x (List.mem_of_getElem? hx)
 simp[this]
theorem iA:∀a b:Tm,iM a b=true↔a=b:=by
 refine Tm.eO fun a ih b=>⟨fun h=> ?_,fun e=>e ▸ jU _⟩
 rw[p8]at h
 simp only[Bool.and_eq_true,beq_iff_eq]at h
 obtain⟨⟨⟨h1,h2⟩,h3⟩,h4⟩:=h
 have h5:=(iw _ _ h3).1 h4
 have:a.kids=b.kids:=by
  apply List.ext_getElem?
  intro i
  cases hx:a.kids[i]? with
  |none=>simp at hx;symm;simp;omega
  |some x=>
   have hi:=(List.getElem?_eq_some_iff.1 hx).1
   obtain⟨y,hy⟩:=aX (l:=b.kids) (k:=i) (by omega)
   rw[hy,(ih x (List.mem_of_getElem? hx) y).1 (h5 i x y hx hy)]
 rw[<- Tm.eta a, <- Tm.eta b,h1,h2,this]
end Go.Proofs.YtealblliddhgiaaGreat
namespace Go.Proofs.YtealblliddhgiaaGreat
def FQ(l:List (D×D)):List (Int×D):=l.map fun p=>((match p.1 with| .int _ n=>n|_=>0),p.2)
def Pt(l:List (D×D)):Bool:=l.all fun p=>match p.1 with| .int .i64 _=>true|_=>false
@[go_sem] theorem VV (m:List (Int×D)):FQ (enc (D.int .i64) m)=m:=by
  unfold FQ enc;rw[List.map_map];simp[Function.comp_def]
@[go_sem] theorem VW (m:List (Int×D)):Pt (enc (D.int .i64) m)=true:=by simp[Pt,enc]
@[go_sem] theorem VX:Pt []=true:=rfl
@[go_sem] theorem VY:FQ []=[]:=rfl
theorem yw:∀ {l:List (D×D)},Pt l=true->enc (D.int .i64) (FQ l)=l
 |[],_=>rfl
 |(k,x)::l,h=>by
  simp only[Pt,List.all_cons,Bool.and_eq_true]at h
  have ih:=yw (l:=l) h.2
  obtain⟨n,h1⟩:∃n,k= .int .i64 n:=by
   have h1:=h.1
   split at h1
   ·exact⟨_,rfl⟩
   ·cases h1
  subst h1
  simp only[enc,FQ,List.map_cons]at ih|-
  rw[ih]
def eH(l:List Int):List (Int×D):=l.map fun n=>(n, .bool true)
@[go_sem] theorem UA:eH []=[]:=rfl
def oU(l:List Int)(n:Int):List Int:=if l.contains n=true then l else l++[n]
theorem iR{l:List Int}{n k:Int}:k∈oU l n↔k∈l\/k=n:=by
 unfold oU
 split
 ·rename_i h
  have:n∈l:=by simpa using h
  constructor
  ·exact .inl
  ·rintro(h|rfl)<;>assumption
 ·simp
theorem mh{l:List Int}(n:Int)(h:l.Nodup):(oU l n).Nodup:=by
 unfold oU
 split
 ·exact h
 ·rename_i hn
  have hn:n∉l:=by simpa using hn
  rw[List.nodup_append]
  exact⟨h,by simp,fun a ha b hb=>by simp at hb;subst hb;intro e;subst e;exact hn ha⟩
theorem lG:∀ (l:List Int) (n:Int) (i:Nat),iP n (eH l) i=(l.findIdx? (· ==n)).map fun j=>(i+j,D.bool true)
 |[],n,i=>rfl
 |x::l,n,i=>by
  have ih:=lG l n (i+1)
  simp only[eH,List.map_cons,iP,List.findIdx?_cons]at ih|-
  by_cases h:n=x
  ·subst h;simp
  ·have h2: ¬x=n:=fun e=>h e.symm
   simp only[beq_iff_eq,h,h2,if_false,ih,Option.map_map,Function.comp_def]
   congr 1;funext j;congr 1;omega
@[go_sem] theorem QM (l:List Int) (n:Int):FG n (.bool true) (eH l)=eH (oU l n):=by
  unfold FG oU
  rw[lG]
  cases h:l.findIdx? (· ==n)with
  |none=>
   have:l.contains n=false:=by
    rw[List.findIdx?_eq_none_iff]at h
    rw[Bool.eq_false_iff];intro hc
    have:=h n (by simpa using hc)
    simp at this
   simp only[Option.map_none,this,Bool.false_eq_true,if_false]
   simp[eH]
  |some j=>
   rw[List.findIdx?_eq_some_iff_getElem]at h
   obtain⟨hj,he,_⟩:=h
   have e:l[j]=n:=by simpa using he
   have:l.contains n=true:=by rw[List.contains_iff_mem, <- e];exact List.getElem_mem hj
   simp only[Option.map_some,this,if_true,Nat.zero_add]
   apply List.ext_getElem?
   intro k
   rw[List.getElem?_set]
   split
   ·rename_i hk;subst hk;simp[eH,hj,e]
   ·rfl
def Bb(l:List Int)(n:Int):List Int:=match l.findIdx? (· ==n)with|some j=>l.eraseIdx j|none=>l
theorem gL{α β:Type}(f:α->β):∀ (l:List α) (j:Nat),(l.map f).eraseIdx j=(l.eraseIdx j).map f
 |[],_=>rfl
 |_::_,0=>rfl
 |x::l,j+1=>by simp[gL f l j]
@[go_sem] theorem QN (l:List Int) (n:Int):Ux n (eH l)=eH (Bb l n):=by
  unfold Ux Bb
  rw[lG]
  cases h:l.findIdx? (· ==n)with
  |none=>simp
  |some j=>simp only[Option.map_some,Nat.zero_add];exact gL _ _ _
theorem wZ{l:List Int}(n:Int)(h:l.Nodup):(Bb l n).Nodup/\∀k,k∈Bb l n↔k∈l/\k≠n:=by
 unfold Bb
 cases hf:l.findIdx? (· ==n)with
 |none=>
  rw[List.findIdx?_eq_none_iff]at hf
  refine⟨h,fun k=>⟨fun hk=>⟨hk,fun e=> ?_⟩,fun hk=>hk.1⟩⟩
  subst e
  have:=hf k hk
  simp at this
 |some j=>
  rw[List.findIdx?_eq_some_iff_getElem]at hf
  obtain⟨hj,he,_⟩:=hf
  have e:l[j]=n:=by simpa using he
  refine⟨h.sublist (List.eraseIdx_sublist _ _),fun k=> ?_⟩
  show k∈l.eraseIdx j↔_
  have BU:l=l.take j++l[j]::l.drop (j+1):=by rw[List.getElem_cons_drop,List.take_append_drop]
  rw[List.eraseIdx_eq_take_drop_succ]
  rw[BU,List.nodup_append,List.nodup_cons]at h
  obtain⟨h1,⟨h2,h3⟩,h4⟩:=h
  constructor
  ·intro hk
   rw[List.mem_append]at hk
   refine⟨?_,fun ek=> ?_⟩
   ·rcases hk with hk|hk
    ·exact List.mem_of_mem_take hk
    ·exact List.mem_of_mem_drop hk
   ·rcases hk with hk|hk
    ·exact h4 k hk l[j] (List.mem_cons_self ..) (by rw[ek,e])
    ·exact h2 (by rw[e, <- ek];exact hk)
  ·rintro⟨hk,gv⟩
   rw[BU,List.mem_append,List.mem_cons]at hk
   rw[List.mem_append]
   rcases hk with hk|hk|hk
   ·exact .inl hk
   ·exact absurd (hk.trans e) gv
   ·exact .inr hk
section
variable {P:Program}{o:Nat->ae}{t:TypeId}{id:Nat}{n:Int}{v:V}
def qT(P:Program)(kt:TypeId):Bool:=match bg P kt with|some .int=>true|_=>false
theorem w7{kt:TypeId}(h:qT P kt=true):bg P kt=some .int:=by
 unfold qT at h;split at h
 ·assumption
 ·cases h
@[go_sem] theorem QO {kt:TypeId} (h:bg P kt=some .int):qT P kt=true:=by unfold qT;rw[h]
def Pu(P:Program)(o:Nat->ae)(t:TypeId)(id:Nat)(n:Int)(v:V):Option gz:=
 match oC P t,dO o v,o id with
 |some (kt,_),some vd, .map BH BI l=>match qT P kt&&Pt l&&v.ids.all (· !=id)with
  |true=>some (.bS [],cQ o v.ids++[(id, .map BH BI (enc (D.int .i64) (FG n vd (FQ l))))],id::v.ids)
  |false=>p9 P o t (.mp id) (.d (.int .i64 n)) v
 |_,_,_=>p9 P o t (.mp id) (.d (.int .i64 n)) v
@[go_sem high] theorem Pv:fI P o t (.mp id) (.d (.int .i64 n)) v=Pu P o t id n v:=by
  unfold Pu
  split
  ·rename_i kt vt vd BH BI l h1 h2 h3
   split
   ·rename_i hc
    simp only[Bool.and_eq_true]at hc
    obtain⟨⟨c1,c2⟩,c3⟩:=hc
    have c4:=w7 c1
    have c5:dO o (.d (.int .i64 n))=some (.int .i64 n):=rfl
    have hl:=yw c2
    unfold fI
    simp only[h1,c5,h2,nX,h3]
    rw[if_pos ⟨rfl,D7 c4 n,rfl,c3⟩]
    conv=>lhs;rw[<- hl]
    rw[A4 c4]
    unfold FG
    cases iP n (FQ l) 0 with
    |none=>simp[vB,enc]
    |some p=>simp[vB,D8,D.same,nW]
   ·exact wW ..
  ·exact wW ..
attribute [go_sem] Pu
def QP(l:List (D×D)):Bool:=l.all fun p=>match p.2 with| .bool true=>true|_=>false
@[go_sem] theorem VZ (l:List Int):QP (enc (D.int .i64) (eH l))=true:=by simp[QP,enc,eH]
@[go_sem] theorem V0:QP []=true:=rfl
theorem Ea:∀ {m:List (Int×D)},QP (enc (D.int .i64) m)=true->eH (m.map (·.1))=m
 |[],_=>rfl
 |(k,x)::m,h=>by
  simp only[QP,enc,List.map_cons,List.all_cons,Bool.and_eq_true]at h
  have ih:=Ea (m:=m) h.2
  have h1:x= .bool true:=by
   have h1:=h.1
   split at h1
   ·rfl
   ·cases h1
  simp only[eH,List.map_cons]at ih|-
  rw[ih,h1]
def Ib(P:Program)(o:Nat->ae)(t:TypeId)(m:V)(n:Int)(ok:Bool):Option gz:=
 match oC P t with
 |some (kt,vt)=>match zeroV P vt with
  |some (.d (.bool false))=>match pq o m with
   |some (rd,l)=>match qT P kt&&Pt l&&QP l with
    |true=>some (match ok with|true=> .bS [.d (.bool (((FQ l).map (·.1)).contains n)), .d (.bool (((FQ l).map (·.1)).contains n))]|false=> .d (.bool (((FQ l).map (·.1)).contains n)),[],rd)
    |false=>uz P o t m (.d (.int .i64 n)) ok
   |none=>uz P o t m (.d (.int .i64 n)) ok
  |_=>uz P o t m (.d (.int .i64 n)) ok
 |none=>uz P o t m (.d (.int .i64 n)) ok
@[go_sem] theorem Ic (l:List Int):((eH l).map (·.1))=l:=by simp[eH,Function.comp_def]
@[go_sem high] theorem UB {m:V} {ok:Bool}:iE P o t m (.d (.int .i64 n)) ok=Ib P o t m n ok:=by
  unfold Ib
  split
  ·rename_i kt vt h1
   split
   ·rename_i hz
    split
    ·rename_i rd l h
     split
     ·rename_i hc
      simp only[Bool.and_eq_true]at hc
      have c4:=w7 hc.1.1
      have hl:=yw hc.1.2
      have hs:eH ((FQ l).map (·.1))=FQ l:=Ea (by rw[hl];exact hc.2)
      have c5:dO o (.d (.int .i64 n))=some (.int .i64 n):=rfl
      unfold iE
      simp only[h1,c5,h]
      rw[if_pos ⟨rfl,D7 c4 n⟩]
      conv=>lhs;rw[<- hl]
      rw[A4 c4, <- hs,lG,Ic]
      generalize (FQ l).map (·.1)=l'
      cases hf:l'.findIdx? (· ==n)with
      |none=>
       have:l'.contains n=false:=by
        rw[List.findIdx?_eq_none_iff]at hf
        rw[Bool.eq_false_iff];intro hc
        have:=hf n (by simpa using hc)
        simp at this
       cases ok<;>simp only[Option.map_none,vB,hz,this,if_true,Bool.false_eq_true,if_false]
      |some j=>
       rw[List.findIdx?_eq_some_iff_getElem]at hf
       obtain⟨hj,he,_⟩:=hf
       have e:l'[j]=n:=by simpa using he
       have:l'.contains n=true:=by rw[List.contains_iff_mem, <- e];exact List.getElem_mem hj
       cases ok<;>simp only[Option.map_some,vB,this,if_true,Bool.false_eq_true,if_false]
     ·exact nN ..
    ·exact nN ..
   ·exact nN ..
  ·exact nN ..
attribute [go_sem] Ib
end
theorem w8{K:V->List (Nat×ae)->Prop}{id:Nat}{l:List Int}(h0:l=[]->K (.bS [.d (.bool false)]) [])
 (h1:∀ (i:Nat) n,l[i]? =some n->K (.bS [.d (.bool true), .d (.int .i64 n), .d (.bool true)]) [(id, .kW (enc (D.int .i64) (eH (l.eraseIdx i))) (some (.int .i64 n, .bool true)))]):Aj K id (enc (D.int .i64) (eH l)):=by
 refine wT _ (fun h=>h0 ?_) fun i k x h=> ?_
 ·cases l with
  |nil=>rfl
  |cons x l=>simp[eH]at h
 ·unfold eH at h|-
  rw[List.getElem?_map]at h
  cases hl:l[i]? with
  |none=>rw[hl]at h;cases h
  |some n=>
   rw[hl]at h
   simp at h
   obtain⟨rfl,rfl⟩:=h
   have:=h1 i n hl
   rw[gL]
   exact this
theorem uF{l:List Int}{i:Nat}{n:Int}(h:l[i]? =some n):(∀v,v∈l↔v=n\/v∈l.eraseIdx i)/\(l.eraseIdx i).length+1=l.length:=by
 obtain⟨hi,e⟩:=List.getElem?_eq_some_iff.1 h
 refine⟨fun v=> ?_,by rw[List.length_eraseIdx];simp[hi];omega⟩
 have BU:l=l.take i++n::l.drop (i+1):=by rw[<- e,List.getElem_cons_drop,List.take_append_drop]
 rw[List.eraseIdx_eq_take_drop_succ]
 conv=>lhs;rw[BU]
 simp only[List.mem_append,List.mem_cons]
 constructor
 ·rintro(h|h|h)
  ·exact .inr (.inl h)
  ·exact .inl h
  ·exact .inr (.inr h)
 ·rintro(h|h|h)
  ·exact .inr (.inl h)
  ·exact .inl h
  ·exact .inr (.inr h)
attribute [go_sem] List.head?_cons
end Go.Proofs.YtealblliddhgiaaGreat
namespace Go.Proofs.YtealblliddhgiaaGreat
mutual
def eL(v:Int):Tm->Bool
 | .mk op n kids=>if op=1 then n==v else qU v op n kids 0
def qU(v op n:Int):List Tm->Nat->Bool
 |[],_=>false
 |k::l,i=>(eL v k&& !(op==8&&i==1&&n==v))||qU v op n l (i+1)
end
theorem np(v:Int)(t:Tm):eL v t=if t.op=1 then t.n==v else qU v t.op t.n t.kids 0:=by cases t;rfl
@[reducible] def jV (l:List Int):ae:= .map 3 4 (enc (D.int .i64) (eH l))
def UC(id:Nat)(Q:List Int->Prop)(o:Nat->ae)(nx:Nat)(K:V->(Nat->ae)->Nat->Prop):Prop:=
 ∀o' nx' l',nx<=nx'->Good o' nx'->(∀j,j<nx->j≠id->o' j=o j)->o' id=jV l'->Q l'->K (.bS []) o' nx'
theorem CX{b nx id it n0:Nat}{Q:fy->S->Prop}{e:Nat->V}{o:Nat->ae}{ks n k:D}(own s:List Int)(hg:Good o nx)(ax:o id=jV s)(Rw:o it= .kW (enc (D.int .i64) (eH own)) none)(hb:b<=nx)(hs:s.Nodup)(hn0:n0<nx)
 (he:fG nx e [.mp id, .ab, .ab, .ptr n0 0, .ab, .ab, .ab, .ab, .ab, .ab, .ab, .ab, .ab, .ab, .ab, .d ks, .d n, .d k, .ab, .ab, .ab, .ab, .ab, .ab, .ab, .ab, .ab, .ab, .ab, .ab, .ab, .ab, .ab, .ab, .ab, .ab, .ab, .ptr it 0] 0)
 (hQ:∀e' o' nx' s',e' 0= .mp id->e' 3= .ptr n0 0->e' 15= .d ks->e' 16= .d n->e' 17= .d k->nx<=nx'->Good o' nx'->(∀j,j<nx->j≠id->j≠it->o' j=o j)->o' id=jV s'->s'.Nodup->(∀v,v∈s'↔v∈s\/v∈own)->Q (.exit 2) ⟨e',o',nx'⟩):
 od b (fun Q s=>kq Tryz.prog 45 b false (.seq (.af [⟨some 38, .next (.tmp 37) false,none⟩,⟨some 39, .extract (.tmp 38) 0,none⟩]) (.seq (.cond (.tmp 39) .skip (.exit 2)) (.block 3 (.seq (.af [⟨some 40, .entry (.tmp 37),none⟩,⟨some 41, .extract (.tmp 40) 0,none⟩,⟨some 7, .assign (.tmp 41),none⟩]) (.af [⟨some 42, .move (.tmp 0),none⟩,⟨some 43, .move (.tmp 7),none⟩,⟨none, .mapUpdate 93 (.tmp 42) (.tmp 43) (.const (.bool true)),none⟩]))))) Q s) Q ⟨e,o,nx⟩:=by
 have h1:id<nx:=hg.lt (by rw[ax];exact ae.noConfusion)
 have h2:it<nx:=hg.lt (by rw[Rw];exact ae.noConfusion)
 have h3:id≠it:=fun h=>by rw[h,Rw]at ax;cases ax
 have h4:it≠id:=fun h=>h3 h.symm
 refine aW (fun i:List Int×List Int×Option (D×D)=>⟨bw [.mp id, .ab, .ab, .ptr n0 0, .ab, .ab, .ab, .ab, .ab, .ab, .ab, .ab, .ab, .ab, .ab, .d ks, .d n, .d k, .ab, .ab, .ab, .ab, .ab, .ab, .ab, .ab, .ab, .ab, .ab, .ab, .ab, .ab, .ab, .ab, .ab, .ab, .ab, .ptr it 0],ak (ak o id (jV i.2.1)) it (.kW (enc (D.int .i64) (eH i.1)) i.2.2),nx⟩)
  (fun i=>i.2.1.Nodup/\∀v,(v∈i.2.1\/v∈i.1)↔(v∈s\/v∈own)) (fun i=>i.1.length) (own,s,none) ⟨hs,fun _=>Iff.rfl⟩ ?_ ?_
 ·dsimp only
  refine bW.bE _ hb (Nat.le_refl _) ?_ (fun j hj=> ?_) he
  ·exact(by repeat(first|exact hg.mono (by omega)|exact Good.nil|refine Good.ak ?_ (by omega) rfl|refine Good.ak ?_ (by omega) (bV _ _ _ (by omega))|refine Good.ak ?_ (by omega) (by simp[ae.refs,V.ag,V.refs]<;>omega)))
  ·by_cases e1:j=it
   ·subst e1;rw[aa];exact Rw
   ·rw[ad _ _ _ _ e1]
    by_cases e2:j=id
    ·subst e2;rw[aa];exact ax
    ·rw[ad _ _ _ _ e2]
 rintro⟨rest,s',last⟩ ⟨iW,hv⟩
 simp only at iW hv
 simp+contextual (disch:=first|omega|simp only[go_sem,false_implies]) only[go_sem,wrap64,if_pos,h3,h4]
 refine w8 (fun hr=> ?_) fun i m hm=> ?_
 ·subst hr
  simp+contextual (disch:=first|omega|simp only[go_sem,false_implies]) only[go_sem,wrap64,if_pos,and_self]
  refine hQ _ _ _ s' ?_ ?_ ?_ ?_ ?_ ?_ ?_ (fun j g1 g2 g3=> ?_) ?_ iW (fun v=> ?_)
  ·rfl
  ·rfl
  ·rfl
  ·rfl
  ·rfl
  ·omega
  ·exact(by repeat(first|exact hg.mono (by omega)|exact Good.nil|refine Good.ak ?_ (by omega) rfl|refine Good.ak ?_ (by omega) (bV _ _ _ (by omega))|refine Good.ak ?_ (by omega) (by simp[ae.refs,V.ag,V.refs]<;>omega)))
  ·(repeat(first|rfl|rw[aa]|rw[ad _ _ _ _ (by omega)]))
  ·(repeat(first|rfl|rw[aa]|rw[ad _ _ _ _ (by omega)]))
  ·have:=hv v
   simpa using this
 ·simp+contextual (disch:=first|omega|simp only[go_sem,false_implies]) only[go_sem,wrap64,if_pos,h3,h4]
  obtain⟨r1,r2⟩:=uF hm
  refine aB (rest.eraseIdx i,oU s' m,some (.int .i64 m, .bool true)) ⟨mh _ iW,fun v=> ?_⟩ ?_ ?_
  ·dsimp only
   rw[iR, <- hv v,r1 v]
   constructor
   ·rintro((h|h)|h)
    ·exact .inl h
    ·exact .inr (.inl h)
    ·exact .inr (.inr h)
   ·rintro(h|h|h)
    ·exact .inl (.inl h)
    ·exact .inl (.inr h)
    ·exact .inr h
  ·dsimp only;omega
  ·dsimp only
   refine bW.bE _ hb (by omega) ?_ (fun j hj=> ?_) ?_
   ·exact(by repeat(first|exact hg.mono (by omega)|exact Good.nil|refine Good.ak ?_ (by omega) rfl|refine Good.ak ?_ (by omega) (bV _ _ _ (by omega))|refine Good.ak ?_ (by omega) (by simp[ae.refs,V.ag,V.refs]<;>omega)))
   ·by_cases e1:j=it
    ·subst e1;(repeat(first|rfl|rw[aa]|rw[ad _ _ _ _ (by omega)]))
    ·by_cases e2:j=id
     ·subst e2;(repeat(first|rfl|rw[aa]|rw[ad _ _ _ _ (by omega)]))
     ·(repeat(first|rfl|rw[aa]|rw[ad _ _ _ _ (by omega)]))
   ·(repeat(first|exact aq|refine ai ?_|refine ah rfl ?_|refine ah (aQ (aP (by omega))) ?_|refine aA rfl (by simp[V.refs,V.ag]<;>first|omega|assumption) ?_))
theorem Pw:∀t:Tm,t.fits->∀ (o:Nat->ae) (nx id:Nat) (l:List Int),Good o nx->o id=jV l->l.Nodup->∀K X,UC id (fun l'=>l'.Nodup/\∀n,n∈l'↔n∈l\/eL n t=true) o nx K->dX Tryz.prog 107 [.mp id, .d t.d] o nx K X:=by
 refine Tm.eO fun t ih hf o nx id l hg ho hl K X hK=> ?_
 have vQ:=(Tm.bR _).1 hf
 have ax:id<nx:=hg.lt (by rw[ho];exact ae.noConfusion)
 refine dX.aZ mix Mv (by simp) ?_
 rw[OS]
 have y1:id≠nx:=by omega
 have y2:∀k,id≠nx+k:=fun k=>by omega
 by_cases h1:t.op=1
 ·simp+contextual (disch:=first|omega|simp only[go_sem,false_implies]) only[go_sem,wrap64,if_pos,ho,y1,y2,Nat.add_assoc,Nat.left_eq_add,Nat.add_eq_left,Nat.add_left_cancel_iff,h1]
  refine hK _ _ (oU l t.n) ?_ ?_ (fun j hj gv=> ?_) ?_ ⟨mh _ hl,fun n=> ?_⟩
  ·omega
  ·exact(by repeat(first|exact hg.mono (by omega)|exact Good.nil|refine Good.ak ?_ (by omega) rfl|refine Good.ak ?_ (by omega) (bV _ _ _ (by omega))|refine Good.ak ?_ (by omega) (by simp[ae.refs,V.ag,V.refs]<;>omega)))
  ·(repeat(first|rfl|rw[aa]|rw[ad _ _ _ _ (by omega)]))
  ·(repeat(first|rfl|rw[aa]|rw[ad _ _ _ _ (by omega)]))
  ·rw[iR,np,if_pos h1]
   rw[beq_iff_eq, @eq_comm _ t.n n]
 ·have nI:(t.op==1)=false:=by simpa using h1
  simp+contextual (disch:=first|omega|simp only[go_sem,false_implies]) only[go_sem,wrap64,if_pos,ho,y1,y2,Nat.add_assoc,Nat.left_eq_add,Nat.add_eq_left,Nat.add_left_cancel_iff,nI]
  refine aW (fun i:Nat×List Int×(Nat->ae)×Nat=>⟨bw [.mp id, .ab, .ab, .ptr nx 0, .ab, .ab, .ab, .ab, .ab, .ab, .ab, .ab, .ab, .ab, .ab, .d (.sl (t.kids.map Tm.d)), .d (.i t.kids.length), .d (.i i.1)],i.2.2.1,i.2.2.2⟩)
   (fun i=>i.1<=t.kids.length/\i.2.1.Nodup/\Good i.2.2.1 i.2.2.2/\nx+1<=i.2.2.2/\(∀j,j<nx->j≠id->i.2.2.1 j=o j)/\i.2.2.1 nx= .row t.row/\i.2.2.1 id=jV i.2.1/\∀v,(v∈i.2.1\/qU v t.op t.n (t.kids.drop i.1) i.1=true)↔(v∈l\/eL v t=true)) (fun i=>t.kids.length - i.1) (0,l,ak o nx (.row t.row),nx+8)
   ⟨Nat.zero_le _,hl,by dsimp only;exact(by repeat(first|exact hg.mono (by omega)|exact Good.nil|refine Good.ak ?_ (by omega) rfl|refine Good.ak ?_ (by omega) (bV _ _ _ (by omega))|refine Good.ak ?_ (by omega) (by simp[ae.refs,V.ag,V.refs]<;>omega))),by dsimp only;omega,fun j hj gv=>by dsimp only;(repeat(first|rfl|rw[aa]|rw[ad _ _ _ _ (by omega)])),by dsimp only;(repeat(first|rfl|rw[aa]|rw[ad _ _ _ _ (by omega)])),by dsimp only;(repeat(first|rfl|rw[aa]|rw[ad _ _ _ _ (by omega)]));exact ho,fun v=>by simp only[List.drop_zero];rw[np v t,if_neg h1]⟩ ?_ ?_
  ·dsimp only
   refine bW.bE _ (by omega) (by omega) (by repeat(first|exact hg.mono (by omega)|exact Good.nil|refine Good.ak ?_ (by omega) rfl|refine Good.ak ?_ (by omega) (bV _ _ _ (by omega))|refine Good.ak ?_ (by omega) (by simp[ae.refs,V.ag,V.refs]<;>omega))) (fun _ _=>rfl) ?_
   (repeat(first|exact aq|refine ai ?_|refine ah rfl ?_|refine ah (aQ (aP (by omega))) ?_|refine aA rfl (by simp[V.refs,V.ag]<;>first|omega|assumption) ?_))
  rintro⟨k,l',o',nx'⟩ ⟨hk,u9,Ie,qE,hold,br,CE,hv⟩
  simp only at hk u9 Ie qE hold br CE hv
  have z1:id≠nx':=by omega
  have z2:∀k,id≠nx'+k:=fun k=>by omega
  have z3:nx≠nx':=by omega
  have z4:∀k,nx≠nx'+k:=fun k=>by omega
  simp+contextual (disch:=first|omega|simp only[go_sem,false_implies]) only[go_sem,wrap64,if_pos,CE,br,z1,z2,z3,z4,Nat.add_assoc,Nat.left_eq_add,Nat.add_eq_left,Nat.add_left_cancel_iff]
  refine ay (fun h2=> ?_) (fun h2=> ?_)
  ·simp at h2
   obtain⟨x,hx⟩:=aX h2
   have kx:=List.mem_of_getElem? hx
   simp+contextual (disch:=first|omega|simp only[go_sem,false_implies]) only[go_sem,wrap64,if_pos,CE,br,z1,z2,z3,z4,Nat.add_assoc,Nat.left_eq_add,Nat.add_eq_left,Nat.add_left_cancel_iff,hx]
   refine bK (ih x kx (vQ.2 x kx) _ _ (nx'+7) [] ?_ ?_ List.nodup_nil _ _ fun o2 n2 own m1 m2 m3 m4 m5=> ?_)
   ·have hg:=Ie
    exact(by repeat(first|exact hg.mono (by omega)|exact Good.nil|refine Good.ak ?_ (by omega) rfl|refine Good.ak ?_ (by omega) (bV _ _ _ (by omega))|refine Good.ak ?_ (by omega) (by simp[ae.refs,V.ag,V.refs]<;>omega)))
   ·(repeat(first|rfl|rw[aa]|rw[ad _ _ _ _ (by omega)]))
   have p0:o2 nx= .row t.row:=by rw[m3 nx (by omega) (by omega)];(repeat(first|rfl|rw[aa]|rw[ad _ _ _ _ (by omega)]));exact br
   have p1:o2 id=jV l':=by rw[m3 id (by omega) (by omega)];(repeat(first|rfl|rw[aa]|rw[ad _ _ _ _ (by omega)]));exact CE
   have p2:∀j,j<nx->j≠id->o2 j=o j:=fun j h3 h4=>by rw[m3 j (by omega) (by omega)];(repeat(first|rfl|rw[aa]|rw[ad _ _ _ _ (by omega)]));exact hold j h3 h4
   have w1:nx≠n2:=by omega
   have w2:∀k,nx≠n2+k:=fun k=>by omega
   have w3:id≠n2:=by omega
   have w4:∀k,id≠n2+k:=fun k=>by omega
   have w5:nx'+7≠n2:=by omega
   have w6:∀k,nx'+7≠n2+k:=fun k=>by omega
   obtain⟨vC,d1,d2,d3⟩:∃vC,vC.Nodup/\(∀v,v∈vC↔(eL v x=true/\ ¬ (t.op=8/\k=1/\t.n=v)))/\vC=if t.op=8/\k=1 then Bb own t.n else own:=by
    refine⟨_, ?_,fun v=> ?_,rfl⟩
    ·split
     ·exact(wZ _ m5.1).1
     ·exact m5.1
    ·have:=m5.2 v
     simp only[List.not_mem_nil,false_or]at this
     rw[<- this]
     split
     ·rename_i hc
      rw[(wZ t.n m5.1).2]
      simp[hc,eq_comm]
     ·rename_i hc
      constructor
      ·exact fun h=>⟨h,fun h2=>hc ⟨h2.1,h2.2.1⟩⟩
      ·exact fun h=>h.1
   have step:∀v (s':List Int),(v∈s'↔v∈l'\/v∈vC)->((v∈s'\/qU v t.op t.n (t.kids.drop (k+1)) (k+1)=true)↔(v∈l\/eL v t=true)):=by
    intro v s' iW
    rw[<- hv v,iW,d2 v]
    have Px:t.kids.drop k=x::t.kids.drop (k+1):=by
     obtain⟨h5,h6⟩:=List.getElem?_eq_some_iff.1 hx
     rw[List.drop_eq_getElem_cons h5,h6]
    rw[Px,qU]
    simp only[Bool.or_eq_true,Bool.and_eq_true,Bool.not_eq_true',Bool.and_eq_false_iff,beq_eq_false_iff_ne,ne_eq,not_and]
    constructor
    ·rintro((h|⟨h,h6⟩)|h)
     ·exact .inl h
     ·refine .inr (.inl ⟨h, ?_⟩)
      by_cases c1:t.op=8
      ·by_cases c2:k=1
       ·exact .inr (h6 c1 c2)
       ·exact .inl (.inr c2)
      ·exact .inl (.inl c1)
     ·exact .inr (.inr h)
    ·rintro(h|⟨h,h6⟩|h)
     ·exact .inl (.inl h)
     ·refine .inl (.inr ⟨h,fun c1 c2=> ?_⟩)
      rcases h6 with(h6|h6)|h6
      ·exact absurd c1 h6
      ·exact absurd c2 h6
      ·exact h6
     ·exact .inr h
   have hcc:((t.op==8)&&((k:Int)==1))=decide (t.op=8/\k=1):=by
    rw[Bool.eq_iff_iff];simp;omega
   simp+contextual (disch:=first|omega|simp only[go_sem,false_implies]) only[go_sem,wrap64,if_pos,p0,p1,w1,w2,w3,w4,w5,w6,Nat.add_assoc,Nat.left_eq_add,Nat.add_eq_left,Nat.add_left_cancel_iff]
   refine ay (fun h3=> ?_) (fun h3=> ?_)
   ·rw[hcc]at h3
    simp only[decide_eq_true_eq]at h3
    rw[if_pos h3]at d3
    cases hd:own.findIdx? (· ==t.n)with
    |none=>
     have YV:iP t.n (eH own) 0=none:=by rw[lG,hd];rfl
     obtain rfl:vC=own:=by rw[d3,Bb,hd]
     simp+contextual (disch:=first|omega|simp only[go_sem,false_implies]) only[go_sem,wrap64,if_pos,p0,p1,m4,w1,w2,w3,w4,w5,w6,Nat.add_assoc,Nat.left_eq_add,Nat.add_eq_left,Nat.add_left_cancel_iff,YV]
     refine CX (n0:=nx) (id:=id) (it:=n2+12) (ks:= .sl (t.kids.map Tm.d)) (n:= .i t.kids.length) (k:= .i k) vC l' ?_ ?_ ?_ (by omega) u9 (by omega) ?_ fun e' o4 n4 s' q0 q3 CY CZ C0 q1 q2 q4 q5 q6 q7=> ?_
     ·have hg:=m2
      exact(by repeat(first|exact hg.mono (by omega)|exact Good.nil|refine Good.ak ?_ (by omega) rfl|refine Good.ak ?_ (by omega) (bV _ _ _ (by omega))|refine Good.ak ?_ (by omega) (by simp[ae.refs,V.ag,V.refs]<;>omega)))
     ·(repeat(first|rfl|rw[aa]|rw[ad _ _ _ _ (by omega)]))
      exact p1
     ·(repeat(first|rfl|rw[aa]|rw[ad _ _ _ _ (by omega)]))
     ·(repeat(first|exact aq|refine ai ?_|refine ah rfl ?_|refine ah (aQ (aP (by omega))) ?_|refine aA rfl (by simp[V.refs,V.ag]<;>first|omega|assumption) ?_))
     have r0:o4 nx= .row t.row:=by
      rw[q4 nx (by omega) (by omega) (by omega)];(repeat(first|rfl|rw[aa]|rw[ad _ _ _ _ (by omega)]))
      exact p0
     simp+contextual (disch:=first|omega|simp only[go_sem,false_implies]) only[go_sem,wrap64,if_pos,q0,q3,CY,CZ,C0]
     refine aB (k+1,s',o4,n4) ⟨by dsimp only;omega,q6,q2,by dsimp only;omega,fun j g1 g2=> ?_,r0,q5,fun v=> ?_⟩ (by dsimp only;omega) ?_
     ·dsimp only
      rw[q4 j (by omega) (by omega) (by omega)];(repeat(first|rfl|rw[aa]|rw[ad _ _ _ _ (by omega)]))
      exact p2 j g1 g2
     ·dsimp only
      exact step v s' (q7 v)
     ·dsimp only
      refine bW.bE _ (by omega) (by omega) q2 (fun _ _=>rfl) ?_
      (repeat(first|exact aq|refine ai ?_|refine ah rfl ?_|refine ah (aQ (aP (by omega))) ?_|refine aA rfl (by simp[V.refs,V.ag]<;>first|omega|assumption) ?_|refine ah (by first|exact q0|exact q1|exact q2|exact q3|exact q4|exact q5|exact q6|exact q7|exact q8|exact q9|exact Kw|exact Kx|exact Ig|exact Ky|exact Kz|exact CY|exact CZ|exact C0|exact KA|exact qc|exact KC|exact KF|exact KG|exact KH|exact KI|exact KJ|exact KK|exact KL|exact KM|exact KN|exact KO|exact KQ|exact KT|exact KU|exact KW|exact KY|exact KZ|exact K0|exact K1|exact K2|exact K4) ?_|refine aA (by first|exact q0|exact q1|exact q2|exact q3|exact q4|exact q5|exact q6|exact q7|exact q8|exact q9|exact Kw|exact Kx|exact Ig|exact Ky|exact Kz|exact CY|exact CZ|exact C0|exact KA|exact qc|exact KC|exact KF|exact KG|exact KH|exact KI|exact KJ|exact KK|exact KL|exact KM|exact KN|exact KO|exact KQ|exact KT|exact KU|exact KW|exact KY|exact KZ|exact K0|exact K1|exact K2|exact K4) (by simp[V.refs,V.ag]<;>first|omega|assumption) ?_))
    |some j=>
     have YV:iP t.n (eH own) 0=some (j, .bool true):=by rw[lG,hd];simp
     have hd3:(enc (D.int .i64) (eH own)).eraseIdx j=enc (D.int .i64) (eH vC):=by
      rw[d3,Bb,hd,qR];unfold eH;rw[gL]
     simp+contextual (disch:=first|omega|simp only[go_sem,false_implies]) only[go_sem,wrap64,if_pos,p0,p1,m4,w1,w2,w3,w4,w5,w6,Nat.add_assoc,Nat.left_eq_add,Nat.add_eq_left,Nat.add_left_cancel_iff,YV]
     rw[hd3]
     refine CX (n0:=nx) (id:=id) (it:=n2+12) (ks:= .sl (t.kids.map Tm.d)) (n:= .i t.kids.length) (k:= .i k) vC l' ?_ ?_ ?_ (by omega) u9 (by omega) ?_ fun e' o4 n4 s' q0 q3 CY CZ C0 q1 q2 q4 q5 q6 q7=> ?_
     ·have hg:=m2
      exact(by repeat(first|exact hg.mono (by omega)|exact Good.nil|refine Good.ak ?_ (by omega) rfl|refine Good.ak ?_ (by omega) (bV _ _ _ (by omega))|refine Good.ak ?_ (by omega) (by simp[ae.refs,V.ag,V.refs]<;>omega)))
     ·(repeat(first|rfl|rw[aa]|rw[ad _ _ _ _ (by omega)]))
      exact p1
     ·(repeat(first|rfl|rw[aa]|rw[ad _ _ _ _ (by omega)]))
     ·(repeat(first|exact aq|refine ai ?_|refine ah rfl ?_|refine ah (aQ (aP (by omega))) ?_|refine aA rfl (by simp[V.refs,V.ag]<;>first|omega|assumption) ?_))
     have r0:o4 nx= .row t.row:=by
      rw[q4 nx (by omega) (by omega) (by omega)];(repeat(first|rfl|rw[aa]|rw[ad _ _ _ _ (by omega)]))
      exact p0
     simp+contextual (disch:=first|omega|simp only[go_sem,false_implies]) only[go_sem,wrap64,if_pos,q0,q3,CY,CZ,C0]
     refine aB (k+1,s',o4,n4) ⟨by dsimp only;omega,q6,q2,by dsimp only;omega,fun j g1 g2=> ?_,r0,q5,fun v=> ?_⟩ (by dsimp only;omega) ?_
     ·dsimp only
      rw[q4 j (by omega) (by omega) (by omega)];(repeat(first|rfl|rw[aa]|rw[ad _ _ _ _ (by omega)]))
      exact p2 j g1 g2
     ·dsimp only
      exact step v s' (q7 v)
     ·dsimp only
      refine bW.bE _ (by omega) (by omega) q2 (fun _ _=>rfl) ?_
      (repeat(first|exact aq|refine ai ?_|refine ah rfl ?_|refine ah (aQ (aP (by omega))) ?_|refine aA rfl (by simp[V.refs,V.ag]<;>first|omega|assumption) ?_|refine ah (by first|exact q0|exact q1|exact q2|exact q3|exact q4|exact q5|exact q6|exact q7|exact q8|exact q9|exact Kw|exact Kx|exact Ig|exact Ky|exact Kz|exact CY|exact CZ|exact C0|exact KA|exact qc|exact KC|exact KF|exact KG|exact KH|exact KI|exact KJ|exact KK|exact KL|exact KM|exact KN|exact KO|exact KQ|exact KT|exact KU|exact KW|exact KY|exact KZ|exact K0|exact K1|exact K2|exact K4) ?_|refine aA (by first|exact q0|exact q1|exact q2|exact q3|exact q4|exact q5|exact q6|exact q7|exact q8|exact q9|exact Kw|exact Kx|exact Ig|exact Ky|exact Kz|exact CY|exact CZ|exact C0|exact KA|exact qc|exact KC|exact KF|exact KG|exact KH|exact KI|exact KJ|exact KK|exact KL|exact KM|exact KN|exact KO|exact KQ|exact KT|exact KU|exact KW|exact KY|exact KZ|exact K0|exact K1|exact K2|exact K4) (by simp[V.refs,V.ag]<;>first|omega|assumption) ?_))
   ·rw[hcc]at h3
    simp only[decide_eq_false_iff_not]at h3
    rw[if_neg h3]at d3
    subst d3
    simp+contextual (disch:=first|omega|simp only[go_sem,false_implies]) only[go_sem,wrap64,if_pos,p0,p1,m4,w1,w2,w3,w4,w5,w6,Nat.add_assoc,Nat.left_eq_add,Nat.add_eq_left,Nat.add_left_cancel_iff]
    refine CX (n0:=nx) (id:=id) (it:=n2+8) (ks:= .sl (t.kids.map Tm.d)) (n:= .i t.kids.length) (k:= .i k) vC l' ?_ ?_ ?_ (by omega) u9 (by omega) ?_ fun e' o4 n4 s' q0 q3 CY CZ C0 q1 q2 q4 q5 q6 q7=> ?_
    ·have hg:=m2
     exact(by repeat(first|exact hg.mono (by omega)|exact Good.nil|refine Good.ak ?_ (by omega) rfl|refine Good.ak ?_ (by omega) (bV _ _ _ (by omega))|refine Good.ak ?_ (by omega) (by simp[ae.refs,V.ag,V.refs]<;>omega)))
    ·(repeat(first|rfl|rw[aa]|rw[ad _ _ _ _ (by omega)]))
     exact p1
    ·(repeat(first|rfl|rw[aa]|rw[ad _ _ _ _ (by omega)]))
    ·(repeat(first|exact aq|refine ai ?_|refine ah rfl ?_|refine ah (aQ (aP (by omega))) ?_|refine aA rfl (by simp[V.refs,V.ag]<;>first|omega|assumption) ?_))
    have r0:o4 nx= .row t.row:=by
     rw[q4 nx (by omega) (by omega) (by omega)];(repeat(first|rfl|rw[aa]|rw[ad _ _ _ _ (by omega)]))
     exact p0
    simp+contextual (disch:=first|omega|simp only[go_sem,false_implies]) only[go_sem,wrap64,if_pos,q0,q3,CY,CZ,C0]
    refine aB (k+1,s',o4,n4) ⟨by dsimp only;omega,q6,q2,by dsimp only;omega,fun j g1 g2=> ?_,r0,q5,fun v=> ?_⟩ (by dsimp only;omega) ?_
    ·dsimp only
     rw[q4 j (by omega) (by omega) (by omega)];(repeat(first|rfl|rw[aa]|rw[ad _ _ _ _ (by omega)]))
     exact p2 j g1 g2
    ·dsimp only
     exact step v s' (q7 v)
    ·dsimp only
     refine bW.bE _ (by omega) (by omega) q2 (fun _ _=>rfl) ?_
     (repeat(first|exact aq|refine ai ?_|refine ah rfl ?_|refine ah (aQ (aP (by omega))) ?_|refine aA rfl (by simp[V.refs,V.ag]<;>first|omega|assumption) ?_|refine ah (by first|exact q0|exact q1|exact q2|exact q3|exact q4|exact q5|exact q6|exact q7|exact q8|exact q9|exact Kw|exact Kx|exact Ig|exact Ky|exact Kz|exact CY|exact CZ|exact C0|exact KA|exact qc|exact KC|exact KF|exact KG|exact KH|exact KI|exact KJ|exact KK|exact KL|exact KM|exact KN|exact KO|exact KQ|exact KT|exact KU|exact KW|exact KY|exact KZ|exact K0|exact K1|exact K2|exact K4) ?_|refine aA (by first|exact q0|exact q1|exact q2|exact q3|exact q4|exact q5|exact q6|exact q7|exact q8|exact q9|exact Kw|exact Kx|exact Ig|exact Ky|exact Kz|exact CY|exact CZ|exact C0|exact KA|exact qc|exact KC|exact KF|exact KG|exact KH|exact KI|exact KJ|exact KK|exact KL|exact KM|exact KN|exact KO|exact KQ|exact KT|exact KU|exact KW|exact KY|exact KZ|exact K0|exact K1|exact K2|exact K4) (by simp[V.refs,V.ag]<;>first|omega|assumption) ?_))
  ·simp at h2
   simp+contextual (disch:=first|omega|simp only[go_sem,false_implies]) only[go_sem,wrap64,if_pos,and_self]
   refine hK _ _ l' ?_ ?_ hold CE ⟨u9,fun n=> ?_⟩
   ·omega
   ·exact Ie.mono (by omega)
   ·have:=hv n
    rw[List.drop_eq_nil_of_le (by omega)]at this
    simpa[qU]using this
end Go.Proofs.YtealblliddhgiaaGreat
section
namespace Go.Proofs.YtealblliddhgiaaGreat
open Go.Sort Go.RowKit
def Bc(P:Program)(g:FuncId):Prop:=∀ (dN off cap:Nat) (zs:List Int) (w:World),Holds (Value.int .i64) w dN off zs.toArray->dN<w.heap.size->zs.length<4611686018427387904->
    Calls P g #[.slice (some ⟨dN,off,none⟩) zs.length cap] w fun e w'=>
     e= .returned (.tuple #[])/\∃n os,w'=grow (putRow (Value.int .i64) (Sort.ahead w n) dN off (zs.mergeSort fun x y=>decide (x<=y)).toArray) os
def dS(l:List Int):List Int:=l.mergeSort fun x y=>decide (x<=y)
theorem Eb{B:Nat->Prop}{w:World}:∀ (zs:List Int) (xs:List Value),gy B w 1 (zs.map (D.int .i64)) xs↔xs=zs.map (Value.int .i64):=by
 have hd:∀ (zs:List Int) (evs:List Value),D.aE B w (zs.map (D.int .i64)) evs↔evs=zs.map (Value.int .i64):=by
  intro zs
  induction zs with
  |nil=>intro evs;simp[D.aE]
  |cons z zs ih=>
   intro evs
   simp only[List.map_cons,D.aE]
   constructor
   ·rintro⟨v,vs,rfl,h1,h2⟩
    rw[(ih vs).1 h2]
    simp only[D.den]at h1
    rw[h1]
   ·intro h
    exact⟨_,_,h,rfl,(ih _).2 rfl⟩
 have hf:∀zs:List Int,(zs.map (Value.int .i64)).flatMap (·.cells.toList)=zs.map (Value.int .i64):=by
  intro zs
  induction zs with
  |nil=>rfl
  |cons z zs ih=>simp only[List.map_cons,List.flatMap_cons,ih];rfl
 intro zs xs
 constructor
 ·rintro⟨evs,h1,h2,h3⟩
  rw[h1,(hd zs evs).1 h3,hf]
 ·intro h
  subst h
  exact⟨_,(hf zs).symm,fun ev dG=>by
   obtain⟨z,_,rfl⟩:=List.mem_map.1 dG
   rfl,(hd zs _).2 rfl⟩
theorem Ih{P:Program}{g:FuncId}(hE:Enters P g)(hS:Bc P g){o:Nat->ae}{nx id ep:Nat}{ty:TypeId}{zs:List Int}(ho:o id= .arr ep ty 1 (zs.map (D.int .i64)))
 (hn:∀p cap w,Calls P g #[.slice p 0 cap] w fun e w'=>e= .returned (.tuple #[])/\w'=w)
 (hlen:zs.length<4611686018427387904) {K X:V->(Nat->ae)->Nat->Prop} (hK:K (.bS []) (ak o id (.arr ep ty 1 ((dS zs).map (D.int .i64)))) nx):dX P g [.osl id ep] o nx K X:=by
 refine⟨hE,fun M φ w vals hH hd=> ?_⟩
 obtain⟨val,us,kj,⟨v0,v1,v2⟩,dA⟩:=hd
 have dA:us=[]:=dA
 subst dA
 have dx:val=φ id:=(v2 ep (by show(o id).ba=some ep;rw[ho];rfl)).2 rfl
 have Gd:vals=#[φ id]:=by rw[<- dx];exact Array.ext' (by simpa using kj)
 subst Gd
 have HC:=hH.ok id
 unfold aK at HC
 rw[show(hp o nx).o id= .arr ep ty 1 (zs.map (D.int .i64))from ho]at HC
 obtain⟨_,xs,eD,br⟩:=HC
 have Je:=(Eb zs xs).1 br
 subst Je
 simp only[List.length_map]at eD
 obtain⟨hl,Np|⟨b,cap,cur,dq,_,hg,xo,xm,hcs,UD⟩⟩:=eD
 ·obtain⟨h1,h2⟩:=Np
  have hz:zs=[]:=List.length_eq_zero_iff.1 h2
  subst hz
  rw[h1]
  refine(hn none 0 w).mono ?_
  rintro e w' ⟨rfl,rfl⟩
  have GJ:ak o id (.arr ep ty 1 ((dS []).map (D.int .i64)))=o:=by
   funext j
   by_cases e:j=id
   ·subst e;rw[aa,ho,show dS []=[] by simp[dS]]
   ·rw[ad _ _ _ _ e]
  rw[GJ]at hK
  exact⟨φ,o,nx, .bS [],hH,Trans.refl _ _ _,⟨#[],rfl,rfl⟩,hK⟩
 ·rw[dq]
  have hb:b<w.heap.size:=(Array.getElem?_eq_some_iff.1 hg).1
  have UE:∀j,j<zs.length->cur[j]? =some (.int .i64 zs[j]!):=by
   intro j hj
   have h1:(cur.toList.take (zs.length*1))[j]? =(zs.map (Value.int .i64))[j]? :=by rw[UD]
   rw[List.getElem?_take_of_lt (by omega),List.getElem?_map,List.getElem?_eq_getElem hj]at h1
   simp only[Option.map_some]at h1
   rw[getElem!_pos zs j hj]
   simpa using h1
  refine(hS b 0 cap zs w (fun j hj=> ?_) hb hlen).mono ?_
  ·simp only[List.size_toArray]at hj
   refine⟨?_, ?_⟩
   ·unfold World.cell?
    simp only[hg,Option.isSome_none,Bool.false_eq_true,if_false,Nat.zero_add]
    rw[UE j hj];simp
   ·unfold World.frozen?
    simp[hg]
  rintro e w' ⟨rfl,n,os,rfl⟩
  have OC:(dS zs).length=zs.length:=List.length_mergeSort zs
  have wR:∀k,k<w.heap.size->(grow (putRow (Value.int .i64) (Sort.ahead w n) b 0 (dS zs).toArray) os).heap[k]? =(w.heap.modify b (onCells (putCells (Value.int .i64) 0 (dS zs).toArray)))[k]? :=by
   intro k hk
   unfold grow putRow mapBlock Sort.ahead
   simp only
   rw[Array.getElem?_append_left (by simpa using hk)]
  have wh:eM (· =b) w (grow (putRow (Value.int .i64) (Sort.ahead w n) b 0 (dS zs).toArray) os):=by
   refine⟨rfl,rfl,rfl, ?_,fun k hk gv=> ?_⟩
   ·unfold grow putRow mapBlock Sort.ahead;simp
   ·rw[wR k hk,Array.getElem?_modify,if_neg (fun e=>gv e.symm)]
  have bP:((hp o nx).o id).live=true:=by show(o id).live=true;rw[ho];rfl
  have Fg:dN (φ id)=some b:=by rw[dq];rfl
  have Nn:(grow (putRow (Value.int .i64) (Sort.ahead w n) b 0 (dS zs).toArray) os).heap[b]? =some (.cells (putCells (Value.int .i64) 0 (dS zs).toArray cur) ty (0,0)):=by
   rw[wR b hb,Array.getElem?_modify,if_pos rfl,hg];rfl
  have kF:(hp o nx).put [(id, .arr ep ty 1 ((dS zs).map (D.int .i64)))]=hp (ak o id (.arr ep ty 1 ((dS zs).map (D.int .i64)))) nx:=by
   have dA:id<nx:=v1
   simp only[Hp.put,hp]
   congr 1
   funext j
   simp only[List.map_cons,List.map_nil,List.mem_singleton,eq_iff_iff]
   exact⟨fun h=>h.elim (fun h=>h) (fun e=>e ▸ dA), .inl⟩
  have qy:aK M φ ((hp o nx).put [(id, .arr ep ty 1 ((dS zs).map (D.int .i64)))]) (grow (putRow (Value.int .i64) (Sort.ahead w n) b 0 (dS zs).toArray) os) id:=by
   unfold aK
   rw[show((hp o nx).put [(id, .arr ep ty 1 ((dS zs).map (D.int .i64)))]).o id= .arr ep ty 1 ((dS zs).map (D.int .i64)) by simp]
   refine⟨by decide,(dS zs).map (Value.int .i64), ?_,(Eb _ _).2 rfl⟩
   simp only[List.length_map,OC]
   refine⟨by simp[OC], .inr ⟨b,cap,_,dq,Nat.zero_le _,Nn,xo,xm, ?_, ?_⟩⟩
   ·unfold putCells;simpa using hcs
   ·apply List.ext_getElem?
    intro j
    by_cases hj:j<zs.length
    ·rw[List.getElem?_take_of_lt (by omega),List.getElem?_map,List.getElem?_eq_getElem (l:=dS zs) (by omega)]
     have GH:j<cur.size:=by omega
     unfold putCells
     simp only[Array.getElem?_toList,Array.getElem?_mapIdx,Option.map_some]
     rw[Array.getElem?_eq_getElem GH]
     simp only[Option.map_some,Nat.zero_le,true_and,Nat.zero_add,List.size_toArray,Nat.sub_zero]
     rw[if_pos (by omega)]
     rw[getElem!_pos _ j (by simp;omega)]
     simp
    ·rw[List.getElem?_eq_none (by rw[List.length_take,Nat.mul_one];exact Nat.le_trans (Nat.min_le_left _ _) (Nat.not_lt.1 hj)),List.getElem?_eq_none (by rw[List.length_map,OC];exact Nat.not_lt.1 hj)]
  have MO:=gZ hH (id:=id) v1 bP Fg wh (.arr ep ty 1 ((dS zs).map (D.int .i64))) (by rw[show(hp o nx).o id=_ from ho];rfl) (by rw[show(hp o nx).o id=_ from ho];rfl) qy
  have Mn:=eS (φ:=φ) (H:=hp o nx) (id:=id) v1 bP Fg wh (.arr ep ty 1 ((dS zs).map (D.int .i64))) (by rw[show(hp o nx).o id=_ from ho];rfl) (by rw[show(hp o nx).o id=_ from ho];rfl)
  rw[kF]at MO Mn
  exact⟨φ,_,nx, .bS [],MO,Mn,⟨#[],rfl,rfl⟩,hK⟩
end Go.Proofs.YtealblliddhgiaaGreat
end
section
namespace Go.Proofs.YtealblliddhgiaaGreat
open Go.Shelf
def Bd:Go.Shelf.Ren:=⟨fun|189=>72|125=>109|257=>108|128=>140|129=>141|294=>131|295=>132|296=>133|297=>134|298=>135|299=>136|216=>137|300=>138|301=>139|328=>143|329=>144|330=>145|331=>146|332=>147|215=>129|343=>148|n=>n,fun|28=>53|3=>3|46=>143|0=>0|51=>168|53=>170|4=>4|183=>161|182=>160|131=>151|5=>5|9=>9|218=>172|222=>88|228=>177|229=>178|n=>n,fun|n=>n⟩
theorem Ec:Go.Proofs.Lays.n189 Tryz.prog Bd:={
 mixed:=by kernel_rfl
 f125:=Tryz.func109.trans (congrArg some (by kernel_rfl))
 f128:=Tryz.func140.trans (congrArg some (by kernel_rfl))
 f129:=Tryz.func141.trans (congrArg some (by kernel_rfl))
 f189:=Tryz.func72.trans (congrArg some (by kernel_rfl))
 f215:=Tryz.func129.trans (congrArg some (by kernel_rfl))
 f216:=Tryz.func137.trans (congrArg some (by kernel_rfl))
 f257:=Tryz.func108.trans (congrArg some (by kernel_rfl))
 f294:=Tryz.func131.trans (congrArg some (by kernel_rfl))
 f295:=Tryz.func132.trans (congrArg some (by kernel_rfl))
 f296:=Tryz.func133.trans (congrArg some (by kernel_rfl))
 f297:=Tryz.func134.trans (congrArg some (by kernel_rfl))
 f298:=Tryz.func135.trans (congrArg some (by kernel_rfl))
 f299:=Tryz.func136.trans (congrArg some (by kernel_rfl))
 f300:=Tryz.func138.trans (congrArg some (by kernel_rfl))
 f301:=Tryz.func139.trans (congrArg some (by kernel_rfl))
 f328:=Tryz.func143.trans (congrArg some (by kernel_rfl))
 f329:=Tryz.func144.trans (congrArg some (by kernel_rfl))
 f330:=Tryz.func145.trans (congrArg some (by kernel_rfl))
 f331:=Tryz.func146.trans (congrArg some (by kernel_rfl))
 f332:=Tryz.func147.trans (congrArg some (by kernel_rfl))
 f343:=Tryz.func148.trans (congrArg some (by kernel_rfl))
 t0:=Tryz.underlying0
 a0:=Tryz.isAgg0
 z0:=Tryz.sizeOf0
 v0:=Tryz.zeroValue0
 t3:=Tryz.underlying3
 a3:=Tryz.isAgg3
 z3:=Tryz.sizeOf3
 v3:=Tryz.zeroValue3
 t4:=Tryz.underlying4
 a4:=Tryz.isAgg4
 z4:=Tryz.sizeOf4
 v4:=Tryz.zeroValue4
 t5:=Tryz.underlying5
 a5:=Tryz.isAgg5
 z5:=Tryz.sizeOf5
 v5:=Tryz.zeroValue5
 t9:=Tryz.underlying9
 a9:=Tryz.isAgg9
 z9:=Tryz.sizeOf9
 v9:=Tryz.zeroValue9
 t28:=Tryz.underlying53
 a28:=Tryz.isAgg53
 z28:=Tryz.sizeOf53
 v28:=Tryz.zeroValue53
 t46:=Tryz.underlying143
 a46:=Tryz.isAgg143
 z46:=Tryz.sizeOf143
 v46:=Tryz.zeroValue143
 t51:=Tryz.underlying168
 a51:=Tryz.isAgg168
 z51:=Tryz.sizeOf168
 v51:=Tryz.zeroValue168
 t53:=Tryz.underlying170
 a53:=Tryz.isAgg170
 z53:=Tryz.sizeOf170
 v53:=Tryz.zeroValue170
 t131:=Tryz.underlying151
 a131:=Tryz.isAgg151
 z131:=Tryz.sizeOf151
 v131:=Tryz.zeroValue151
 t182:=Tryz.underlying160
 a182:=Tryz.isAgg160
 z182:=Tryz.sizeOf160
 v182:=Tryz.zeroValue160
 t183:=Tryz.underlying161
 a183:=Tryz.isAgg161
 z183:=Tryz.sizeOf161
 v183:=Tryz.zeroValue161
 t218:=Tryz.underlying172
 a218:=Tryz.isAgg172
 z218:=Tryz.sizeOf172
 v218:=Tryz.zeroValue172
 t222:=Tryz.underlying88
 a222:=Tryz.isAgg88
 z222:=Tryz.sizeOf88
 v222:=Tryz.zeroValue88
 t228:=Tryz.underlying177
 a228:=Tryz.isAgg177
 z228:=Tryz.sizeOf177
 v228:=Tryz.zeroValue177
 t229:=Tryz.underlying178
 a229:=Tryz.isAgg178
 z229:=Tryz.sizeOf178
 v229:=Tryz.zeroValue178}
theorem FR:Bc Tryz.prog 72:=fun dN off cap zs w h1 h2 h3=>Any.slices_Sort_int Ec dN off cap zs w h1 h2 h3
theorem FT:∀ (p:Option Addr) (cap:Nat) (w:World),Calls Tryz.prog 72 #[.slice p 0 cap] w fun e w'=>e= .returned (.tuple #[])/\w'=w:=fun p cap w=>Any.slices_Sort_int_none Ec p cap w
theorem Be:Enters Tryz.prog 72:=⟨_,Tryz.func72,by kernel_rfl,by kernel_rfl⟩
end Go.Proofs.YtealblliddhgiaaGreat
end
namespace Go.Proofs.YtealblliddhgiaaGreat
theorem Bf(t:Tm)(ht:t.fits)(o:Nat->ae)(nx:Nat)(hg:Good o nx)(K X:V->(Nat->ae)->Nat->Prop)
 (hK:∀o' nx' id l,nx<=id->id<nx'->Good o' nx'->(∀j,j<nx->o' j=o j)->o' id=jV l->l.Nodup->(∀v,v∈l↔eL v t=true)->K (.mp id) o' nx'):
 dX Tryz.prog 71 [.d t.d] o nx K X:=by
 refine dX.aZ mix S5 (by simp) ?_
 rw[Yl]
 simp+contextual (disch:=first|omega|simp only[go_sem,false_implies]) only[go_sem,wrap64,if_pos,Nat.add_assoc,Nat.left_eq_add,Nat.add_eq_left,Nat.add_left_cancel_iff]
 refine bK (Pw t ht _ _ (nx+2) [] ?_ ?_ List.nodup_nil _ _ fun o2 n2 l m1 m2 m3 m4 m5=> ?_)
 ·exact(by repeat(first|exact hg.mono (by omega)|exact Good.nil|refine Good.ak ?_ (by omega) rfl|refine Good.ak ?_ (by omega) (bV _ _ _ (by omega))|refine Good.ak ?_ (by omega) (by simp[ae.refs,V.ag,V.refs]<;>omega)))
 ·(repeat(first|rfl|rw[aa]|rw[ad _ _ _ _ (by omega)]))
 simp+contextual (disch:=first|omega|simp only[go_sem,false_implies]) only[go_sem,wrap64,if_pos,and_self]
 refine hK _ _ (nx+2) l ?_ ?_ ?_ (fun j hj=> ?_) m4 m5.1 (fun v=> ?_)
 ·omega
 ·omega
 ·exact m2.mono (by omega)
 ·rw[m3 j (by omega) (by omega)];(repeat(first|rfl|rw[aa]|rw[ad _ _ _ _ (by omega)]))
 ·have:=m5.2 v
  simpa using this
def oV:List Int->Int->List Int
 |[],n=>[n]
 |x::l,n=>if x<n then x::oV l n else if x=n then x::l else n::x::l
def qV(op n:Int)(i:Nat)(l out:List Int):List Int:=l.foldl (fun out v=>if(op !=8||(i:Int)!=1||v !=n)=true then oV out v else out) out
mutual
def ct:Tm->List Int
 | .mk op n kids=>if op=1 then [n]else kP op n kids 0 []
def kP(op n:Int):List Tm->Nat->List Int->List Int
 |[],_,out=>out
 |k::l,i,out=>kP op n l (i+1) (qV op n i (ct k) out)
end
theorem uG(t:Tm):ct t=if t.op=1 then [t.n]else kP t.op t.n t.kids 0 []:=by cases t;rfl
theorem uH:∀ (l:List Int) (n v:Int),v∈oV l n↔v∈l\/v=n
 |[],n,v=>by simp[oV]
 |x::l,n,v=>by
  simp only[oV]
  split
  ·simp only[List.mem_cons,uH l n v];constructor
   ·rintro(h|h|h)
    ·exact .inl (.inl h)
    ·exact .inl (.inr h)
    ·exact .inr h
   ·rintro((h|h)|h)
    ·exact .inl h
    ·exact .inr (.inl h)
    ·exact .inr (.inr h)
  ·split
   ·rename_i h;subst h;simp only[List.mem_cons];constructor
    ·exact .inl
    ·rintro(h|h)
     ·exact h
     ·exact .inl h
   ·simp only[List.mem_cons];constructor
    ·rintro(h|h)
     ·exact .inr h
     ·exact .inl h
    ·rintro(h|h)
     ·exact .inr h
     ·exact .inl h
abbrev Gg(l:List Int):Prop:=l.Pairwise (· <·)
theorem Bg:∀ {l:List Int} (n:Int),Gg l->Gg (oV l n)
 |[],n,_=>by simp[oV]
 |x::l,n,h=>by
  have h1:=List.pairwise_cons.1 h
  simp only[oV]
  split
  ·rename_i hx
   refine List.pairwise_cons.2 ⟨fun y hy=> ?_,Bg n h1.2⟩
   rcases(uH l n y).1 hy with hy|hy
   ·exact h1.1 y hy
   ·omega
  ·split
   ·exact h
   ·refine List.pairwise_cons.2 ⟨fun y hy=> ?_,h⟩
    rcases List.mem_cons.1 hy with hy|hy
    ·omega
    ·have:=h1.1 y hy;omega
theorem qW(op n:Int)(i:Nat):∀ (l out:List Int),Gg out->Gg (qV op n i l out)/\∀v,v∈qV op n i l out↔v∈out\/(v∈l/\ ¬ (op=8/\i=1/\n=v))
 |[],out,h=>⟨h,fun v=>by simp[qV]⟩
 |x::l,out,h=>by
  have hk:qV op n i (x::l) out=qV op n i l (if(op !=8||(i:Int)!=1||x !=n)=true then oV out x else out):=rfl
  rw[hk]
  by_cases hc:(op !=8||(i:Int)!=1||x !=n)=true
  ·rw[if_pos hc]
   have ih:=qW op n i l (oV out x) (Bg x h)
   refine⟨ih.1,fun v=> ?_⟩
   rw[ih.2 v,uH,List.mem_cons]
   have tk: ¬ (op=8/\i=1/\n=x):=by
    rintro⟨h1,h2,h3⟩;subst h1;subst h2;subst h3;simp at hc
   constructor
   ·rintro((h|h)|h)
    ·exact .inl h
    ·subst h;exact .inr ⟨.inl rfl,tk⟩
    ·exact .inr ⟨.inr h.1,h.2⟩
   ·rintro(h|⟨h|h,h2⟩)
    ·exact .inl (.inl h)
    ·exact .inl (.inr h)
    ·exact .inr ⟨h,h2⟩
  ·rw[if_neg hc]
   have ih:=qW op n i l out h
   refine⟨ih.1,fun v=> ?_⟩
   rw[ih.2 v,List.mem_cons]
   have tk:op=8/\i=1/\n=x:=by simp at hc;exact⟨hc.1.1,by omega,hc.2.symm⟩
   constructor
   ·rintro(h|h)
    ·exact .inl h
    ·exact .inr ⟨.inr h.1,h.2⟩
   ·rintro(h|⟨h|h,h2⟩)
    ·exact .inl h
    ·subst h;exact absurd tk h2
    ·exact .inr ⟨h,h2⟩
theorem cL:∀t:Tm,Gg (ct t)/\∀v,v∈ct t↔eL v t=true:=by
 refine Tm.eO fun t ih=> ?_
 have hs:∀ (l:List Tm) (i:Nat) (out:List Int),(∀k∈l,k∈t.kids)->Gg out->Gg (kP t.op t.n l i out)/\∀v,v∈kP t.op t.n l i out↔v∈out\/qU v t.op t.n l i=true:=by
  intro l
  induction l with
  |nil=>intro i out _ h;exact⟨h,fun v=>by simp[kP,qU]⟩
  |cons k l AX=>
   intro i out hk h
   have h1:=ih k (hk k (by simp))
   have h2:=qW t.op t.n i (ct k) out h
   have h3:=AX (i+1) _ (fun x hx=>hk x (by simp[hx])) h2.1
   refine⟨h3.1,fun v=> ?_⟩
   show v∈kP t.op t.n l (i+1) (qV t.op t.n i (ct k) out)↔_
   rw[h3.2 v,h2.2 v,h1.2 v,qU]
   simp only[Bool.or_eq_true,Bool.and_eq_true,Bool.not_eq_true',Bool.and_eq_false_iff,beq_eq_false_iff_ne,ne_eq,not_and]
   have:(∀ (_:t.op=8) (_:i=1), ¬t.n=v)↔((¬t.op=8\/ ¬i=1)\/ ¬t.n=v):=by
    constructor
    ·intro h
     by_cases c1:t.op=8
     ·by_cases c2:i=1
      ·exact .inr (h c1 c2)
      ·exact .inl (.inr c2)
     ·exact .inl (.inl c1)
    ·rintro((h|h)|h) c1 c2
     ·exact absurd c1 h
     ·exact absurd c2 h
     ·exact h
   rw[this]
   constructor
   ·rintro((h|h)|h)
    ·exact .inl h
    ·exact .inr (.inl h)
    ·exact .inr (.inr h)
   ·rintro(h|h|h)
    ·exact .inl (.inl h)
    ·exact .inl (.inr h)
    ·exact .inr h
 by_cases h1:t.op=1
 ·rw[uG,if_pos h1]
  refine⟨by simp,fun v=> ?_⟩
  rw[np,if_pos h1]
  simp only[List.mem_singleton,beq_iff_eq]
  exact eq_comm
 ·rw[uG,if_neg h1]
  have:=hs t.kids 0 [] (fun _ h=>h) (by simp)
  refine⟨this.1,fun v=> ?_⟩
  rw[this.2 v,np,if_neg h1]
  simp
theorem Ii:∀ {l l':List Int},Gg l->Gg l'->(∀v,v∈l↔v∈l')->l=l'
 |[],[],_,_,_=>rfl
 |[],y::l',_,_,h=>by have:=(h y).2 (by simp);cases this
 |x::l,[],_,_,h=>by have:=(h x).1 (by simp);cases this
 |x::l,y::l',h1,h2,h=>by
  have g1:=List.pairwise_cons.1 h1
  have g2:=List.pairwise_cons.1 h2
  have e:x=y:=by
   rcases List.mem_cons.1 ((h x).1 (by simp))with e|e
   ·exact e
   ·rcases List.mem_cons.1 ((h y).2 (by simp))with e2|e2
    ·exact e2.symm
    ·have:=g2.1 x e;have:=g1.1 y e2;omega
  subst e
  rw[Ii g1.2 g2.2 fun v=> ?_]
  constructor
  ·intro hv
   rcases List.mem_cons.1 ((h v).1 (by simp[hv]))with e|e
   ·subst e;exact absurd (g1.1 v hv) (by omega)
   ·exact e
  ·intro hv
   rcases List.mem_cons.1 ((h v).2 (by simp[hv]))with e|e
   ·subst e;exact absurd (g2.1 v hv) (by omega)
   ·exact e
theorem uI{l:List Int}{t:Tm}(hn:l.Nodup)(h:∀v,v∈l↔eL v t=true):dS l=ct t:=by
 have hp:(dS l).Perm l:=List.mergeSort_perm _ _
 have hs:(dS l).Pairwise (fun a b=>decide (a<=b)=true):=List.pairwise_mergeSort (fun a b c h1 h2=>by simp at*;omega) (fun a b=>by simp;omega) l
 have PW:(dS l).Nodup:=hp.nodup_iff.2 hn
 refine Ii ?_ (cL t).1 fun v=>by rw[hp.mem_iff,h v,(cL t).2 v]
 exact(hs.and PW).imp fun {a b} h=>by have:=h.1;have:=h.2;simp at*;omega
theorem mi{α:Type}{l:List α}{i:Nat}{n:α}(h:l[i]? =some n):(n::l.eraseIdx i).Perm l:=by
 obtain⟨hi,e⟩:=List.getElem?_eq_some_iff.1 h
 have BU:l=l.take i++n::l.drop (i+1):=by rw[<- e,List.getElem_cons_drop,List.take_append_drop]
 rw[List.eraseIdx_eq_take_drop_succ]
 conv=>rhs;rw[BU]
 exact List.perm_middle.symm
theorem Bh:∀ (l:List Int) (n:Int),(oV l n).length<=l.length+1
 |[],n=>by simp[oV]
 |x::l,n=>by
  have:=Bh l n
  simp only[oV]
  split
  ·simp;omega
  ·split<;>simp
theorem uJ(op n:Int)(i:Nat):∀ (l out:List Int),(qV op n i l out).length<=out.length+l.length
 |[],out=>by simp[qV]
 |x::l,out=>by
  have hk:qV op n i (x::l) out=qV op n i l (if(op !=8||(i:Int)!=1||x !=n)=true then oV out x else out):=rfl
  rw[hk]
  have h1:=Bh out x
  split
  ·have:=uJ op n i l (oV out x);simp;omega
  ·have:=uJ op n i l out;simp;omega
theorem FU:∀t:Tm,(ct t).length<=t.sz:=by
 refine Tm.eO fun t ih=> ?_
 have hs:∀ (l:List Tm) (i:Nat) (out:List Int),(∀k∈l,k∈t.kids)->(kP t.op t.n l i out).length<=out.length+mF l:=by
  intro l
  induction l with
  |nil=>intro i out _;simp[kP]
  |cons k l AX=>
   intro i out hk
   have h1:=ih k (hk k (by simp))
   have h2:=uJ t.op t.n i (ct k) out
   have h3:=AX (i+1) (qV t.op t.n i (ct k) out) (fun x hx=>hk x (by simp[hx]))
   rw[dL]
   show(kP t.op t.n l (i+1) (qV t.op t.n i (ct k) out)).length<=_
   omega
 rw[uG,Tm.iQ]
 split
 ·simp
 ·have:=hs t.kids 0 [] (fun _ h=>h);simp at this;omega
theorem FV{s:aO}{l:List Tm}(h:eW s l=true):∀t∈l,t.sz<=40/\t.ck<=12:=by
 intro t ht
 rw[lF]at h
 simp only[gK,Bool.and_eq_true,List.all_eq_true,bL,decide_eq_true_eq,jS]at h
 have:=(h.2 t ht).1
 omega
theorem Py(s:aO)(hs:s.Fits)(t:Tm)(ht:t.Fin):bJ Tryz.prog 32 [s.d,t.d] (.ret [.sl (if eW s [t]=true then(ct t).map .i else []), .i (fH (eW s [t]))]):=by
 refine bJ.aZ mix SM (by simp) ?_
 rw[XH]
 simp+contextual (disch:=first|omega|simp only[go_sem,false_implies]) only[go_sem,wrap64,if_pos,and_self]
 refine aw (yu s hs [t] (by simp) (fun x hx=>by simp at hx;subst hx;exact ht)) rfl ?_
 cases h1:eW s [t]with
 |false=>simp+contextual (disch:=first|omega|simp only[go_sem,false_implies]) only[go_sem,wrap64,if_pos,and_self];simp[fH]
 |true=>
  simp+contextual (disch:=first|omega|simp only[go_sem,false_implies]) only[go_sem,wrap64,if_pos,and_self]
  refine bK (Bf t ht.fits _ _ (by repeat(first|exact hg.mono (by omega)|exact Good.nil|refine Good.ak ?_ (by omega) rfl|refine Good.ak ?_ (by omega) (bV _ _ _ (by omega))|refine Good.ak ?_ (by omega) (by simp[ae.refs,V.ag,V.refs]<;>omega))) _ _ fun o2 n2 id l m1 m2 m3 m4 m5 m6 m7=> ?_)
  have w1:id≠n2:=by omega
  have w2:∀k,id≠n2+k:=fun k=>by omega
  simp+contextual (disch:=first|omega|simp only[go_sem,false_implies]) only[go_sem,wrap64,if_pos,m5,w1,w2,Nat.add_assoc,Nat.left_eq_add,Nat.add_eq_left,Nat.add_left_cancel_iff]
  have YW:=uI m6 m7
  have hlen:l.length<=40:=by
   have e1:(dS l).length=l.length:=List.length_mergeSort l
   have e2:=FU t
   have e3:=(FV h1 t (by simp)).1
   rw[<- YW]at e2;omega
  refine aW (fun i:List Int×List Int×Option (D×D)=>⟨bw [.ab, .ab, .ab, .ab, .ab, .ab, .osl (n2+1) 0, .ab, .ab, .ab, .ab, .ab, .ab, .ab, .ab, .ptr n2 0],ak (ak (fun _=> .no) n2 (.kW (enc (D.int .i64) (eH i.1)) i.2.2)) (n2+1) (.arr 0 3 1 (i.2.1.map .i)),n2+2⟩)
   (fun i=>i.1.length+i.2.1.length<=40/\(i.2.1++i.1).Perm l) (fun i=>i.1.length) (l,[],none) ⟨by simpa using hlen,by simp⟩ (bW.yn (fun _=>False) .bn (n2+1) _ (by omega) (fun j hj=> ?_) (by dsimp only;(repeat(first|rfl|rw[aa]|rw[ad _ _ _ _ (by omega)]))) (.inl ⟨rfl,rfl,by decide⟩) (fun j hj=>by dsimp only;(repeat(first|rfl|rw[aa]|rw[ad _ _ _ _ (by omega)]))) (fun _ h=>h.elim) ?_) ?_
  ·dsimp only
   have ne:j≠n2+1:=by omega
   simp only[aJ,ne,if_false]
   split
   ·exact jv rfl (by simp[ae.refs])
   ·exact yl
  ·try dsimp only
   (repeat(first|exact gH|refine fl ?_|refine eG rfl ?_|refine eG (aQ (aP (by omega))) ?_|refine mf 0 rfl rfl rfl ?_|refine me rfl (by simp[V.refs,V.ag]<;>first|omega|assumption) ?_|refine mg rfl (by simp[V.ids]<;>omega) ?_))
  rintro⟨rest,gV,last⟩ ⟨hl,hp⟩
  simp only at hl hp
  simp+contextual (disch:=first|omega|simp only[go_sem,false_implies]) only[go_sem,wrap64,if_pos,and_self]
  refine w8 (fun hr=> ?_) fun i m hm=> ?_
  ·subst hr
   simp+contextual (disch:=first|omega|simp only[go_sem,false_implies]) only[go_sem,wrap64,if_pos,Nat.add_assoc,Nat.left_eq_add,Nat.add_eq_left,Nat.add_left_cancel_iff]
   have GV:gV.Perm l:=by simpa using hp
   have hsd:dS gV=ct t:=uI (GV.nodup_iff.2 m6) fun v=>by rw[GV.mem_iff,m7 v]
   refine bK (Ih Be FR (zs:=gV) (by(repeat(first|rfl|rw[aa]|rw[ad _ _ _ _ (by omega)]))) FT (by omega) ?_)
   simp+contextual (disch:=first|omega|simp only[go_sem,false_implies]) only[go_sem,wrap64,if_pos,Nat.add_assoc,Nat.left_eq_add,Nat.add_eq_left,Nat.add_left_cancel_iff]
   rw[hsd]
   simp[fH]
  ·have e1:gV.length<=140737488355328:=by omega
   have e2:gV.length*8<=140737488355328:=by omega
   have e3:gV.length<=140737488355327:=by omega
   have e4:(gV.length+1)*8<=140737488355328:=by omega
   simp+contextual (disch:=first|omega|simp only[go_sem,false_implies]) only[go_sem,wrap64,if_pos,Nat.add_assoc,Nat.left_eq_add,Nat.add_eq_left,Nat.add_left_cancel_iff,e1,e2,e3,e4]
   obtain⟨r1,r2⟩:=uF hm
   have BT:(rest.eraseIdx i).length+1=rest.length:=r2
   refine aB (rest.eraseIdx i,gV++[m],some (.int .i64 m, .bool true)) ⟨by dsimp only;simp;omega, ?_⟩ (by dsimp only;omega) (bW.yn (fun j=>j=n2+1) (.osl (n2+1) 1) (n2+1) _ (by omega) (fun j hj=> ?_) (by dsimp only;(repeat(first|rfl|rw[aa]|rw[ad _ _ _ _ (by omega)]))) (.inr ⟨n2+1,1,rfl,rfl,by rw[aa,List.map_append];rfl⟩) (fun j hj=>by dsimp only;(repeat(first|rfl|rw[aa]|rw[ad _ _ _ _ (by omega)]))) (fun j h h2=>by omega) ?_)
   ·dsimp only
    refine List.Perm.trans ?_ hp
    rw[List.append_assoc]
    refine List.Perm.append_left _ ?_
    exact mi hm
   ·dsimp only
    have ne:j≠n2+1:=by omega
    have ne9:j≠n2+9:=by omega
    simp only[aJ,ne,ne9,if_false]
    split
    ·exact jv rfl (by simp[ae.refs])
    ·exact yl
   ·try dsimp only
    (repeat(first|exact gH|refine fl ?_|refine eG rfl ?_|refine eG (aQ (aP (by omega))) ?_|refine mf 0 rfl rfl rfl ?_|refine me rfl (by simp[V.refs,V.ag]<;>first|omega|assumption) ?_|refine mg rfl (by simp[V.ids]<;>omega) ?_))
end Go.Proofs.YtealblliddhgiaaGreat
namespace Go.Proofs.YtealblliddhgiaaGreat
end Go.Proofs.YtealblliddhgiaaGreat
namespace Go.Proofs.YtealblliddhgiaaGreat
section
variable {B:Nat->Prop}{w:World}
theorem C1{l l':List (D×D)}(hl:l.Perm l'):∀ {p:List MapEntry},aH B w l p->∃p',p'.Perm p/\aH B w l' p':=by
 induction hl with
 |nil=>intro p h;exact⟨p,List.Perm.refl _,h⟩
 |cons x _ ih=>
  intro p h
  obtain⟨k,v⟩:=x
  obtain⟨e,es,rfl,h1,h2,h3⟩:=h
  obtain⟨p',g1,g2⟩:=ih h3
  exact⟨e::p',g1.cons _,_,_,rfl,h1,h2,g2⟩
 |swap x y t=>
  intro p h
  obtain⟨k,v⟩:=x
  obtain⟨k',v'⟩:=y
  obtain⟨e,es,rfl,h1,h2,e',es',rfl,nI,u6,h3⟩:=h
  exact⟨e'::e::es',List.Perm.swap _ _ _,_,_,rfl,nI,u6,_,_,rfl,h1,h2,h3⟩
 |trans _ _ Wm Wn=>
  intro p h
  obtain⟨l1,g1,g2⟩:=Wm h
  obtain⟨l2,g3,g4⟩:=Wn g2
  exact⟨l2,g3.trans g1,g4⟩
theorem D.FW {l l':List (D×D)}(hl:l.Perm l')(hk:pg (l.map (·.1))){v:Value}(h:D.den B w (.mp (l.map (·.1)) (l.map (·.2))) v):D.den B w (.mp (l'.map (·.1)) (l'.map (·.2))) v:=by
 obtain⟨m,es,clock,l2,h1,h2,h3,h4,h5,h6⟩:=lV h
 have hp:l2.Perm l':=h5.perm.trans hl
 obtain⟨p,g1,g2⟩:=C1 hp h6
 obtain⟨g3,g4⟩:=(jn _ _).1 g2
 have MP:(l'.map (·.1)).Perm (l.map (·.1)):=(hl.map _).symm
 exact⟨m,es,clock,p,h1,h2,h3,h4, .inr ⟨g1,MP.nodup_iff.2 hk.1,fun k h=>hk.2 k (MP.mem_iff.1 h)⟩,g3,g4⟩
end
theorem bJ.Bi {P:Program}{f:FuncId}{ds:List D}{out:D}(h:dX P f (ds.map .d) (fun _=> .no) 0 (fun v o _=>∃x,dO o v=some x/\∀B w val,D.den B w x val->D.den B w out val) (fun _ _ _=>False)):bJ P f ds (.ret [out]):=by
 refine⟨h.1,fun M w vals hM hd=> ?_⟩
 let cA:Place:=fun _=> .nilFunc
 have ve:∀b, ¬bT cA (hp (fun _=> .no) 0) b:=by rintro b ⟨id,hl,_⟩;simp[hp,ae.live]at hl
 refine(h.2 M cA w vals (ll cA hM) ((V.cm _ _).2 (D.aI (w:=w) (w':=w) (B:=M) (fun b _ hB=>⟨rfl,fun h=>h.elim hB (ve b)⟩) _ _ hd))).mono ?_
 rintro e w' ⟨aC,o',nx',v,k1,k2,k3⟩
 have wh:eM (fun _=>False) w w':=⟨k2.bY.os,k2.bY.tape,k2.bY.output,k2.bY.size,fun k hk _=>k2.bY.block k hk (ve k)⟩
 refine⟨wh, ?_⟩
 cases e with
 |outgrown=>exact k3.elim
 |panicked ch=>obtain⟨_,_,_,h⟩:=k3;exact h.elim
 |returned val=>
  obtain⟨g1,x,g2,g3⟩:=k3
  obtain⟨f1,f2,f3,f4,f5⟩:=cT k1 v.ids (fun id ax=>cN v val g1 id ax)
  have h3:=eI f1 (o:=o') v x val (fun id ax=>f3 id ax) g2 (V.aF f2 _ _ g1)
  exact g3 _ _ _ (D.aF (w:=w') (w':=w') (fun k _ hB=>⟨rfl,fun hM=>hB (.inl hM)⟩) x val h3)
end Go.Proofs.YtealblliddhgiaaGreat
namespace Go.Proofs.YtealblliddhgiaaGreat
@[reducible] def QQ (m:List (Int×D)):D:= .mp ((enc (D.int .i64) m).map (·.1)) ((enc (D.int .i64) m).map (·.2))
theorem kz(m:List (Int×D)):(((enc (D.int .i64) m).map (·.1)).zip ((enc (D.int .i64) m).map (·.2)))=enc (D.int .i64) m:=Kr _ m
theorem Bj{m:List (Int×D)}(h:(m.map (·.1)).Nodup):pg ((enc (D.int .i64) m).map (·.1)):=by
 have e:(enc (D.int .i64) m).map (·.1)=(m.map (·.1)).map (D.int .i64):=by simp[enc,Function.comp_def]
 rw[e]
 refine⟨?_,fun k hk=> ?_⟩
 ·have inj:∀l:List Int,l.Nodup->(l.map (D.int .i64)).Nodup:=by
   intro l
   induction l with
   |nil=>intro _;exact List.nodup_nil
   |cons x l ih=>
    intro h
    rw[List.nodup_cons]at h
    rw[List.map_cons,List.nodup_cons]
    refine⟨fun hm=> ?_,ih h.2⟩
    obtain⟨y,hy,he⟩:=List.mem_map.1 hm
    injection he with _ he
    subst he
    exact h.1 hy
  exact inj _ h
 ·obtain⟨n,_,rfl⟩:=List.mem_map.1 hk
  exact⟨n,rfl⟩
theorem Bk(t:Tm)(ht:t.fits):bJ Tryz.prog 71 [t.d] (.ret [QQ (eH (ct t))]):=by
 refine bJ.Bi (Bf t ht _ _ (by repeat(first|exact hg.mono (by omega)|exact Good.nil|refine Good.ak ?_ (by omega) rfl|refine Good.ak ?_ (by omega) (bV _ _ _ (by omega))|refine Good.ak ?_ (by omega) (by simp[ae.refs,V.ag,V.refs]<;>omega))) _ _ fun o' nx' id l _ _ _ _ ho hn hm=> ?_)
 refine⟨_,by simp only[dO,ho];rfl,fun B w val h=> ?_⟩
 have hp:l.Perm (ct t):=by
  rw[<- uI hn hm]
  exact(List.mergeSort_perm _ _).symm
 have h1:(enc (D.int .i64) (eH l)).Perm (enc (D.int .i64) (eH (ct t))):=(hp.map _).map _
 refine D.FW h1 (Bj ?_) h
 simpa[eH,Function.comp_def]using hn
end Go.Proofs.YtealblliddhgiaaGreat
namespace Go.Proofs.YtealblliddhgiaaGreat
theorem Ij(a b:List Tm)(ha:a.length<=9223372036854775807)(hb:b.length<=9223372036854775807)(g:Nat)(h:∀x∈a,∀y∈b,bJ Tryz.prog g [x.d,y.d] (.ret [.bool (iM x y)]))(o:Nat->ae)(nx:Nat)(hg:Good o nx)(K X:V->(Nat->ae)->Nat->Prop)
 (hK:∀o' nx',nx<=nx'->Good o' nx'->(∀j,j<nx->o' j=o j)->K (.d (.bool (a.length==b.length&&iq a b))) o' nx'):
 dX Tryz.prog 111 [.d (.sl (a.map Tm.d)), .d (.sl (b.map Tm.d)), .func (.func g) [] []] o nx K X:=by
 refine dX.aZ mix Mw (by simp) ?_
 rw[OT]
 simp+contextual (disch:=first|omega|simp only[go_sem,false_implies]) only[go_sem,wrap64,if_pos,Nat.add_assoc,Nat.left_eq_add,Nat.add_eq_left,Nat.add_left_cancel_iff]
 refine ay (fun h1=> ?_) (fun h1=> ?_)
 ·simp+contextual (disch:=first|omega|simp only[go_sem,false_implies]) only[go_sem,wrap64,if_pos,and_self]
  have:(a.length==b.length&&iq a b)=false:=by
   have:(a.length==b.length)=false:=by
    rw[Bool.eq_false_iff];intro h
    simp at h;simp[h]at h1
   rw[this];rfl
  rw[this]at hK
  exact hK _ _ (by omega) (hg.mono (by omega)) (fun _ _=>rfl)
 ·have hl:a.length=b.length:=by simp at h1;omega
  have Jg:(a.length==b.length)=true:=by simpa using hl
  rw[Jg,Bool.true_and]at hK
  simp+contextual (disch:=first|omega|simp only[go_sem,false_implies]) only[go_sem,wrap64,if_pos,Nat.add_assoc,Nat.left_eq_add,Nat.add_eq_left,Nat.add_left_cancel_iff]
  refine aW (fun k:Nat=>⟨bw [.d (.sl (a.map Tm.d)), .d (.sl (b.map Tm.d)), .func (.func g) [] [], .ab, .ab, .ab, .ab, .ab, .ab, .ab, .ab, .ab, .ab, .ab, .ab, .d (.sl (a.map Tm.d)), .d (.i a.length), .d (.i k)],o,nx⟩)
   (fun k=>k<=a.length/\∀i,i<k->∀x y,a[i]? =some x->b[i]? =some y->iM x y=true) (fun k=>a.length - k) 0 ⟨Nat.zero_le _,fun i h=>by omega⟩ (bW.bE _ (Nat.le_refl _) (by omega) hg (fun _ _=>rfl) ?_) (fun k hk=> ?_)
  ·(repeat(first|exact aq|refine ai ?_|refine ah rfl ?_|refine ah (aQ (aP (by omega))) ?_|refine aA rfl (by simp[V.refs,V.ag]<;>first|omega|assumption) ?_))
  simp+contextual (disch:=first|omega|simp only[go_sem,false_implies]) only[go_sem,wrap64,if_pos,and_self]
  refine ay (fun h2=> ?_) (fun h2=> ?_)
  ·simp at h2
   obtain⟨x,hx⟩:=aX h2
   obtain⟨y,hy⟩:=aX (l:=b) (k:=k) (by omega)
   simp+contextual (disch:=first|omega|simp only[go_sem,false_implies]) only[go_sem,wrap64,if_pos,hx,hy,Nat.add_assoc,Nat.left_eq_add,Nat.add_eq_left,Nat.add_left_cancel_iff]
   refine aw (h x (List.mem_of_getElem? hx) y (List.mem_of_getElem? hy)) rfl ?_
   simp+contextual (disch:=first|omega|simp only[go_sem,false_implies]) only[go_sem,wrap64,if_pos,and_self]
   refine ay (fun h3=> ?_) (fun h3=> ?_)
   ·simp+contextual (disch:=first|omega|simp only[go_sem,false_implies]) only[go_sem,wrap64,if_pos,and_self]
    simp at h3
    have:iq a b=false:=by
     rw[Bool.eq_false_iff];intro h4
     have:=(iw _ _ hl).1 h4 k x y hx hy
     rw[h3]at this;cases this
    rw[this]at hK
    refine hK _ _ (by omega) ?_ (fun j hj=>by(repeat(first|rfl|rw[aa]|rw[ad _ _ _ _ (by omega)])))
    exact(by repeat(first|exact hg.mono (by omega)|exact Good.nil|refine Good.ak ?_ (by omega) rfl|refine Good.ak ?_ (by omega) (bV _ _ _ (by omega))|refine Good.ak ?_ (by omega) (by simp[ae.refs,V.ag,V.refs]<;>omega)))
   ·simp+contextual (disch:=first|omega|simp only[go_sem,false_implies]) only[go_sem,wrap64,if_pos,and_self]
    simp at h3
    refine aB (k+1) ⟨h2,fun i hi u v hu hv=> ?_⟩ (by omega) (bW.bE _ (Nat.le_refl _) (by omega) hg (fun j hj=>by(repeat(first|rfl|rw[aa]|rw[ad _ _ _ _ (by omega)]))) ?_)
    ·by_cases e:i=k
     ·subst e
      rw[hx]at hu;rw[hy]at hv
      injection hu with hu;injection hv with hv;subst hu;subst hv;exact h3
     ·exact hk.2 i (by omega) u v hu hv
    ·(repeat(first|exact aq|refine ai ?_|refine ah rfl ?_|refine ah (aQ (aP (by omega))) ?_|refine aA rfl (by simp[V.refs,V.ag]<;>first|omega|assumption) ?_))
  ·simp+contextual (disch:=first|omega|simp only[go_sem,false_implies]) only[go_sem,wrap64,if_pos,and_self]
   simp at h2
   have:iq a b=true:=(iw _ _ hl).2 fun i x y hx hy=>hk.2 i (by have:=(List.getElem?_eq_some_iff.1 hx).1;omega) x y hx hy
   rw[this]at hK
   exact hK _ _ (by omega) (hg.mono (by omega)) (fun _ _=>rfl)
theorem K5:∀a:Tm,a.fits->∀b:Tm,b.fits->bJ Tryz.prog 75 [a.d,b.d] (.ret [.bool (iM a b)]):=by
 refine Tm.eO fun a ih ha b hb=> ?_
 have QR:=(Tm.bR _).1 ha
 have Gp:=(Tm.bR _).1 hb
 refine bJ.aZ mix S7 (by simp) ?_
 rw[Yp,p8]
 simp+contextual (disch:=first|omega|simp only[go_sem,false_implies]) only[go_sem,wrap64,if_pos,and_self]
 refine As (ay (fun h1=> ?_) (fun h1=> ?_))
 ·rw[h1]
  simp+contextual (disch:=first|omega|simp only[go_sem,false_implies]) only[go_sem,wrap64,if_pos,h1]
  refine dy (Ij a.kids b.kids QR.1 Gp.1 75 (fun x hx y hy=>ih x hx (QR.2 x hx) y (Gp.2 y hy)) _ _ (by repeat(first|exact hg.mono (by omega)|exact Good.nil|refine Good.ak ?_ (by omega) rfl|refine Good.ak ?_ (by omega) (bV _ _ _ (by omega))|refine Good.ak ?_ (by omega) (by simp[ae.refs,V.ag,V.refs]<;>omega))) _ _ fun o2 n2 m1 m2 m3=> ?_)
  simp+contextual (disch:=first|omega|simp only[go_sem,false_implies]) only[go_sem,wrap64,if_pos,h1]
 ·rw[h1]
  simp+contextual (disch:=first|omega|simp only[go_sem,false_implies]) only[go_sem,wrap64,if_pos,h1]
theorem nq(n:Int):bJ Tryz.prog 65 [.i n] (.ret [(Tm.mk 1 n []).d]):=by
 refine bJ.aZ mix S4 (by simp) ?_
 rw[Yf]
 simp+contextual (disch:=first|omega|simp only[go_sem,false_implies]) only[go_sem,wrap64,if_pos,and_self]
 rw[Tm.vy]
 rfl
theorem Pz(n:Int):bJ Tryz.prog 73 [.i n] (.ret [(Tm.mk 1 n []).d]):=by
 refine bJ.aZ mix S6 (by simp) ?_
 rw[Yn]
 simp+contextual (disch:=first|omega|simp only[go_sem,false_implies]) only[go_sem,wrap64,if_pos,and_self]
 rw[Tm.vy]
 rfl
end Go.Proofs.YtealblliddhgiaaGreat
namespace Go.Proofs.YtealblliddhgiaaGreat
def lk:List (Int×Int)->Int->Option Int
 |[],_=>none
 |p::m,v=>if p.1=v then some p.2 else lk m v
abbrev YX(m:List (Int×Int)):Prop:=(m.map (·.1)).Nodup
def ints(m:List (Int×Int)):List (Int×D):=m.map fun p=>(p.1,D.i p.2)
end Go.Proofs.YtealblliddhgiaaGreat
