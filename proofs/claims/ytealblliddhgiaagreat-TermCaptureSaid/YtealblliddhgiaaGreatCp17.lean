/-
  A PART OF THE PROOF. Conditions: none.
-/
import Derived.Test.YtealblliddhgiaaGreatCp16
set_option linter.unusedSimpArgs false
set_option linter.unusedVariables false
namespace Go.Proofs.YtealblliddhgiaaGreat
def jE:List (Int×Tm)->Int->Option Tm
 |[],_=>none
 |p::l,v=>if p.1=v then some p.2 else jE l v
mutual
def rp:Tm->List Int
 | .mk op n kids=>(if op=1\/op=8 then [n]else [])++tO kids
def tO:List Tm->List Int
 |[]=>[]
 |k::l=>rp k++tO l
end
theorem te(t:Tm):rp t=(if t.op=1\/t.op=8 then [t.n]else [])++tO t.kids:=by cases t;rfl
def eh(b:List (Int×Tm))(t:Tm):List Int:=rp t++b.flatMap fun p=>p.1::rp p.2
def wR(l:List Int):Nat->Int->Int
 |0,n=>n
 |f+1,n=>if n∈l then wR l f (n+1)else n
def eJ(l:List Int):Int:=wR l (l.length+1) 0
theorem qc:∀ (n:Nat) (l:List Int),(∀k:Nat,k<n->(k:Int)∈l)->n<=l.length
 |0,l,_=>Nat.zero_le _
 |n+1,l,h=>by
  have h1:(n:Int)∈l:=h n (by omega)
  have h2:=qc n (l.erase (n:Int)) (fun k hk=>(List.mem_erase_of_ne (by omega)).2 (h k (by omega)))
  rw[List.length_erase_of_mem h1]at h2
  have:0<l.length:=List.length_pos_of_mem h1
  omega
theorem qH(l:List Int):∀ (f:Nat) (n:Nat),(∀k:Nat,k<n->(k:Int)∈l)->n+f=l.length+1->
 ∃m:Nat,wR l f n=m/\(m:Int)∉l/\(∀k:Nat,k<m->(k:Int)∈l)/\m<=l.length
 |0,n,h,e=>by have:=qc n l h;omega
 |f+1,n,h,e=>by
  simp only[wR]
  split
  ·rename_i hm
   have:=qH l f (n+1) (fun k hk=>by
    by_cases e:k=n
    ·subst e;exact hm
    ·exact h k (by omega)) (by omega)
   simpa using this
  ·rename_i hm
   exact⟨n,rfl,hm,h,qc n l h⟩
theorem jT(l:List Int):∃m:Nat,eJ l=m/\(m:Int)∉l/\(∀k:Nat,k<m->(k:Int)∈l)/\m<=l.length:=qH l _ 0 (by omega) (by omega)
theorem Ed{l:List Int}{m:Nat}(h1:(m:Int)∉l)(h2:∀k:Nat,k<m->(k:Int)∈l):eJ l=m:=by
 obtain⟨n,e,n1,n2,_⟩:=jT l
 rw[e]
 rcases Nat.lt_trichotomy n m with h|h|h
 ·exact absurd (h2 n h) n1
 ·rw[h]
 ·exact absurd (n2 m h) h1
theorem wS{l l':List Int}(h:∀v,v∈l↔v∈l'):eJ l=eJ l':=by
 obtain⟨n,e,n1,n2,_⟩:=jT l'
 rw[e]
 exact Ed (fun h1=>n1 ((h _).1 h1)) (fun k hk=>(h _).2 (n2 k hk))
def kP(inner:List (Int×Tm))(body:Tm)(n:Int):Bool:=inner.any fun p=>hO p.1 body&&hO n p.2
def cu(b:List (Int×Tm))(n:Int):List (Int×Tm):=b.filter fun p=>p.1!=n
def bA:Nat->List (Int×Tm)->Tm->Tm
 |0,_,t=>t
 |f+1,b,t=>if t.op=1 then(match jE b t.n with|some x=>x|none=>t)
  else if t.op=8 then(match t.kids with
   |[a,body]=>if kP (cu b t.n) body t.n=true then .mk 8 (eJ (eh b t)) [bA f b a,bA f (cu b t.n) (bA f [(t.n, .mk 1 (eJ (eh b t)) [])] body)]
    else .mk 8 t.n [bA f b a,bA f (cu b t.n) body]
   |_=>t)
  else .mk t.op t.n (t.kids.map (bA f b))
mutual
def Tm.wf:Tm->Prop
 | .mk op _ kids=>(op=1->kids=[])/\(op=8->kids.length=2)/\Tm.Kc kids
def Tm.Kc:List Tm->Prop
 |[]=>True
 |k::l=>k.wf/\Tm.Kc l
end
theorem Tm.Cj:∀l:List Tm,Tm.Kc l↔∀k∈l,k.wf
 |[]=>by simp[Tm.Kc]
 |k::l=>by simp[Tm.Kc,Tm.Cj l]
theorem Tm.gC (t:Tm):t.wf↔(t.op=1->t.kids=[])/\(t.op=8->t.kids.length=2)/\∀k∈t.kids,k.wf:=by cases t;simp[Tm.wf,Tm.Cj,Tm.op,Tm.kids]
theorem lI{t:Tm}(h:t.kids.length=2):∃a b,t.kids=[a,b]:=by
 match hk:t.kids with
 |[a,b]=>exact⟨a,b,rfl⟩
 |[]=>rw[hk]at h;cases h
 |[_]=>rw[hk]at h;cases h
 |_::_::_::_=>rw[hk]at h;simp at h
theorem pq{b:List (Int×Tm)}{v:Int}:jE b v=none↔v∉b.map (·.1):=by
 induction b with
 |nil=>simp[jE]
 |cons p l ih=>
  simp only[jE,List.map_cons,List.mem_cons,not_or]
  split
  ·rename_i h;simp[h]
  ·rename_i h;rw[ih];exact⟨fun h2=>⟨fun e=>h e.symm,h2⟩,fun h2=>h2.2⟩
theorem jU{b:List (Int×Tm)}{v:Int}{x:Tm}(h:jE b v=some x):(v,x)∈b:=by
 induction b with
 |nil=>cases h
 |cons p l ih=>
  simp only[jE]at h
  split at h
  ·rename_i e;injection h with h;subst h;subst e;exact List.mem_cons_self ..
  ·exact List.mem_cons_of_mem _ (ih h)
theorem zi{b:List (Int×Tm)}(hb:(b.map (·.1)).Nodup){v:Int}{x:Tm}:jE b v=some x↔(v,x)∈b:=by
 refine⟨jU,fun h=> ?_⟩
 induction b with
 |nil=>cases h
 |cons p l ih=>
  rw[List.map_cons,List.nodup_cons]at hb
  simp only[jE]
  rcases List.mem_cons.1 h with e|h
  ·subst e;simp
  ·rw[if_neg (fun e=>hb.1 (by rw[e];exact List.mem_map.2 ⟨_,h,rfl⟩)),ih hb.2 h]
theorem Gx{b b':List (Int×Tm)}(hb:(b.map (·.1)).Nodup)(h:b.Perm b')(v:Int):jE b v=jE b' v:=by
 have Hf:(b'.map (·.1)).Nodup:=(h.map _).nodup_iff.1 hb
 cases h2:jE b' v with
 |none=>rw[pq]at h2|-;exact fun h3=>h2 ((h.map _).mem_iff.1 h3)
 |some x=>rw[zi Hf]at h2;rw[zi hb];exact h.mem_iff.2 h2
theorem lJ{b:List (Int×Tm)}(n:Int)(hb:(b.map (·.1)).Nodup):((cu b n).map (·.1)).Nodup:=hb.sublist (List.filter_sublist.map _)
theorem zj{α:Type}{l l':List α}(f:α->Bool)(h:l.Perm l'):l.any f=l'.any f:=by
 rw[Bool.eq_iff_iff,List.any_eq_true,List.any_eq_true]
 exact⟨fun⟨x,hx,e⟩=>⟨x,h.mem_iff.1 hx,e⟩,fun⟨x,hx,e⟩=>⟨x,h.mem_iff.2 hx,e⟩⟩
theorem na{b:List (Int×Tm)}{t:Tm}{v:Int}:v∈eh b t↔v∈rp t\/∃p∈b,v=p.1\/v∈rp p.2:=by
 simp only[eh,List.mem_append,List.mem_flatMap,List.mem_cons]
theorem Ba{b b':List (Int×Tm)}(h:b.Perm b')(t:Tm):eJ (eh b t)=eJ (eh b' t):=by
 refine wS fun v=> ?_
 rw[na,na]
 exact or_congr Iff.rfl ⟨fun⟨p,hp,e⟩=>⟨p,h.mem_iff.1 hp,e⟩,fun⟨p,hp,e⟩=>⟨p,h.mem_iff.2 hp,e⟩⟩
theorem kQ:∀ (f:Nat) (t:Tm) {b b':List (Int×Tm)},(b.map (·.1)).Nodup->b.Perm b'->bA f b t=bA f b' t
 |0,_,_,_,_,_=>rfl
 |f+1,t,b,b',hb,h=>by
  have hi:(cu b t.n).Perm (cu b' t.n):=h.filter _
  have hc:∀body,kP (cu b t.n) body t.n=kP (cu b' t.n) body t.n:=fun body=>zj _ hi
  simp only[bA]
  rw[Gx hb h]
  split
  ·rfl
  ·split
   ·split
    ·rename_i a body _
     rw[hc,Ba h,kQ f a hb h]
     rw[kQ f _ (lJ _ hb) hi]
     rw[kQ f body (lJ _ hb) hi]
    ·rfl
   ·rw[List.map_congr_left fun k _=>kQ f k hb h]
theorem iT:∀ (f:Nat) (t:Tm) (b:List (Int×Tm)),t.wf->t.b7<=f->(∀p∈b,p.2.op=1/\p.2.kids=[])->(bA f b t).b7=t.b7/\(bA f b t).wf/\(bA f b t).sz=t.sz
 |0,t,_,_,h,_=>by cases t;simp only[Tm.b7]at h;omega
 |f+1,t,b,hw,hf,hb=>by
  have gX:=(Tm.gC t).1 hw
  have leaf:∀x:Tm,x.op=1->x.kids=[]->x.b7=1/\x.wf/\x.sz=1:=by
   intro x h1 h2
   obtain⟨op,n,kids⟩:=x
   simp only[Tm.op,Tm.kids]at h1 h2
   subst h1;subst h2
   refine⟨by simp[Tm.b7,Tm.dO],by simp[Tm.wf,Tm.Kc],by rw[Tm.fi];rfl⟩
  have RL:∀p∈cu b t.n,p.2.op=1/\p.2.kids=[]:=fun p hp=>hb p (List.mem_filter.1 hp).1
  have one:∀m:Int,∀p∈[(t.n,Tm.mk 1 m [])],p.2.op=1/\p.2.kids=[]:=by intro m p hp;simp at hp;subst hp;exact⟨rfl,rfl⟩
  simp only[bA]
  split
  ·rename_i h1
   have l1:=leaf t h1 (gX.1 h1)
   split
   ·rename_i x hx
    have:=hb _ (jU hx)
    have l2:=leaf x this.1 this.2
    exact⟨l2.1.trans l1.1.symm,l2.2.1,l2.2.2.trans l1.2.2.symm⟩
   ·exact⟨rfl,hw,rfl⟩
  ·split
   ·rename_i h8
    obtain⟨a,body,hk⟩:=lI (gX.2.1 h8)
    have ha:a∈t.kids:=by rw[hk];simp
    have qI:body∈t.kids:=by rw[hk];simp
    have g1:=Tm.dg ha
    have g2:=Tm.dg qI
    have e1:=iT f a b (gX.2.2 a ha) (by omega) hb
    have e2:=iT f body _ (gX.2.2 body qI) (by omega) RL
    have e3:=fun m=>iT f body _ (gX.2.2 body qI) (by omega) (one m)
    have e4:=fun m=>iT f (bA f [(t.n, .mk 1 m [])] body) _ (e3 m).2.1 (by rw[(e3 m).1];omega) RL
    have fin:∀ (n:Int) (x y:Tm),x.b7=a.b7->x.wf->x.sz=a.sz->y.b7=body.b7->y.wf->y.sz=body.sz->(Tm.mk 8 n [x,y]).b7=t.b7/\(Tm.mk 8 n [x,y]).wf/\(Tm.mk 8 n [x,y]).sz=t.sz:=by
     intro n x y q1 q2 q3 q4 q5 q6
     rw[Tm.dq,Tm.dq t,Tm.fi,Tm.fi t,hk]
     simp only[Tm.kids,kN,cB,q1,q3,q4,q6]
     exact⟨trivial,by simp[Tm.wf,Tm.Kc,q2,q5],trivial⟩
    rw[hk]
    simp only
    split
    ·exact fin _ _ _ e1.1 e1.2.1 e1.2.2 ((e4 _).1.trans (e3 _).1) (e4 _).2.1 ((e4 _).2.2.trans (e3 _).2.2)
    ·exact fin _ _ _ e1.1 e1.2.1 e1.2.2 e2.1 e2.2.1 e2.2.2
   ·rename_i h1 h8
    have ih:∀k∈t.kids,(bA f b k).b7=k.b7/\(bA f b k).wf/\(bA f b k).sz=k.sz:=fun k hk=>by
     have:=Tm.dg hk
     exact iT f k b (gX.2.2 k hk) (by omega) hb
    have hl:∀l:List Tm,(∀k∈l,k∈t.kids)->Tm.dO (l.map (bA f b))=Tm.dO l/\jD (l.map (bA f b))=jD l:=by
     intro l
     induction l with
     |nil=>intro _;exact⟨rfl,rfl⟩
     |cons k l tL=>
      intro h
      have i1:=ih k (h k (by simp))
      have i2:=tL fun x hx=>h x (by simp[hx])
      simp only[List.map_cons,kN,cB,i1.1,i1.2.2,i2.1,i2.2]
      exact⟨trivial,trivial⟩
    have:=hl t.kids fun _ h=>h
    rw[Tm.dq,Tm.dq t,Tm.fi,Tm.fi t,Tm.gC]
    refine⟨by show 1+Tm.dO (t.kids.map (bA f b))=_;rw[this.1],⟨fun h=>absurd h h1,fun h=>absurd h h8,fun k hk=> ?_⟩,by show 1+jD (t.kids.map (bA f b))=_;rw[this.2]⟩
    obtain⟨x,hx,rfl⟩:=List.mem_map.1 hk
    exact(ih x hx).2.1
theorem dQ:∀ (f f':Nat) (t:Tm) (b:List (Int×Tm)),t.wf->t.b7<=f->t.b7<=f'->bA f b t=bA f' b t
 |0,_,t,_,_,h,_=>by cases t;simp only[Tm.b7]at h;omega
 |_,0,t,_,_,_,h=>by cases t;simp only[Tm.b7]at h;omega
 |f+1,f'+1,t,b,hw,h1,h2=>by
  have gX:=(Tm.gC t).1 hw
  simp only[bA]
  split
  ·rfl
  ·split
   ·rename_i h8
    obtain⟨a,body,hk⟩:=lI (gX.2.1 h8)
    have ha:a∈t.kids:=by rw[hk];simp
    have qI:body∈t.kids:=by rw[hk];simp
    have g1:=Tm.dg ha
    have g2:=Tm.dg qI
    rw[hk]
    simp only
    have e0:=fun m=>iT f' body [(t.n, .mk 1 m [])] (gX.2.2 body qI) (by omega) (by intro p hp;simp at hp;subst hp;exact⟨rfl,rfl⟩)
    rw[dQ f f' a b (gX.2.2 a ha) (by omega) (by omega),dQ f f' body (cu b t.n) (gX.2.2 body qI) (by omega) (by omega),
     dQ f f' body [(t.n, .mk 1 (eJ (eh b t)) [])] (gX.2.2 body qI) (by omega) (by omega),
     dQ f f' (bA f' [(t.n, .mk 1 (eJ (eh b t)) [])] body) (cu b t.n) (e0 _).2.1 (by rw[(e0 _).1];omega) (by rw[(e0 _).1];omega)]
   ·rw[List.map_congr_left fun k hk=>dQ f f' k b (gX.2.2 k hk) (by have:=Tm.dg hk;omega) (by have:=Tm.dg hk;omega)]
theorem mN:∀ (f:Nat) (t:Tm),t.wf->bA f [] t=t
 |0,_,_=>rfl
 |f+1,t,hw=>by
  have gX:=(Tm.gC t).1 hw
  simp only[bA]
  split
  ·rfl
  ·split
   ·rename_i h8
    obtain⟨a,body,hk⟩:=lI (gX.2.1 h8)
    rw[hk]
    simp only[cu,List.filter_nil,kP,List.any_nil,Bool.false_eq_true,if_false]
    rw[mN f a (gX.2.2 a (by rw[hk];simp)),mN f body (gX.2.2 body (by rw[hk];simp)), <- hk, <- h8]
    exact Tm.eta t
   ·rw[List.map_congr_left fun k hk=>mN f k (gX.2.2 k hk),List.map_id']
    exact Tm.eta t
end Go.Proofs.YtealblliddhgiaaGreat
namespace Go.Proofs.YtealblliddhgiaaGreat
end Go.Proofs.YtealblliddhgiaaGreat
namespace Go.Proofs.YtealblliddhgiaaGreat
def Bb(t:Tm):Bool:=t.op==1||t.op==8
def jV(l:List Int)(x:Tm×Int):List Int:=if Bb x.1=true then s5 l x.1.n else l
theorem tf{l:List Tm}{v:Int}:v∈tO l↔∃k∈l,v∈rp k:=by
 induction l with
 |nil=>simp[tO]
 |cons k l ih=>simp[tO,ih]
theorem Mx:∀ (t:Tm) (d v:Int),v∈rp t↔∃x∈pre t d,Bb x.1=true/\x.1.n=v:=by
 refine Tm.jC fun t ih d v=> ?_
 rw[te,lA,List.mem_append,tf]
 constructor
 ·rintro(h|⟨k,hk,h⟩)
  ·split at h
   ·rename_i h1
    simp at h
    exact⟨_,List.mem_cons_self ..,by simpa[Bb]using h1,h.symm⟩
   ·cases h
  ·obtain⟨x,hx,e⟩:=(ih k hk (d+1) v).1 h
   exact⟨x,List.mem_cons_of_mem _ (List.mem_flatMap.2 ⟨k,hk,hx⟩),e⟩
 ·rintro⟨x,hx,h1,h2⟩
  rcases List.mem_cons.1 hx with rfl|hx
  ·left
   rw[if_pos (by simpa[Bb]using h1)]
   simp[h2]
  ·obtain⟨k,hk,hx⟩:=List.mem_flatMap.1 hx
   exact .inr ⟨k,hk,(ih k hk (d+1) v).2 ⟨x,hx,h1,h2⟩⟩
theorem Ck:∀ (L:List (Tm×Int)) (l:List Int),l.Nodup->(aO (uX (fun _=>none) jV) l L).1.Nodup/\∀v,v∈(aO (uX (fun _=>none) jV) l L).1↔v∈l\/∃x∈L,Bb x.1=true/\x.1.n=v
 |[],l,h=>by simp[aO,h]
 |x::L,l,h=>by
  have h1:(jV l x).Nodup:=by
   unfold jV;split
   ·exact lF _ h
   ·exact h
  obtain⟨g1,g2⟩:=Ck L (jV l x) h1
  have e:aO (uX (fun _=>none) jV) l (x::L)=aO (uX (fun _=>none) jV) (jV l x) L:=by simp[aO,uX]
  rw[e]
  refine⟨g1,fun v=> ?_⟩
  rw[g2]
  unfold jV
  split
  ·rename_i hx
   rw[pj]
   constructor
   ·rintro((h|rfl)|⟨y,hy,e⟩)
    ·exact .inl h
    ·exact .inr ⟨x,List.mem_cons_self ..,hx,rfl⟩
    ·exact .inr ⟨y,List.mem_cons_of_mem _ hy,e⟩
   ·rintro(h|⟨y,hy,e1,e2⟩)
    ·exact .inl (.inl h)
    ·rcases List.mem_cons.1 hy with rfl|hy
     ·exact .inl (.inr e2.symm)
     ·exact .inr ⟨y,hy,e1,e2⟩
  ·rename_i hx
   constructor
   ·rintro(h|⟨y,hy,e⟩)
    ·exact .inl h
    ·exact .inr ⟨y,List.mem_cons_of_mem _ hy,e⟩
   ·rintro(h|⟨y,hy,e1,e2⟩)
    ·exact .inl h
    ·rcases List.mem_cons.1 hy with rfl|hy
     ·exact absurd e1 hx
     ·exact .inr ⟨y,hy,e1,e2⟩
theorem tg(t:Tm)(ht:t.fits)(hd:t.b7<=900000)(o:Nat->ae)(nx id:Nat)(l:List Int)(hg:Good o nx)(ho:o id=lU l)(hl:l.Nodup)(K X:V->(Nat->ae)->Nat->Prop)
 (hK:RI id (fun l'=>l'.Nodup/\∀n,n∈l'↔n∈l\/n∈rp t) o nx K):eN Tryz.prog 117 [.mp id, .d t.d] o nx K X:=by
 have aj:id<nx:=hg.lt (by rw[ho];exact ae.noConfusion)
 refine eN.bt mix JZ (by simp) ?_
 rw[L4]
 have y1:id≠nx:=by omega
 have y2:∀k,id≠nx+k:=fun k=>by omega
 simp+contextual (disch:=first|omega|simp only[go_sem,false_implies]) only[go_sem,wrap64,if_pos,Nat.add_assoc,Nat.left_eq_add,Nat.add_eq_left,Nat.add_left_cancel_iff]
 refine ff (yS t _ _ _ _ ?_)
 simp+contextual (disch:=first|omega|simp only[go_sem,false_implies]) only[go_sem,wrap64,if_pos,Nat.add_assoc,Nat.left_eq_add,Nat.add_eq_left,Nat.add_left_cancel_iff]
 have hG:∀j,j<nx+7->aq (aq (aq o nx (.row [.mp id])) (nx+1) (.row t.row)) (nx+3) (.row t.row) j=aq (aq (aq (aq o nx (.row [.mp id])) (nx+1) (.row t.row)) (nx+3) (.row t.row)) id (lU l) j:=by
  intro j _
  by_cases e:j=id
  ·subst e;(repeat(first|rfl|rw[aa]|rw[ad _ _ _ _ (by omega)]));exact ho
  ·rw[ad _ _ _ _ e]
 refine qE (σ:=List Int) t ht hd [.ab, .ab, .ptr nx 0] ?_ (by decide) rfl (by repeat(first|exact hg.mono (by omega)|exact Good.nil|refine Good.aq ?_ (by omega) rfl|refine Good.aq ?_ (by omega) (dR _ _ _ (by omega))|refine Good.aq ?_ (by omega) (by simp[ae.refs,V.ag,V.refs]<;>omega))) (by simp[V.ag,V.refs]) (aa _ _ _)
  (fun s=>aq (aq (aq (aq o nx (.row [.mp id])) (nx+1) (.row t.row)) (nx+3) (.row t.row)) id (lU s)) (fun _=>none) jV (fun _=>True) l trivial rfl hG (fun _ _ _ _ _ _=>trivial) ?_ ?_
 ·(repeat(first|exact uW|refine sR ?_|refine B4 rfl ?_))
 ·intro L hL dR x hx s' _ _ o3 n3 hI hn SJ K' X' gK
  simp only[sr]
  have hg:=hI.cY
  have hle:=hI.le
  have q1:o3 nx= .row [.mp id]:=by rw[hI.eq nx (by omega)];(repeat(first|rfl|rw[aa]|rw[ad _ _ _ _ (by omega)]))
  have q2:o3 id=lU s':=by rw[hI.eq id (by omega)];(repeat(first|rfl|rw[aa]|rw[ad _ _ _ _ (by omega)]))
  have z1:nx≠n3:=by omega
  have z2:∀k,nx≠n3+k:=fun k=>by omega
  have z3:id≠n3:=by omega
  have z4:∀k,id≠n3+k:=fun k=>by omega
  simp+contextual (disch:=first|omega|simp only[go_sem,false_implies]) only[go_sem,wrap64,if_pos,and_self]
  refine yJ hL (pd:=none) ?_ ?_
  ·(repeat(first|rfl|rw[aa]|rw[ad _ _ _ _ (by omega)]))
   exact SJ
  simp+contextual (disch:=first|omega|simp only[go_sem,false_implies]) only[go_sem,wrap64,if_pos,q1,q2]
  have same:∀ (o':Nat->ae) (n':Nat) (l:List Int),Good o' n'->n3<=n'->(∀j,j<nx+7->o' j=aq o3 id (lU l) j)->gA (nx+7) (aq (aq (aq (aq o nx (.row [.mp id])) (nx+1) (.row t.row)) (nx+3) (.row t.row)) id (lU l)) o' n':=fun o' n' l k1 k2 k3=>⟨k1,by omega,fun j hj=>by
   rw[k3 j hj]
   by_cases e:j=id
   ·subst e;rw[aa,aa]
   ·rw[ad _ _ _ _ e,ad _ _ _ _ e,hI.eq j hj,ad _ _ _ _ e]⟩
  refine ay (fun h3=> ?_) (fun h3=> ?_)
  ·have hp:jV s' x=s5 s' x.1.n:=by unfold jV Bb;rw[if_pos h3]
   rw[hp]at gK
   simp+contextual (disch:=first|omega|simp only[go_sem,false_implies]) only[go_sem,wrap64,if_pos,q1,q2,z1,z2,z3,z4,Nat.add_assoc,Nat.left_eq_add,Nat.add_eq_left,Nat.add_left_cancel_iff]
   refine gK _ _ _ .busy none (by omega) (same _ _ _ (by repeat(first|exact hg.mono (by omega)|exact Good.nil|refine Good.aq ?_ (by omega) rfl|refine Good.aq ?_ (by omega) (dR _ _ _ (by omega))|refine Good.aq ?_ (by omega) (by simp[ae.refs,V.ag,V.refs]<;>omega))) (by omega) fun j hj=> ?_) (by(repeat(first|rfl|rw[aa]|rw[ad _ _ _ _ (by omega)]))) (fun j h3 h4=>by(repeat(first|rfl|rw[aa]|rw[ad _ _ _ _ (by omega)])))
   by_cases e:j=id
   ·subst e;(repeat(first|rfl|rw[aa]|rw[ad _ _ _ _ (by omega)]))
   ·(repeat(first|rfl|rw[aa]|rw[ad _ _ _ _ (by omega)]))
  ·have hp:jV s' x=s':=by unfold jV Bb;rw[if_neg (by simpa using h3)]
   rw[hp]at gK
   simp+contextual (disch:=first|omega|simp only[go_sem,false_implies]) only[go_sem,wrap64,if_pos,and_self]
   refine gK _ _ _ .busy none (by omega) (same _ _ _ (by repeat(first|exact hg.mono (by omega)|exact Good.nil|refine Good.aq ?_ (by omega) rfl|refine Good.aq ?_ (by omega) (dR _ _ _ (by omega))|refine Good.aq ?_ (by omega) (by simp[ae.refs,V.ag,V.refs]<;>omega))) (by omega) fun j hj=> ?_) (by(repeat(first|rfl|rw[aa]|rw[ad _ _ _ _ (by omega)]))) (fun j h3 h4=>by(repeat(first|rfl|rw[aa]|rw[ad _ _ _ _ (by omega)])))
   by_cases e:j=id
   ·subst e;(repeat(first|rfl|rw[aa]|rw[ad _ _ _ _ (by omega)]))
    exact q2
   ·(repeat(first|rfl|rw[aa]|rw[ad _ _ _ _ (by omega)]))
 ·intro o' n' hI
  have hle:=hI.le
  simp only[vN]
  simp+contextual (disch:=first|omega|simp only[go_sem,false_implies]) only[go_sem,wrap64,if_pos,and_self]
  obtain⟨g1,g2⟩:=Ck (pre t 1) l hl
  refine hK _ _ _ (by omega) hI.cY (fun j h1 h2=> ?_) (by rw[hI.eq id (by omega),aa]) ⟨g1,fun v=> ?_⟩
  ·rw[hI.eq j (by omega)];(repeat(first|rfl|rw[aa]|rw[ad _ _ _ _ (by omega)]))
  ·rw[g2 v,Mx t 1 v]
end Go.Proofs.YtealblliddhgiaaGreat
namespace Go.Proofs.YtealblliddhgiaaGreat
end Go.Proofs.YtealblliddhgiaaGreat
namespace Go.Proofs.YtealblliddhgiaaGreat
theorem Cl{v op n:Int}(h:op≠8):∀ (l:List Tm) (i:Nat),p8 v op n l i=l.any (hO v)
 |[],i=>rfl
 |k::l,i=>by
  have:(op==8)=false:=by simpa using h
  simp[p8,Cl h l,this]
theorem Gy{s:bP}{t:Tm}(h:bC s t=true)(h1:t.op=1):t.kids=[]:=by
 simp[bC,h1]at h
 exact h.1
end Go.Proofs.YtealblliddhgiaaGreat
namespace Go.Proofs.YtealblliddhgiaaGreat
theorem wT{t a body:Tm}{v:Int}(h8:t.op=8)(hk:t.kids=[a,body]):hO v t=(hO v a||(hO v body&& !(t.n==v))):=by
 rw[lG,hk,h8]
 simp[p8]
theorem Gz{n v:Int}{a body:Tm}:hO v (.mk 8 n [a,body])=(hO v a||(hO v body&& !(n==v))):=wT rfl rfl
theorem Bc{v n:Int}:hO v (.mk 1 n [])=(n==v):=rfl
theorem wU{t:Tm}{v:Int}(h1:t.op≠1)(h8:t.op≠8):hO v t=t.kids.any (hO v):=by rw[lG,if_neg h1,Cl h8]
theorem Cm(b:List (Int×Tm))(n v:Int):jE (cu b n) v=if v=n then none else jE b v:=by
 induction b with
 |nil=>simp[cu,jE]
 |cons p l ih=>
  unfold cu at ih|-
  rw[List.filter_cons]
  by_cases h:p.1=n
  ·simp only[h,bne_self_eq_false,Bool.false_eq_true,if_false,ih,jE]
   by_cases hv:v=n
   ·simp[hv]
   ·simp[hv];intro e;exact absurd e.symm hv
  ·have h':(p.1!=n)=true:=by simpa using h
   simp only[h',if_true,jE,ih]
   by_cases hv:v=n
   ·subst hv;simp[h]
   ·simp[hv]
theorem GA:∀t:Tm,t.wf->∀v,hO v t=true->v∈rp t:=by
 refine Tm.jC fun t ih hw v h=> ?_
 have gX:=(Tm.gC t).1 hw
 rw[te]
 have NG:∀k∈t.kids,hO v k=true->v∈tO t.kids:=fun k hk h=>by
  exact tf.2 ⟨k,hk,ih k hk (gX.2.2 k hk) v h⟩
 by_cases h1:t.op=1
 ·rw[lG,if_pos h1]at h
  have:t.n=v:=by simpa using h
  simp[h1,this]
 ·by_cases h8:t.op=8
  ·obtain⟨a,body,hk⟩:=lI (gX.2.1 h8)
   rw[wT h8 hk,Bool.or_eq_true,Bool.and_eq_true]at h
   refine List.mem_append.2 (Or.inr ?_)
   rcases h with h|h
   ·exact NG a (by rw[hk];simp) h
   ·exact NG body (by rw[hk];simp) h.1
  ·rw[wU h1 h8,List.any_eq_true]at h
   obtain⟨k,hk,h⟩:=h
   exact List.mem_append.2 (Or.inr (NG k hk h))
theorem GC{b:List (Int×Tm)}{t:Tm}:eJ (eh b t)∉rp t/\∀p∈b,eJ (eh b t)≠p.1/\eJ (eh b t)∉rp p.2:=by
 obtain⟨m,e,h,_,_⟩:=jT (eh b t)
 rw[e]
 rw[na]at h
 refine⟨fun h1=>h (Or.inl h1),fun p hp=>⟨fun e=>h (Or.inr ⟨p,hp,Or.inl e⟩),fun h1=>h (Or.inr ⟨p,hp,Or.inr h1⟩)⟩⟩
theorem Cn{t k:Tm}(hk:k∈t.kids){v:Int}(h:v∈rp k):v∈rp t:=by
 rw[te]
 exact List.mem_append.2 (Or.inr (tf.2 ⟨k,hk,h⟩))
theorem VK{t:Tm}(h:t.op=1\/t.op=8):t.n∈rp t:=by rw[te,if_pos h];simp
theorem Co{b:List (Int×Tm)}{n:Int}{body:Tm}:kP (cu b n) body n=true↔∃p∈b,p.1≠n/\hO p.1 body=true/\hO n p.2=true:=by
 simp only[kP,cu,List.any_eq_true,List.mem_filter,Bool.and_eq_true,bne_iff_ne,ne_eq,and_assoc]
theorem qd:∀ (f:Nat) (t:Tm) (b:List (Int×Tm)),t.wf->t.b7<=f->(∀p∈b,p.2.wf)->∀v,hO v (bA f b t)=true↔(hO v t=true/\jE b v=none)\/∃u x,hO u t=true/\jE b u=some x/\hO v x=true
 |0,t,_,_,h,_,_=>by rw[Tm.dq]at h;omega
 |f+1,t,b,hw,hf,hb,v=>by
  have gX:=(Tm.gC t).1 hw
  simp only[bA]
  split
  ·rename_i h1
   have hv:∀u,hO u t=true↔t.n=u:=fun u=>by rw[lG,if_pos h1];simp
   cases hl:jE b t.n with
   |none=>
    simp only[hv]
    constructor
    ·rintro rfl;exact Or.inl ⟨rfl,hl⟩
    ·rintro(⟨rfl,_⟩|⟨u,x,rfl,h,_⟩)
     ·rfl
     ·rw[hl]at h;cases h
   |some x=>
    simp only[hv]
    constructor
    ·intro h;exact Or.inr ⟨_,x,rfl,hl,h⟩
    ·rintro(⟨rfl,h⟩|⟨u,y,rfl,h,h3⟩)
     ·rw[hl]at h;cases h
     ·rw[hl]at h;injection h with h;rw[h];exact h3
  ·rename_i h1
   split
   ·rename_i h8
    obtain⟨a,body,hk⟩:=lI (gX.2.1 h8)
    have ha:a∈t.kids:=by rw[hk];simp
    have qI:body∈t.kids:=by rw[hk];simp
    have g1:=Tm.dg ha
    have g2:=Tm.dg qI
    have mf:∀p∈cu b t.n,p.2.wf:=fun p hp=>hb p (List.mem_filter.1 hp).1
    have ea:=qd f a b (gX.2.2 a ha) (by omega) hb v
    have SR:=gX.2.2 body qI
    rw[hk]
    simp only
    have NP:∀u,hO u t=true↔hO u a=true\/(hO u body=true/\t.n≠u):=fun u=>by rw[wT h8 hk,Bool.or_eq_true,Bool.and_eq_true];simp
    split
    ·rename_i hc
     obtain⟨SS,VL⟩:= @GC b t
     generalize eJ (eh b t)=m at SS VL
     have e0:=iT f body [(t.n, .mk 1 m [])] SR (by omega) (by intro p hp;simp at hp;subst hp;exact⟨rfl,rfl⟩)
     have Zu:(Tm.mk 1 m []).wf:=by rw[Tm.gC];exact⟨fun _=>rfl,fun h=>absurd (show(1:Int)=8 from h) (by decide),fun k hk=>by cases hk⟩
     have Bd:∀u,hO u (bA f [(t.n, .mk 1 m [])] body)=true↔(hO u body=true/\t.n≠u)\/(hO t.n body=true/\u=m):=fun u=>by
      rw[qd f body [(t.n, .mk 1 m [])] SR (by omega) (by intro p hp;simp at hp;subst hp;exact Zu) u]
      simp only[jE]
      constructor
      ·rintro(⟨h,h2⟩|⟨w,x,h,h2,h3⟩)
       ·left;refine⟨h,fun e=> ?_⟩;rw[if_pos e]at h2;cases h2
       ·right
        split at h2
        ·rename_i e;injection h2 with h2;subst h2;rw[Bc,beq_iff_eq]at h3;rw[e];exact⟨h,h3.symm⟩
        ·cases h2
      ·rintro(⟨h,h2⟩|⟨h,rfl⟩)
       ·left;exact⟨h,by rw[if_neg h2]⟩
       ·right;exact⟨t.n,_,h,by rw[if_pos rfl],by rw[Bc];simp⟩
     have eb:=qd f (bA f [(t.n, .mk 1 m [])] body) (cu b t.n) e0.2.1 (by rw[e0.1];omega) mf v
     have VM:jE b m=none:=by
      rw[pq];intro h;obtain⟨p,hp,e⟩:=List.mem_map.1 h;exact(VL p hp).1 e.symm
     have RM:hO m body=true->False:=fun h=>SS (Cn qI (GA body SR m h))
     have ma:hO m a=true->False:=fun h=>SS (Cn ha (GA a (gX.2.2 a ha) m h))
     have mn:m≠t.n:=fun e=>SS (e ▸ VK (Or.inr h8))
     have mx:∀u x,jE b u=some x->hO m x=true->False:=fun u x h h2=>(VL _ (jU h)).2 (GA x (hb _ (jU h)) m h2)
     rw[Gz,Bool.or_eq_true,Bool.and_eq_true,ea,eb]
     simp only[Bd,NP,Cm]
     constructor
     ·rintro((⟨h,h2⟩|⟨u,x,h,h2,h3⟩)|⟨⟨(⟨h,h2⟩|⟨h,rfl⟩),h3⟩|⟨u,x,(⟨h,h2⟩|⟨h,rfl⟩),h3,h4⟩,h5⟩)
      ·exact Or.inl ⟨Or.inl h,h2⟩
      ·exact Or.inr ⟨u,x,Or.inl h,h2,h3⟩
      ·rw[if_neg h2.symm]at h3;exact Or.inl ⟨Or.inr ⟨h,h2⟩,h3⟩
      ·simp at h5
      ·rw[if_neg h2.symm]at h3;exact Or.inr ⟨u,x,Or.inr ⟨h,h2⟩,h3,h4⟩
      ·rw[if_neg mn,VM]at h3;cases h3
     ·rintro(⟨h|⟨h,h2⟩,h3⟩|⟨u,x,h|⟨h,h2⟩,h3,h4⟩)
      ·exact Or.inl (Or.inl ⟨h,h3⟩)
      ·refine Or.inr ⟨Or.inl ⟨Or.inl ⟨h,h2⟩,by rw[if_neg h2.symm];exact h3⟩, ?_⟩
       have:m≠v:=fun e=>RM (e ▸ h)
       simpa using this
      ·exact Or.inl (Or.inr ⟨u,x,h,h3,h4⟩)
      ·refine Or.inr ⟨Or.inr ⟨u,x,Or.inl ⟨h,h2⟩,by rw[if_neg h2.symm];exact h3,h4⟩, ?_⟩
       have:m≠v:=fun e=>mx u x h3 (e ▸ h4)
       simpa using this
    ·rename_i hc
     have eb:=qd f body (cu b t.n) SR (by omega) mf v
     have nc:∀u x,jE b u=some x->u≠t.n->hO u body=true->hO t.n x=true->False:=fun u x h h2 h3 h4=>hc (Co.2 ⟨_,jU h,h2,h3,h4⟩)
     rw[Gz,Bool.or_eq_true,Bool.and_eq_true,ea,eb]
     simp only[NP,Cm]
     constructor
     ·rintro((⟨h,h2⟩|⟨u,x,h,h2,h3⟩)|⟨⟨h,h2⟩|⟨u,x,h,h3,h4⟩,h5⟩)
      ·exact Or.inl ⟨Or.inl h,h2⟩
      ·exact Or.inr ⟨u,x,Or.inl h,h2,h3⟩
      ·have h5:t.n≠v:=by simpa using h5
       rw[if_neg h5.symm]at h2;exact Or.inl ⟨Or.inr ⟨h,h5⟩,h2⟩
      ·split at h3
       ·cases h3
       ·rename_i h6;exact Or.inr ⟨u,x,Or.inr ⟨h,fun e=>h6 e.symm⟩,h3,h4⟩
     ·rintro(⟨h|⟨h,h2⟩,h3⟩|⟨u,x,h|⟨h,h2⟩,h3,h4⟩)
      ·exact Or.inl (Or.inl ⟨h,h3⟩)
      ·exact Or.inr ⟨Or.inl ⟨h,by rw[if_neg h2.symm];exact h3⟩,by simpa using h2⟩
      ·exact Or.inl (Or.inr ⟨u,x,h,h3,h4⟩)
      ·refine Or.inr ⟨Or.inr ⟨u,x,h,by rw[if_neg h2.symm];exact h3,h4⟩, ?_⟩
       have:t.n≠v:=fun e=>nc u x h3 h2.symm h (e ▸ h4)
       simpa using this
   ·rename_i h8
    have e:∀k∈t.kids,_:=fun k hk=>qd f k b (gX.2.2 k hk) (by have:=Tm.dg hk;omega) hb v
    rw[wU (by exact h1) (by exact h8),List.any_eq_true]
    have NP:∀u,hO u t=true↔∃k∈t.kids,hO u k=true:=fun u=>by rw[wU h1 h8,List.any_eq_true]
    simp only[NP,Tm.kids,List.mem_map]
    constructor
    ·rintro⟨_,⟨k,hk,rfl⟩,h⟩
     rcases(e k hk).1 h with⟨h,h2⟩|⟨u,x,h,h2,h3⟩
     ·exact Or.inl ⟨⟨k,hk,h⟩,h2⟩
     ·exact Or.inr ⟨u,x,⟨k,hk,h⟩,h2,h3⟩
    ·rintro(⟨⟨k,hk,h⟩,h2⟩|⟨u,x,⟨k,hk,h⟩,h2,h3⟩)
     ·exact⟨_,⟨k,hk,rfl⟩,(e k hk).2 (Or.inl ⟨h,h2⟩)⟩
     ·exact⟨_,⟨k,hk,rfl⟩,(e k hk).2 (Or.inr ⟨u,x,h,h2,h3⟩)⟩
theorem rq:∀ (f:Nat) (t:Tm) (b:List (Int×Tm)),t.wf->(∀p∈b,p.2= .mk 1 p.1 [])->bA f b t=t
 |0,_,_,_,_=>rfl
 |f+1,t,b,hw,hb=>by
  have gX:=(Tm.gC t).1 hw
  simp only[bA]
  split
  ·rename_i h1
   cases hl:jE b t.n with
   |none=>rfl
   |some x=>
    have:=hb _ (jU hl)
    simp only at this
    simp only
    rw[this]
    obtain⟨op,n,kids⟩:=t
    simp only[Tm.op,Tm.n,Tm.kids]at h1 gX|-
    rw[h1,gX.1 h1]
  ·split
   ·rename_i h8
    obtain⟨a,body,hk⟩:=lI (gX.2.1 h8)
    have hc: ¬kP (cu b t.n) body t.n=true:=by
     rw[Co]
     rintro⟨p,hp,h1,h2,h3⟩
     rw[hb p hp,Bc]at h3
     exact h1 (by simpa using h3)
    rw[hk]
    simp only[if_neg hc]
    rw[rq f a b (gX.2.2 a (by rw[hk];simp)) hb,rq f body (cu b t.n) (gX.2.2 body (by rw[hk];simp)) (fun p hp=>hb p (List.mem_filter.1 hp).1), <- hk, <- h8]
    exact Tm.eta t
   ·rw[List.map_congr_left fun k hk=>rq f k b (gX.2.2 k hk) hb,List.map_id']
    exact Tm.eta t
end Go.Proofs.YtealblliddhgiaaGreat
namespace Go.Proofs.YtealblliddhgiaaGreat
def VN(R:Int->Int->Prop)(x y:Int):Int->Int->Prop:=fun v w=>(v=x/\w=y)\/(v≠x/\w≠y/\R v w)
inductive Al:(Int->Int->Prop)->Tm->Tm->Prop where
 |var {R:Int->Int->Prop} {v w:Int} (h:R v w):Al R (.mk 1 v []) (.mk 1 w [])
 |Be {R:Int->Int->Prop} {n m:Int} {a a' b b':Tm} (ha:Al R a a') (hb:Al (VN R n m) b b'):Al R (.mk 8 n [a,b]) (.mk 8 m [a',b'])
 |node {R:Int->Int->Prop} {op n:Int} {l l':List Tm} (h1:op≠1) (h8:op≠8) (hl:l.length=l'.length) (h:∀ (i:Nat) (k k':Tm),l[i]? =some k->l'[i]? =some k'->Al R k k'):Al R (.mk op n l) (.mk op n l')
theorem Al.mono {R:Int->Int->Prop}{t t':Tm}(h:Al R t t'):∀ {S:Int->Int->Prop},(∀v w,R v w->S v w)->Al S t t':=by
 induction h with
 |var h=>exact fun hs=> .var (hs _ _ h)
 |Be ha hb VO VP=>
  exact fun hs=> .Be (VO hs) (VP fun v w h=>h.elim Or.inl fun h=>Or.inr ⟨h.1,h.2.1,hs _ _ h.2.2⟩)
 |node h1 h8 hl h ih=>exact fun hs=> .node h1 h8 hl fun i k k' g g'=>ih i k k' g g' hs
def RN(R S:Int->Int->Prop):Int->Int->Prop:=fun v w=>∃u,R v u/\S u w
theorem Al.comp {R:Int->Int->Prop}{t t1:Tm}(h:Al R t t1):∀ {S:Int->Int->Prop} {t2:Tm},Al S t1 t2->Al (RN R S) t t2:=by
 induction h with
 |var h=>
  intro S t2 h2
  generalize he:Tm.mk 1 _ []=x at h2
  cases h2 with
  |var h3=>injection he with _ e _;subst e;exact .var ⟨_,h,h3⟩
  |Be _ _=>injection he with e;cases e
  |node g1 _ _ _=>injection he with e;exact absurd e.symm g1
 |Be ha hb VO VP=>
  intro S t2 h2
  generalize he:Tm.mk 8 _ _=x at h2
  cases h2 with
  |var h3=>injection he with e;cases e
  |Be g1 g2=>
   injection he with _ e1 e2
   injection e2 with e2 e3
   injection e3 with e3 _
   subst e1;subst e2;subst e3
   refine .Be (VO g1) ((VP g2).mono ?_)
   rintro v w ⟨u,(⟨p1,p2⟩|⟨p1,p2,p3⟩),(⟨q1,q2⟩|⟨q1,q2,q3⟩)⟩
   ·exact Or.inl ⟨p1,q2⟩
   ·exact absurd p2 q1
   ·exact absurd q1 p2
   ·exact Or.inr ⟨p1,q2,u,p3,q3⟩
  |node g1 g8 _ _=>injection he with e;exact absurd e.symm g8
 |node h1 h8 hl h ih=>
  intro S t2 h2
  generalize he:Tm.mk _ _ _=x at h2
  cases h2 with
  |var h3=>injection he with e;exact absurd e h1
  |Be _ _=>injection he with e;exact absurd e h8
  |node g1 g8 gl g3=>
   injection he with e1 e2 e3
   subst e1;subst e2;subst e3
   refine .node h1 h8 (hl.trans gl) fun i k k2 hk Zv=> ?_
   have bM:i<_:=(List.getElem?_eq_some_iff.1 hk).1
   have I7:=List.getElem?_eq_getElem (hl ▸ bM)
   exact ih i k _ hk I7 (g3 i _ k2 I7 Zv)
end Go.Proofs.YtealblliddhgiaaGreat
namespace Go.Proofs.YtealblliddhgiaaGreat
theorem va{pr:List (List Nat)}{fp:List (List Nat×List Nat)}(h:((List.range fp.length).all fun j=>(List.range j).all fun i=>((eo pr []).getD j 0).testBit i||((fp.getD i ([],[])).2.isEmpty&&(fp.getD j ([],[])).2.isEmpty))=true):eE pr fp=true:=by
 unfold eE
 rw[List.all_eq_true]at h|-
 intro j hj
 have h:=h j hj
 rw[List.all_eq_true]at h|-
 intro i hi
 have h:=h i hi
 rw[Bool.or_eq_true]at h|-
 refine h.imp id fun h=> ?_
 simp only[Bool.and_eq_true,List.isEmpty_iff]at h
 rw[h.1,h.2]
 rfl
def IC.snd:IC->IC
 | .seq _ y=>y
 |c=>c
def IC.fst:IC->IC
 | .seq x _=>x
 | .block _ x=>x
 | .loop x=>x
 | .cond _ x _=>x
 |c=>c
@[reducible] def dh (m:List (Int×Int)):ae:= .map 3 3 (enc (D.int .i64) (ints m))
@[reducible] def jF (m:List (Int×Int)):ae:= .et (enc (D.int .i64) (ints m))
def Zw(o:Nat->ae)(bv:V)(m:List (Int×Int)):Prop:=(bv= .d .cO/\m=[])\/∃b,bv= .mp b/\o b=jF m
structure GD (o:Nat->ae) (nx cid fid:Nat) (bv:V) (mB bd fr:List (Int×Int)) (n:Int) (sz:Nat):Prop where
 cY:Good o nx
 hc:o cid= .row [.d (.i n), .mp fid]
 hf:o fid=dh fr
 hb:Zw o bv mB
 kb:ni mB
 lk:∀v,lk mB v=lk bd v
 n0:0<=n
 n1:n+sz<=1000000
def Iy(o:Nat->ae)(nx cid fid:Nat)(r:Tm×List (Int×Int)×Int)(K:V->(Nat->ae)->Nat->Prop):Prop:=
 ∀v o' nx',nx<=nx'->Good o' nx'->dG o' v=some r.1.d->(∀id∈v.ids,nx<=id)->(∀j,j<nx->j≠cid->j≠fid->o' j=o j)->o' cid= .row [.d (.i r.2.2), .mp fid]->o' fid=dh r.2.1->K v o' nx'
@[go_sem] theorem NQ {P:Program} {kt:TypeId} {k:D} {i:Nat}:findD P kt k [] i=some none:=rfl
def tP(t:Tm):Prop:=∀ (o:Nat->ae) (nx cid fid:Nat) (bv:V) (mB bd fr:List (Int×Int)) (n:Int),GD o nx cid fid bv mB bd fr n t.sz->∀K X,Iy o nx cid fid (bL t bd fr n) K->
    eN Tryz.prog 110 [.agg [.ptr cid 0,bv], .d t.d] o nx K X
theorem lK{R:List Nat}{o:Nat->ae}{id:Nat}(h:id∈R):Ap R o id=o id:=by simp[Ap,h]
theorem zk{R:List Nat}{o:Nat->ae}{nx:Nat}(bM:∀id∈R,id<nx)(jA:∀id∈R,∀j∈(o id).refs,j∈R):Good (Ap R o) nx:=by
 refine⟨fun id aj=> ?_,fun id r hr=> ?_⟩
 ·have:id∉R:=fun hm=>by have:=bM id hm;omega
  simp[Ap,this]
 ·by_cases aj:id∈R
  ·rw[lK aj]at hr;exact bM r (jA id aj r hr)
  ·have:Ap R o id= .no:=by simp[Ap,aj]
   rw[this]at hr;cases hr
theorem th{t:Tm}(h:tP t){o:Nat->ae}{nx cid fid:Nat}{bd fr:List (Int×Int)}{n:Int}(hc:o cid= .row [.d (.i n), .mp fid])(hf:o fid=dh fr)(Ee:∀v,lk [] v=lk bd v)(n0:0<=n)(n1:n+t.sz<=1000000)(c1:cid<nx)(c2:fid<nx):
 zH Tryz.prog 110 [.agg [.ptr cid 0, .d .cO], .d t.d] [cid,fid] o (.ret [(bL t bd fr n).1.d]) [(cid, .row [.d (.i (bL t bd fr n).2.2), .mp fid]),(fid,dh (bL t bd fr n).2.1)]:=by
 have bM:∀id∈[cid,fid],id<nx:=by simp;omega
 have o7:cid≠fid:=fun e=>by rw[e,hf]at hc;cases hc
 have jA:∀id∈[cid,fid],∀j∈(o id).refs,j∈[cid,fid]:=by
  intro id aj j hj
  simp at aj
  rcases aj with rfl|rfl
  ·rw[hc]at hj;simp[ae.refs,V.ag,V.refs]at hj;simp[hj]
  ·rw[hf]at hj;simp[ae.refs]at hj
 refine zH.lx bM (fun id aj=>by simp[V.ag,V.refs]at aj;simp[aj]) jA (by simp) (by simp[ae.refs,V.ag,V.refs]) ?_
 refine h _ _ cid fid _ [] bd fr n ⟨zk bM jA,(lK (by simp:cid∈[cid,fid])).trans hc,(lK (by simp:fid∈[cid,fid])).trans hf, .inl ⟨rfl,rfl⟩,List.nodup_nil,Ee,n0,n1⟩ _ _ ?_
 intro v o' nx' g1 g2 g3 g4 g5 g6 g7
 refine⟨fun id aj=> ?_,[v],[(bL t bd fr n).1.d],rfl,by simp[bZ,g3],rfl,fun id aj=> ?_⟩
 ·simp at aj
  rcases aj with rfl|rfl
  ·rw[g6];simp only[mX,sA];rw[ad _ _ _ _ o7,aa]
  ·rw[g7];simp only[mX,sA];rw[aa]
 ·simp[V.ba]at aj
  have:=g4 id aj
  simp;omega
theorem mO{t:Tm}(h:tP t){o:Nat->ae}{nx cid fid b:Nat}{mB bd fr:List (Int×Int)}{n:Int}(hc:o cid= .row [.d (.i n), .mp fid])(hf:o fid=dh fr)(hb:o b=dh mB\/o b=jF mB)(b1:b≠cid)(b2:b≠fid)(kb:ni mB)(Ee:∀v,lk mB v=lk bd v)(n0:0<=n)(n1:n+t.sz<=1000000)(c1:cid<nx)(c2:fid<nx)(c3:b<nx):
 zH Tryz.prog 110 [.agg [.ptr cid 0, .mp b], .d t.d] [cid,fid,b] o (.ret [(bL t bd fr n).1.d]) [(cid, .row [.d (.i (bL t bd fr n).2.2), .mp fid]),(fid,dh (bL t bd fr n).2.1),(b,jF mB)]:=by
 have bM:∀id∈[cid,fid,b],id<nx:=by simp;omega
 have o7:cid≠fid:=fun e=>by rw[e,hf]at hc;cases hc
 have jA:∀id∈[cid,fid,b],∀j∈(o id).refs,j∈[cid,fid,b]:=by
  intro id aj j hj
  simp at aj
  rcases aj with rfl|rfl|rfl
  ·rw[hc]at hj;simp[ae.refs,V.ag,V.refs]at hj;simp[hj]
  ·rw[hf]at hj;simp[ae.refs]at hj
  ·rcases hb with hb|hb<;>(rw[hb]at hj;simp[ae.refs]at hj)
 refine zH.lx bM (by simp[V.ag,V.refs]) jA (by simp) (by simp[ae.refs,V.ag,V.refs]) ?_
 have key:∀O:Nat->ae,O cid=o cid->O fid=o fid->O b=jF mB->Good O nx->eN Tryz.prog 110 [.agg [.ptr cid 0, .mp b], .d t.d] O nx
  (fun v o1 _=>(∀id∈[cid,fid,b],o1 id=put o [(cid, .row [.d (.i (bL t bd fr n).2.2), .mp fid]),(fid,dh (bL t bd fr n).2.1),(b,jF mB)] id)/\∃vs rs,v=(match vs with|[v]=>v|vs=> .bW vs)/\bZ o1 vs=some rs/\R.ret [(bL t bd fr n).1.d]= .ret rs/\∀id∈V.ba vs,id∉[cid,fid,b])
  (fun v o1 _=>(∀id∈[cid,fid,b],o1 id=put o [(cid, .row [.d (.i (bL t bd fr n).2.2), .mp fid]),(fid,dh (bL t bd fr n).2.1),(b,jF mB)] id)/\∃x,dG o1 v=some x/\R.ret [(bL t bd fr n).1.d]= .bK x/\∀id∈v.ids,id∉[cid,fid,b]):=by
  intro O h1 h2 h3 h4
  refine h _ _ cid fid _ mB bd fr n ⟨h4,by rw[h1];exact hc,by rw[h2];exact hf, .inr ⟨b,rfl,h3⟩,kb,Ee,n0,n1⟩ _ _ ?_
  intro v o' nx' g1 g2 g3 g4 g5 g6 g7
  refine⟨fun id aj=> ?_,[v],[(bL t bd fr n).1.d],rfl,by simp[bZ,g3],rfl,fun id aj=> ?_⟩
  ·simp at aj
   simp only[mX,sA]
   rcases aj with rfl|rfl|rfl
   ·rw[g6,ad _ _ _ _ (Ne.symm b1),ad _ _ _ _ o7,aa]
   ·rw[g7,ad _ _ _ _ (Ne.symm b2),aa]
   ·rw[g5 _ c3 b1 b2,h3,aa]
  ·simp[V.ba]at aj
   have:=g4 id aj
   simp;omega
 have Kd:=zk bM jA
 rcases hb with hb|hb
 ·have KK:Ap [cid,fid,b] o b=dh mB:=(lK (by simp)).trans hb
  refine eN.A8 (id:=b) KK c3 (key _ ?_ ?_ (aa _ _ _) ?_)
  ·rw[ad _ _ _ _ (Ne.symm b1),lK (by simp:cid∈[cid,fid,b])]
  ·rw[ad _ _ _ _ (Ne.symm b2),lK (by simp:fid∈[cid,fid,b])]
  ·exact Kd.aq c3 rfl
 ·exact key _ (lK (by simp)) (lK (by simp)) ((lK (by simp)).trans hb) Kd
end Go.Proofs.YtealblliddhgiaaGreat
