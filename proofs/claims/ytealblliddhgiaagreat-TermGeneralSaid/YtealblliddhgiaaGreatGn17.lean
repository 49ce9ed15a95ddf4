/-
  A PART OF THE PROOF. Conditions: none.
-/
import Derived.Test.YtealblliddhgiaaGreatGn16
set_option linter.unusedSimpArgs false
set_option linter.unusedVariables false
namespace Go.Proofs.YtealblliddhgiaaGreat
def bz:List (Int×Tm)->Int->Option Tm
 |[],_=>none
 |p::l,v=>if p.1=v then some p.2 else bz l v
mutual
def yY:Tm->List Int
 | .mk op n kids=>(if op=1\/op=8 then [n]else [])++yx kids
def yx:List Tm->List Int
 |[]=>[]
 |k::l=>yY k++yx l
end
theorem Ik(t:Tm):yY t=(if t.op=1\/t.op=8 then [t.n]else [])++yx t.kids:=by cases t;rfl
def gM(b:List (Int×Tm))(t:Tm):List Int:=yY t++b.flatMap fun p=>p.1::yY p.2
def yy(l:List Int):Nat->Int->Int
 |0,n=>n
 |f+1,n=>if n∈l then yy l f (n+1)else n
def gN(l:List Int):Int:=yy l (l.length+1) 0
theorem qX:∀ (n:Nat) (l:List Int),(∀k:Nat,k<n->(k:Int)∈l)->n<=l.length
 |0,l,_=>Nat.zero_le _
 |n+1,l,h=>by
  have h1:(n:Int)∈l:=h n (by omega)
  have h2:=qX n (l.erase (n:Int)) (fun k hk=>(List.mem_erase_of_ne (by omega)).2 (h k (by omega)))
  rw[List.length_erase_of_mem h1]at h2
  have:0<l.length:=List.length_pos_of_mem h1
  omega
theorem rU(l:List Int):∀ (f:Nat) (n:Nat),(∀k:Nat,k<n->(k:Int)∈l)->n+f=l.length+1->
 ∃m:Nat,yy l f n=m/\(m:Int)∉l/\(∀k:Nat,k<m->(k:Int)∈l)/\m<=l.length
 |0,n,h,e=>by have:=qX n l h;omega
 |f+1,n,h,e=>by
  simp only[yy]
  split
  ·rename_i hm
   have:=rU l f (n+1) (fun k hk=>by
    by_cases e:k=n
    ·subst e;exact hm
    ·exact h k (by omega)) (by omega)
   simpa using this
  ·rename_i hm
   exact⟨n,rfl,hm,h,qX n l h⟩
theorem nr(l:List Int):∃m:Nat,gN l=m/\(m:Int)∉l/\(∀k:Nat,k<m->(k:Int)∈l)/\m<=l.length:=rU l _ 0 (by omega) (by omega)
theorem FX{l:List Int}{m:Nat}(h1:(m:Int)∉l)(h2:∀k:Nat,k<m->(k:Int)∈l):gN l=m:=by
 obtain⟨n,e,n1,n2,_⟩:=nr l
 rw[e]
 rcases Nat.lt_trichotomy n m with h|h|h
 ·exact absurd (h2 n h) n1
 ·rw[h]
 ·exact absurd (n2 m h) h1
theorem yz{l l':List Int}(h:∀v,v∈l↔v∈l'):gN l=gN l':=by
 obtain⟨n,e,n1,n2,_⟩:=nr l'
 rw[e]
 exact FX (fun h1=>n1 ((h _).1 h1)) (fun k hk=>(h _).2 (n2 k hk))
def nu(inner:List (Int×Tm))(body:Tm)(n:Int):Bool:=inner.any fun p=>eL p.1 body&&eL n p.2
def cY(b:List (Int×Tm))(n:Int):List (Int×Tm):=b.filter fun p=>p.1!=n
def bO:Nat->List (Int×Tm)->Tm->Tm
 |0,_,t=>t
 |f+1,b,t=>if t.op=1 then(match bz b t.n with|some x=>x|none=>t)
  else if t.op=8 then(match t.kids with
   |[a,body]=>if nu (cY b t.n) body t.n=true then .mk 8 (gN (gM b t)) [bO f b a,bO f (cY b t.n) (bO f [(t.n, .mk 1 (gN (gM b t)) [])] body)]
    else .mk 8 t.n [bO f b a,bO f (cY b t.n) body]
   |_=>t)
  else .mk t.op t.n (t.kids.map (bO f b))
mutual
def Tm.wf:Tm->Prop
 | .mk op _ kids=>(op=1->kids=[])/\(op=8->kids.length=2)/\Tm.MQ kids
def Tm.MQ:List Tm->Prop
 |[]=>True
 |k::l=>k.wf/\Tm.MQ l
end
theorem Tm.Ed:∀l:List Tm,Tm.MQ l↔∀k∈l,k.wf
 |[]=>by simp[Tm.MQ]
 |k::l=>by simp[Tm.MQ,Tm.Ed l]
theorem Tm.iB (t:Tm):t.wf↔(t.op=1->t.kids=[])/\(t.op=8->t.kids.length=2)/\∀k∈t.kids,k.wf:=by cases t;simp[Tm.wf,Tm.Ed,Tm.op,Tm.kids]
theorem qY{t:Tm}(h:t.kids.length=2):∃a b,t.kids=[a,b]:=by
 match hk:t.kids with
 |[a,b]=>exact⟨a,b,rfl⟩
 |[]=>rw[hk]at h;cases h
 |[_]=>rw[hk]at h;cases h
 |_::_::_::_=>rw[hk]at h;simp at h
theorem gO{b:List (Int×Tm)}{v:Int}:bz b v=none↔v∉b.map (·.1):=by
 induction b with
 |nil=>simp[bz]
 |cons p l ih=>
  simp only[bz,List.map_cons,List.mem_cons,not_or]
  split
  ·rename_i h;simp[h]
  ·rename_i h;rw[ih];exact⟨fun h2=>⟨fun e=>h e.symm,h2⟩,fun h2=>h2.2⟩
theorem fN{b:List (Int×Tm)}{v:Int}{x:Tm}(h:bz b v=some x):(v,x)∈b:=by
 induction b with
 |nil=>cases h
 |cons p l ih=>
  simp only[bz]at h
  split at h
  ·rename_i e;injection h with h;subst h;subst e;exact List.mem_cons_self ..
  ·exact List.mem_cons_of_mem _ (ih h)
theorem Bl{b:List (Int×Tm)}(hb:(b.map (·.1)).Nodup){v:Int}{x:Tm}:bz b v=some x↔(v,x)∈b:=by
 refine⟨fN,fun h=> ?_⟩
 induction b with
 |nil=>cases h
 |cons p l ih=>
  rw[List.map_cons,List.nodup_cons]at hb
  simp only[bz]
  rcases List.mem_cons.1 h with e|h
  ·subst e;simp
  ·rw[if_neg (fun e=>hb.1 (by rw[e];exact List.mem_map.2 ⟨_,h,rfl⟩)),ih hb.2 h]
theorem Il{b b':List (Int×Tm)}(hb:(b.map (·.1)).Nodup)(h:b.Perm b')(v:Int):bz b v=bz b' v:=by
 have Gp:(b'.map (·.1)).Nodup:=(h.map _).nodup_iff.1 hb
 cases h2:bz b' v with
 |none=>rw[gO]at h2|-;exact fun h3=>h2 ((h.map _).mem_iff.1 h3)
 |some x=>rw[Bl Gp]at h2;rw[Bl hb];exact h.mem_iff.2 h2
theorem mj{b:List (Int×Tm)}(n:Int)(hb:(b.map (·.1)).Nodup):((cY b n).map (·.1)).Nodup:=hb.sublist (List.filter_sublist.map _)
theorem Bm{α:Type}{l l':List α}(f:α->Bool)(h:l.Perm l'):l.any f=l'.any f:=by
 rw[Bool.eq_iff_iff,List.any_eq_true,List.any_eq_true]
 exact⟨fun⟨x,hx,e⟩=>⟨x,h.mem_iff.1 hx,e⟩,fun⟨x,hx,e⟩=>⟨x,h.mem_iff.2 hx,e⟩⟩
theorem qZ{b:List (Int×Tm)}{t:Tm}{v:Int}:v∈gM b t↔v∈yY t\/∃p∈b,v=p.1\/v∈yY p.2:=by
 simp only[gM,List.mem_append,List.mem_flatMap,List.mem_cons]
theorem C2{b b':List (Int×Tm)}(h:b.Perm b')(t:Tm):gN (gM b t)=gN (gM b' t):=by
 refine yz fun v=> ?_
 rw[qZ,qZ]
 exact or_congr Iff.rfl ⟨fun⟨p,hp,e⟩=>⟨p,h.mem_iff.1 hp,e⟩,fun⟨p,hp,e⟩=>⟨p,h.mem_iff.2 hp,e⟩⟩
theorem lH:∀ (f:Nat) (t:Tm) {b b':List (Int×Tm)},(b.map (·.1)).Nodup->b.Perm b'->bO f b t=bO f b' t
 |0,_,_,_,_,_=>rfl
 |f+1,t,b,b',hb,h=>by
  have hi:(cY b t.n).Perm (cY b' t.n):=h.filter _
  have hc:∀body,nu (cY b t.n) body t.n=nu (cY b' t.n) body t.n:=fun body=>Bm _ hi
  simp only[bO]
  rw[Il hb h]
  split
  ·rfl
  ·split
   ·split
    ·rename_i a body _
     rw[hc,C2 h,lH f a hb h]
     rw[lH f _ (mj _ hb) hi]
     rw[lH f body (mj _ hb) hi]
    ·rfl
   ·rw[List.map_congr_left fun k _=>lH f k hb h]
theorem kA:∀ (f:Nat) (t:Tm) (b:List (Int×Tm)),t.wf->t.ck<=f->(∀p∈b,p.2.op=1/\p.2.kids=[])->(bO f b t).ck=t.ck/\(bO f b t).wf/\(bO f b t).sz=t.sz
 |0,t,_,_,h,_=>by cases t;simp only[Tm.ck]at h;omega
 |f+1,t,b,hw,hf,hb=>by
  have ml:=(Tm.iB t).1 hw
  have leaf:∀x:Tm,x.op=1->x.kids=[]->x.ck=1/\x.wf/\x.sz=1:=by
   intro x h1 h2
   obtain⟨op,n,kids⟩:=x
   simp only[Tm.op,Tm.kids]at h1 h2
   subst h1;subst h2
   refine⟨by simp[Tm.ck,Tm.dQ],by simp[Tm.wf,Tm.MQ],by rw[Tm.iQ];rfl⟩
  have UF:∀p∈cY b t.n,p.2.op=1/\p.2.kids=[]:=fun p hp=>hb p (List.mem_filter.1 hp).1
  have one:∀m:Int,∀p∈[(t.n,Tm.mk 1 m [])],p.2.op=1/\p.2.kids=[]:=by intro m p hp;simp at hp;subst hp;exact⟨rfl,rfl⟩
  simp only[bO]
  split
  ·rename_i h1
   have l1:=leaf t h1 (ml.1 h1)
   split
   ·rename_i x hx
    have:=hb _ (fN hx)
    have l2:=leaf x this.1 this.2
    exact⟨l2.1.trans l1.1.symm,l2.2.1,l2.2.2.trans l1.2.2.symm⟩
   ·exact⟨rfl,hw,rfl⟩
  ·split
   ·rename_i h8
    obtain⟨a,body,hk⟩:=qY (ml.2.1 h8)
    have ha:a∈t.kids:=by rw[hk];simp
    have vg:body∈t.kids:=by rw[hk];simp
    have g1:=Tm.dv ha
    have g2:=Tm.dv vg
    have e1:=kA f a b (ml.2.2 a ha) (by omega) hb
    have e2:=kA f body _ (ml.2.2 body vg) (by omega) UF
    have e3:=fun m=>kA f body _ (ml.2.2 body vg) (by omega) (one m)
    have e4:=fun m=>kA f (bO f [(t.n, .mk 1 m [])] body) _ (e3 m).2.1 (by rw[(e3 m).1];omega) UF
    have fin:∀ (n:Int) (x y:Tm),x.ck=a.ck->x.wf->x.sz=a.sz->y.ck=body.ck->y.wf->y.sz=body.sz->(Tm.mk 8 n [x,y]).ck=t.ck/\(Tm.mk 8 n [x,y]).wf/\(Tm.mk 8 n [x,y]).sz=t.sz:=by
     intro n x y q1 q2 q3 q4 q5 q6
     rw[Tm.ec,Tm.ec t,Tm.iQ,Tm.iQ t,hk]
     simp only[Tm.kids,lE,dL,q1,q3,q4,q6]
     exact⟨trivial,by simp[Tm.wf,Tm.MQ,q2,q5],trivial⟩
    rw[hk]
    simp only
    split
    ·exact fin _ _ _ e1.1 e1.2.1 e1.2.2 ((e4 _).1.trans (e3 _).1) (e4 _).2.1 ((e4 _).2.2.trans (e3 _).2.2)
    ·exact fin _ _ _ e1.1 e1.2.1 e1.2.2 e2.1 e2.2.1 e2.2.2
   ·rename_i h1 h8
    have ih:∀k∈t.kids,(bO f b k).ck=k.ck/\(bO f b k).wf/\(bO f b k).sz=k.sz:=fun k hk=>by
     have:=Tm.dv hk
     exact kA f k b (ml.2.2 k hk) (by omega) hb
    have hl:∀l:List Tm,(∀k∈l,k∈t.kids)->Tm.dQ (l.map (bO f b))=Tm.dQ l/\mF (l.map (bO f b))=mF l:=by
     intro l
     induction l with
     |nil=>intro _;exact⟨rfl,rfl⟩
     |cons k l AX=>
      intro h
      have i1:=ih k (h k (by simp))
      have i2:=AX fun x hx=>h x (by simp[hx])
      simp only[List.map_cons,lE,dL,i1.1,i1.2.2,i2.1,i2.2]
      exact⟨trivial,trivial⟩
    have:=hl t.kids fun _ h=>h
    rw[Tm.ec,Tm.ec t,Tm.iQ,Tm.iQ t,Tm.iB]
    refine⟨by show 1+Tm.dQ (t.kids.map (bO f b))=_;rw[this.1],⟨fun h=>absurd h h1,fun h=>absurd h h8,fun k hk=> ?_⟩,by show 1+mF (t.kids.map (bO f b))=_;rw[this.2]⟩
    obtain⟨x,hx,rfl⟩:=List.mem_map.1 hk
    exact(ih x hx).2.1
theorem dM:∀ (f f':Nat) (t:Tm) (b:List (Int×Tm)),t.wf->t.ck<=f->t.ck<=f'->bO f b t=bO f' b t
 |0,_,t,_,_,h,_=>by cases t;simp only[Tm.ck]at h;omega
 |_,0,t,_,_,_,h=>by cases t;simp only[Tm.ck]at h;omega
 |f+1,f'+1,t,b,hw,h1,h2=>by
  have ml:=(Tm.iB t).1 hw
  simp only[bO]
  split
  ·rfl
  ·split
   ·rename_i h8
    obtain⟨a,body,hk⟩:=qY (ml.2.1 h8)
    have ha:a∈t.kids:=by rw[hk];simp
    have vg:body∈t.kids:=by rw[hk];simp
    have g1:=Tm.dv ha
    have g2:=Tm.dv vg
    rw[hk]
    simp only
    have e0:=fun m=>kA f' body [(t.n, .mk 1 m [])] (ml.2.2 body vg) (by omega) (by intro p hp;simp at hp;subst hp;exact⟨rfl,rfl⟩)
    rw[dM f f' a b (ml.2.2 a ha) (by omega) (by omega),dM f f' body (cY b t.n) (ml.2.2 body vg) (by omega) (by omega),
     dM f f' body [(t.n, .mk 1 (gN (gM b t)) [])] (ml.2.2 body vg) (by omega) (by omega),
     dM f f' (bO f' [(t.n, .mk 1 (gN (gM b t)) [])] body) (cY b t.n) (e0 _).2.1 (by rw[(e0 _).1];omega) (by rw[(e0 _).1];omega)]
   ·rw[List.map_congr_left fun k hk=>dM f f' k b (ml.2.2 k hk) (by have:=Tm.dv hk;omega) (by have:=Tm.dv hk;omega)]
theorem lI:∀ (f:Nat) (t:Tm),t.wf->bO f [] t=t
 |0,_,_=>rfl
 |f+1,t,hw=>by
  have ml:=(Tm.iB t).1 hw
  simp only[bO]
  split
  ·rfl
  ·split
   ·rename_i h8
    obtain⟨a,body,hk⟩:=qY (ml.2.1 h8)
    rw[hk]
    simp only[cY,List.filter_nil,nu,List.any_nil,Bool.false_eq_true,if_false]
    rw[lI f a (ml.2.2 a (by rw[hk];simp)),lI f body (ml.2.2 body (by rw[hk];simp)), <- hk, <- h8]
    exact Tm.eta t
   ·rw[List.map_congr_left fun k hk=>lI f k (ml.2.2 k hk),List.map_id']
    exact Tm.eta t
end Go.Proofs.YtealblliddhgiaaGreat
namespace Go.Proofs.YtealblliddhgiaaGreat
end Go.Proofs.YtealblliddhgiaaGreat
namespace Go.Proofs.YtealblliddhgiaaGreat
def C3(t:Tm):Bool:=t.op==1||t.op==8
def kB(l:List Int)(x:Tm×Int):List Int:=if C3 x.1=true then oU l x.1.n else l
theorem Im{l:List Tm}{v:Int}:v∈yx l↔∃k∈l,v∈yY k:=by
 induction l with
 |nil=>simp[yx]
 |cons k l ih=>simp[yx,ih]
theorem PA:∀ (t:Tm) (d v:Int),v∈yY t↔∃x∈pre t d,C3 x.1=true/\x.1.n=v:=by
 refine Tm.eO fun t ih d v=> ?_
 rw[Ik,l9,List.mem_append,Im]
 constructor
 ·rintro(h|⟨k,hk,h⟩)
  ·split at h
   ·rename_i h1
    simp at h
    exact⟨_,List.mem_cons_self ..,by simpa[C3]using h1,h.symm⟩
   ·cases h
  ·obtain⟨x,hx,e⟩:=(ih k hk (d+1) v).1 h
   exact⟨x,List.mem_cons_of_mem _ (List.mem_flatMap.2 ⟨k,hk,hx⟩),e⟩
 ·rintro⟨x,hx,h1,h2⟩
  rcases List.mem_cons.1 hx with rfl|hx
  ·left
   rw[if_pos (by simpa[C3]using h1)]
   simp[h2]
  ·obtain⟨k,hk,hx⟩:=List.mem_flatMap.1 hx
   exact .inr ⟨k,hk,(ih k hk (d+1) v).2 ⟨x,hx,h1,h2⟩⟩
theorem Ee:∀ (L:List (Tm×Int)) (l:List Int),l.Nodup->(aL (sw (fun _=>none) kB) l L).1.Nodup/\∀v,v∈(aL (sw (fun _=>none) kB) l L).1↔v∈l\/∃x∈L,C3 x.1=true/\x.1.n=v
 |[],l,h=>by simp[aL,h]
 |x::L,l,h=>by
  have h1:(kB l x).Nodup:=by
   unfold kB;split
   ·exact mh _ h
   ·exact h
  obtain⟨g1,g2⟩:=Ee L (kB l x) h1
  have e:aL (sw (fun _=>none) kB) l (x::L)=aL (sw (fun _=>none) kB) (kB l x) L:=by simp[aL,sw]
  rw[e]
  refine⟨g1,fun v=> ?_⟩
  rw[g2]
  unfold kB
  split
  ·rename_i hx
   rw[iR]
   constructor
   ·rintro((h|rfl)|⟨y,hy,e⟩)
    ·exact .inl h
    ·exact .inr ⟨x,List.mem_cons_self ..,hx,rfl⟩
    ·exact .inr ⟨y,List.mem_cons_of_mem _ hy,e⟩
   ·rintro(h|⟨y,hy,e1,e2⟩)
    ·exact .inl (.inl h)
    ·rcases List.mem_cons.1 hy with rfl|hy
     ·exact .inl (.inr e2.symm)
     ·exact .inr ⟨y,hy,e1,e2⟩
  ·rename_i hx
   constructor
   ·rintro(h|⟨y,hy,e⟩)
    ·exact .inl h
    ·exact .inr ⟨y,List.mem_cons_of_mem _ hy,e⟩
   ·rintro(h|⟨y,hy,e1,e2⟩)
    ·exact .inl h
    ·rcases List.mem_cons.1 hy with rfl|hy
     ·exact absurd e1 hx
     ·exact .inr ⟨y,hy,e1,e2⟩
theorem uK(t:Tm)(ht:t.fits)(hd:t.ck<=900000)(o:Nat->ae)(nx id:Nat)(l:List Int)(hg:Good o nx)(ho:o id=jV l)(hl:l.Nodup)(K X:V->(Nat->ae)->Nat->Prop)
 (hK:UC id (fun l'=>l'.Nodup/\∀n,n∈l'↔n∈l\/n∈yY t) o nx K):dX Tryz.prog 117 [.mp id, .d t.d] o nx K X:=by
 have ax:id<nx:=hg.lt (by rw[ho];exact ae.noConfusion)
 refine dX.aZ mix MB (by simp) ?_
 rw[OY]
 have y1:id≠nx:=by omega
 have y2:∀k,id≠nx+k:=fun k=>by omega
 simp+contextual (disch:=first|omega|simp only[go_sem,false_implies]) only[go_sem,wrap64,if_pos,Nat.add_assoc,Nat.left_eq_add,Nat.add_eq_left,Nat.add_left_cancel_iff]
 refine bK (uw t _ _ _ _ ?_)
 simp+contextual (disch:=first|omega|simp only[go_sem,false_implies]) only[go_sem,wrap64,if_pos,Nat.add_assoc,Nat.left_eq_add,Nat.add_eq_left,Nat.add_left_cancel_iff]
 have hG:∀j,j<nx+7->ak (ak (ak o nx (.row [.mp id])) (nx+1) (.row t.row)) (nx+3) (.row t.row) j=ak (ak (ak (ak o nx (.row [.mp id])) (nx+1) (.row t.row)) (nx+3) (.row t.row)) id (jV l) j:=by
  intro j _
  by_cases e:j=id
  ·subst e;(repeat(first|rfl|rw[aa]|rw[ad _ _ _ _ (by omega)]));exact ho
  ·rw[ad _ _ _ _ e]
 refine nm (σ:=List Int) t ht hd [.ab, .ab, .ptr nx 0] ?_ (by decide) rfl (by repeat(first|exact hg.mono (by omega)|exact Good.nil|refine Good.ak ?_ (by omega) rfl|refine Good.ak ?_ (by omega) (bV _ _ _ (by omega))|refine Good.ak ?_ (by omega) (by simp[ae.refs,V.ag,V.refs]<;>omega))) (by simp[V.ag,V.refs]) (aa _ _ _)
  (fun s=>ak (ak (ak (ak o nx (.row [.mp id])) (nx+1) (.row t.row)) (nx+3) (.row t.row)) id (jV s)) (fun _=>none) kB (fun _=>True) l trivial rfl hG (fun _ _ _ _ _ _=>trivial) ?_ ?_
 ·(repeat(first|exact qO|refine oQ ?_|refine yg rfl ?_))
 ·intro L hL bV x hx s' _ _ o3 n3 hI hn H3 K' X' fD
  simp only[ss]
  have hg:=hI.cW
  have hle:=hI.le
  have q1:o3 nx= .row [.mp id]:=by rw[hI.eq nx (by omega)];(repeat(first|rfl|rw[aa]|rw[ad _ _ _ _ (by omega)]))
  have q2:o3 id=jV s':=by rw[hI.eq id (by omega)];(repeat(first|rfl|rw[aa]|rw[ad _ _ _ _ (by omega)]))
  have z1:nx≠n3:=by omega
  have z2:∀k,nx≠n3+k:=fun k=>by omega
  have z3:id≠n3:=by omega
  have z4:∀k,id≠n3+k:=fun k=>by omega
  simp+contextual (disch:=first|omega|simp only[go_sem,false_implies]) only[go_sem,wrap64,if_pos,and_self]
  refine ur hL (pd:=none) ?_ ?_
  ·(repeat(first|rfl|rw[aa]|rw[ad _ _ _ _ (by omega)]))
   exact H3
  simp+contextual (disch:=first|omega|simp only[go_sem,false_implies]) only[go_sem,wrap64,if_pos,q1,q2]
  have same:∀ (o':Nat->ae) (n':Nat) (l:List Int),Good o' n'->n3<=n'->(∀j,j<nx+7->o' j=ak o3 id (jV l) j)->gI (nx+7) (ak (ak (ak (ak o nx (.row [.mp id])) (nx+1) (.row t.row)) (nx+3) (.row t.row)) id (jV l)) o' n':=fun o' n' l k1 k2 k3=>⟨k1,by omega,fun j hj=>by
   rw[k3 j hj]
   by_cases e:j=id
   ·subst e;rw[aa,aa]
   ·rw[ad _ _ _ _ e,ad _ _ _ _ e,hI.eq j hj,ad _ _ _ _ e]⟩
  refine ay (fun h3=> ?_) (fun h3=> ?_)
  ·have hp:kB s' x=oU s' x.1.n:=by unfold kB C3;rw[if_pos h3]
   rw[hp]at fD
   simp+contextual (disch:=first|omega|simp only[go_sem,false_implies]) only[go_sem,wrap64,if_pos,q1,q2,z1,z2,z3,z4,Nat.add_assoc,Nat.left_eq_add,Nat.add_eq_left,Nat.add_left_cancel_iff]
   refine fD _ _ _ .busy none (by omega) (same _ _ _ (by repeat(first|exact hg.mono (by omega)|exact Good.nil|refine Good.ak ?_ (by omega) rfl|refine Good.ak ?_ (by omega) (bV _ _ _ (by omega))|refine Good.ak ?_ (by omega) (by simp[ae.refs,V.ag,V.refs]<;>omega))) (by omega) fun j hj=> ?_) (by(repeat(first|rfl|rw[aa]|rw[ad _ _ _ _ (by omega)]))) (fun j h3 h4=>by(repeat(first|rfl|rw[aa]|rw[ad _ _ _ _ (by omega)])))
   by_cases e:j=id
   ·subst e;(repeat(first|rfl|rw[aa]|rw[ad _ _ _ _ (by omega)]))
   ·(repeat(first|rfl|rw[aa]|rw[ad _ _ _ _ (by omega)]))
  ·have hp:kB s' x=s':=by unfold kB C3;rw[if_neg (by simpa using h3)]
   rw[hp]at fD
   simp+contextual (disch:=first|omega|simp only[go_sem,false_implies]) only[go_sem,wrap64,if_pos,and_self]
   refine fD _ _ _ .busy none (by omega) (same _ _ _ (by repeat(first|exact hg.mono (by omega)|exact Good.nil|refine Good.ak ?_ (by omega) rfl|refine Good.ak ?_ (by omega) (bV _ _ _ (by omega))|refine Good.ak ?_ (by omega) (by simp[ae.refs,V.ag,V.refs]<;>omega))) (by omega) fun j hj=> ?_) (by(repeat(first|rfl|rw[aa]|rw[ad _ _ _ _ (by omega)]))) (fun j h3 h4=>by(repeat(first|rfl|rw[aa]|rw[ad _ _ _ _ (by omega)])))
   by_cases e:j=id
   ·subst e;(repeat(first|rfl|rw[aa]|rw[ad _ _ _ _ (by omega)]))
    exact q2
   ·(repeat(first|rfl|rw[aa]|rw[ad _ _ _ _ (by omega)]))
 ·intro o' n' hI
  have hle:=hI.le
  simp only[vu]
  simp+contextual (disch:=first|omega|simp only[go_sem,false_implies]) only[go_sem,wrap64,if_pos,and_self]
  obtain⟨g1,g2⟩:=Ee (pre t 1) l hl
  refine hK _ _ _ (by omega) hI.cW (fun j h1 h2=> ?_) (by rw[hI.eq id (by omega),aa]) ⟨g1,fun v=> ?_⟩
  ·rw[hI.eq j (by omega)];(repeat(first|rfl|rw[aa]|rw[ad _ _ _ _ (by omega)]))
  ·rw[g2 v,PA t 1 v]
end Go.Proofs.YtealblliddhgiaaGreat
namespace Go.Proofs.YtealblliddhgiaaGreat
end Go.Proofs.YtealblliddhgiaaGreat
namespace Go.Proofs.YtealblliddhgiaaGreat
theorem Eg{v op n:Int}(h:op≠8):∀ (l:List Tm) (i:Nat),qU v op n l i=l.any (eL v)
 |[],i=>rfl
 |k::l,i=>by
  have:(op==8)=false:=by simpa using h
  simp[qU,Eg h l,this]
theorem Io{s:aO}{t:Tm}(h:bu s t=true)(h1:t.op=1):t.kids=[]:=by
 simp[bu,h1]at h
 exact h.1
end Go.Proofs.YtealblliddhgiaaGreat
namespace Go.Proofs.YtealblliddhgiaaGreat
theorem PB{t a body:Tm}{v:Int}(h8:t.op=8)(hk:t.kids=[a,body]):eL v t=(eL v a||(eL v body&& !(t.n==v))):=by
 rw[np,hk,h8]
 simp[qU]
theorem oW{v n:Int}:eL v (.mk 1 n [])=(n==v):=rfl
theorem Ip{t:Tm}{v:Int}(h1:t.op≠1)(h8:t.op≠8):eL v t=t.kids.any (eL v):=by rw[np,if_neg h1,Eg h8]
end Go.Proofs.YtealblliddhgiaaGreat
namespace Go.Proofs.YtealblliddhgiaaGreat
def YY(R:Int->Int->Prop)(x y:Int):Int->Int->Prop:=fun v w=>(v=x/\w=y)\/(v≠x/\w≠y/\R v w)
inductive Al:(Int->Int->Prop)->Tm->Tm->Prop where
 |var {R:Int->Int->Prop} {v w:Int} (h:R v w):Al R (.mk 1 v []) (.mk 1 w [])
 |C4 {R:Int->Int->Prop} {n m:Int} {a a' b b':Tm} (ha:Al R a a') (hb:Al (YY R n m) b b'):Al R (.mk 8 n [a,b]) (.mk 8 m [a',b'])
 |node {R:Int->Int->Prop} {op n:Int} {l l':List Tm} (h1:op≠1) (h8:op≠8) (hl:l.length=l'.length) (h:∀ (i:Nat) (k k':Tm),l[i]? =some k->l'[i]? =some k'->Al R k k'):Al R (.mk op n l) (.mk op n l')
theorem Al.mono {R:Int->Int->Prop}{t t':Tm}(h:Al R t t'):∀ {S:Int->Int->Prop},(∀v w,R v w->S v w)->Al S t t':=by
 induction h with
 |var h=>exact fun hs=> .var (hs _ _ h)
 |C4 ha hb YZ Y0=>
  exact fun hs=> .C4 (YZ hs) (Y0 fun v w h=>h.elim Or.inl fun h=>Or.inr ⟨h.1,h.2.1,hs _ _ h.2.2⟩)
 |node h1 h8 hl h ih=>exact fun hs=> .node h1 h8 hl fun i k k' g g'=>ih i k k' g g' hs
def UG(R S:Int->Int->Prop):Int->Int->Prop:=fun v w=>∃u,R v u/\S u w
theorem Al.comp {R:Int->Int->Prop}{t t1:Tm}(h:Al R t t1):∀ {S:Int->Int->Prop} {t2:Tm},Al S t1 t2->Al (UG R S) t t2:=by
 induction h with
 |var h=>
  intro S t2 h2
  generalize he:Tm.mk 1 _ []=x at h2
  cases h2 with
  |var h3=>injection he with _ e _;subst e;exact .var ⟨_,h,h3⟩
  |C4 _ _=>injection he with e;cases e
  |node g1 _ _ _=>injection he with e;exact absurd e.symm g1
 |C4 ha hb YZ Y0=>
  intro S t2 h2
  generalize he:Tm.mk 8 _ _=x at h2
  cases h2 with
  |var h3=>injection he with e;cases e
  |C4 g1 g2=>
   injection he with _ e1 e2
   injection e2 with e2 e3
   injection e3 with e3 _
   subst e1;subst e2;subst e3
   refine .C4 (YZ g1) ((Y0 g2).mono ?_)
   rintro v w ⟨u,(⟨p1,p2⟩|⟨p1,p2,p3⟩),(⟨q1,q2⟩|⟨q1,q2,q3⟩)⟩
   ·exact Or.inl ⟨p1,q2⟩
   ·exact absurd p2 q1
   ·exact absurd q1 p2
   ·exact Or.inr ⟨p1,q2,u,p3,q3⟩
  |node g1 g8 _ _=>injection he with e;exact absurd e.symm g8
 |node h1 h8 hl h ih=>
  intro S t2 h2
  generalize he:Tm.mk _ _ _=x at h2
  cases h2 with
  |var h3=>injection he with e;exact absurd e h1
  |C4 _ _=>injection he with e;exact absurd e h8
  |node g1 g8 gl g3=>
   injection he with e1 e2 e3
   subst e1;subst e2;subst e3
   refine .node h1 h8 (hl.trans gl) fun i k k2 hk hk2=> ?_
   have bC:i<_:=(List.getElem?_eq_some_iff.1 hk).1
   have Cd:=List.getElem?_eq_getElem (hl ▸ bC)
   exact ih i k _ hk Cd (g3 i _ k2 Cd hk2)
theorem yA{t:Tm}(hw:t.wf)(h:t.op=1):t= .mk 1 t.n []:=by
 obtain⟨op,n,kids⟩:=t
 rw[Tm.iB]at hw
 simp only[Tm.op,Tm.n,Tm.kids]at h hw|-
 rw[h,hw.1 h]
end Go.Proofs.YtealblliddhgiaaGreat
namespace Go.Proofs.YtealblliddhgiaaGreat
theorem lJ{pr:List (List Nat)}{fp:List (List Nat×List Nat)}(h:((List.range fp.length).all fun j=>(List.range j).all fun i=>((ee pr []).getD j 0).testBit i||((fp.getD i ([],[])).2.isEmpty&&(fp.getD j ([],[])).2.isEmpty))=true):eB pr fp=true:=by
 unfold eB
 rw[List.all_eq_true]at h|-
 intro j hj
 have h:=h j hj
 rw[List.all_eq_true]at h|-
 intro i hi
 have h:=h i hi
 rw[Bool.or_eq_true]at h|-
 refine h.imp id fun h=> ?_
 simp only[Bool.and_eq_true,List.isEmpty_iff]at h
 rw[h.1,h.2]
 rfl
def IC.snd:IC->IC
 | .seq _ y=>y
 |c=>c
def IC.fst:IC->IC
 | .seq x _=>x
 | .block _ x=>x
 | .loop x=>x
 | .cond _ x _=>x
 |c=>c
@[reducible] def Y1 (m:List (Int×Int)):ae:= .map 3 3 (enc (D.int .i64) (ints m))
@[reducible] def Y2 (m:List (Int×Int)):ae:= .fq (enc (D.int .i64) (ints m))
def BdV(o:Nat->ae)(bv:V)(m:List (Int×Int)):Prop:=(bv= .d .dk/\m=[])\/∃b,bv= .mp b/\o b=Y2 m
structure Y3 (o:Nat->ae) (nx cid fid:Nat) (bv:V) (mB bd fr:List (Int×Int)) (n:Int) (sz:Nat):Prop where
 cW:Good o nx
 hc:o cid= .row [.d (.i n), .mp fid]
 hf:o fid=Y1 fr
 hb:BdV o bv mB
 kb:YX mB
 lk:∀v,lk mB v=lk bd v
 n0:0<=n
 n1:n+sz<=1000000
@[go_sem] theorem QS {P:Program} {kt:TypeId} {k:D} {i:Nat}:findD P kt k [] i=some none:=rfl
theorem yB{R:List Nat}{o:Nat->ae}{id:Nat}(h:id∈R):Dx R o id=o id:=by simp[Dx,h]
theorem uL{R:List Nat}{o:Nat->ae}{nx:Nat}(bC:∀id∈R,id<nx)(mE:∀id∈R,∀j∈(o id).refs,j∈R):Good (Dx R o) nx:=by
 refine⟨fun id ax=> ?_,fun id r hr=> ?_⟩
 ·have:id∉R:=fun hm=>by have:=bC id hm;omega
  simp[Dx,this]
 ·by_cases ax:id∈R
  ·rw[yB ax]at hr;exact bC r (mE id ax r hr)
  ·have:Dx R o id= .no:=by simp[Dx,ax]
   rw[this]at hr;cases hr
end Go.Proofs.YtealblliddhgiaaGreat
namespace Go.Proofs.YtealblliddhgiaaGreat
theorem gP{c:Nat}{G:List Gr}{so:Nat->ae}{gone:Nat->Prop}{x x' y y':ae}(h:x=y)(h':x'=y')(hs:AU c G so gone y y'):AU c G so gone x x':=by rw[h,h'];exact hs
theorem w9{c:Nat}{G:List Gr}{so:Nat->ae}{gone:Nat->Prop}{e:Nat->V}:∀ {l:List V} {i:Nat},fG c e l i->nj c G so gone e l i
 |[],_,_=>trivial
 |v::l,i,h=>⟨h.1.elim .inl fun h=> .inr (.inl ⟨h.1,fun r hr=>h.2 r (by rw[h.1];exact hr)⟩),w9 h.2⟩
theorem sO:∀l:List Tm,l.length<=mF l
 |[]=>by simp[mF]
 |k::l=>by have:=sO l;have:=Tm.nn k;rw[dL,List.length_cons];omega
end Go.Proofs.YtealblliddhgiaaGreat
namespace Go.Proofs.YtealblliddhgiaaGreat
theorem Tm.gQ {t k:Tm}(hk:k∈t.kids):k.sz+1<=t.sz:=by
 have:=Tm.wY hk
 rw[Tm.uB,Tm.uB]at this
 omega
theorem Tm.ra:∀t:Tm,t.ck<=t.sz:=by
 refine Tm.eO fun t ih=> ?_
 have h:Tm.dQ t.kids<=t.sz - 1:=(sN _ _).2 fun k hk=>by have:=ih k hk;have:=Tm.gQ hk;omega
 have:=Tm.nn t
 rw[Tm.ec]
 omega
theorem Tm.fm:∀t:Tm,t.sz<=1000000->t.fits:=by
 refine Tm.eO fun t ih h=> ?_
 rw[Tm.bR]
 refine⟨?_,fun k hk=>ih k hk (by have:=Tm.gQ hk;omega)⟩
 have:=sO t.kids
 rw[Tm.iQ]at h
 omega
theorem Eh:∀t:Tm,(yY t).length<=t.sz:=by
 refine Tm.eO fun t ih=> ?_
 have hl:∀l:List Tm,(∀k∈l,k∈t.kids)->(yx l).length<=mF l:=by
  intro l
  induction l with
  |nil=>intro _;simp[yx,mF]
  |cons k l AX=>
   intro h
   have:=ih k (h k (by simp))
   have:=AX fun x hx=>h x (by simp[hx])
   simp only[yx,List.length_append,dL]
   omega
 have:=hl t.kids fun _ h=>h
 rw[Ik,Tm.iQ,List.length_append]
 split<;>simp<;>omega
def sP(b:List (Int×Tm)):List (Int×D):=b.map fun p=>(p.1,p.2.d)
@[reducible] def vh (b:List (Int×Tm)):D:=QQ (sP b)
theorem uM:∀ (m:List (Int×Tm)) (v:Int) (i:Nat),(match iP v (sP m) i with|some (_,x)=>some x|none=>none)=(bz m v).map Tm.d
 |[],_,_=>rfl
 |p::m,v,i=>by
  have ih:=uM m v (i+1)
  simp only[sP,List.map_cons,iP,bz]at ih|-
  by_cases h:v=p.1
  ·subst h;simp
  ·have h2: ¬p.1=v:=fun e=>h e.symm
   simp only[beq_iff_eq,h,h2,if_false]
   exact ih
theorem eA{m:List (Int×Tm)}{v:Int}{x:Tm}(h:bz m v=some x):∃j,iP v (sP m) 0=some (j,x.d):=by
 have:=uM m v 0
 rw[h]at this
 cases h2:iP v (sP m) 0 with
 |none=>rw[h2]at this;cases this
 |some p=>obtain⟨j,y⟩:=p;rw[h2]at this;simp at this;subst this;exact⟨j,rfl⟩
theorem dz{m:List (Int×Tm)}{v:Int}(h:bz m v=none):iP v (sP m) 0=none:=by
 have:=uM m v 0
 rw[h]at this
 cases h2:iP v (sP m) 0 with
 |none=>rfl
 |some p=>rw[h2]at this;cases this
theorem Ei(o:Nat->ae)(b:List (Int×Tm))(v:Int):iE Tryz.prog o 78 (.d (vh b)) (.d (.int .i64 v)) true=some (match bz b v with|some x=> .bS [.d x.d, .d (.bool true)]|none=> .bS [.agg [.d (.i 0), .d (.i 0), .bn], .d (.bool false)],[],[]):=by
 cases h:bz b v with
 |none=>
  simp+contextual (disch:=first|omega|simp only[go_sem,false_implies]) only[go_sem,wrap64,if_pos,kz,dz h]
 |some x=>
  obtain⟨j,hj⟩:=eA h
  simp+contextual (disch:=first|omega|simp only[go_sem,false_implies]) only[go_sem,wrap64,if_pos,kz,hj]
structure K6 (b:List (Int×Tm)):Prop where
 keys:(b.map (·.1)).Nodup
 len:b.length<=1000
 sz:∀p∈b,p.2.sz<=1000
 cp:∀p∈b,bJ Tryz.prog 53 [vh [],p.2.d] (.ret [p.2.d])
def C5(t:Tm):Prop:=∀b,K6 b->bJ Tryz.prog 53 [vh b,t.d] (.ret [(bO t.ck b t).d])
def Ej:IC:=SU.snd.snd.snd.snd.fst.snd.fst.fst
def Iq(b:List (Int×Tm))(k:Tm):Tm:=bO k.ck b k
theorem Ek{t:Tm}{b:List (Int×Tm)}(hz:t.sz<=1000)(ih:∀k∈t.kids,C5 k)(hb:K6 b){o:Nat->ae}{c r:Nat}{op' N:Int}{e:Nat->V}{Q:fy->S->Prop}
 (hg:Good o c) (hc:r<c) (h1c:1<c) (oo:o r= .row [.d (.i op'), .d (.i N), .bn])
 (he:fG c e [.d (vh b), .ab, .ab, .ptr 0 0, .ptr 1 0, .ab, .ab, .ptr r 0, .ab, .ab, .ab, .ab, .ab, .ab, .ab, .ab, .ab, .ab, .ab, .ab, .ab, .ab, .ab, .ab, .ab, .ab, .ab, .ab, .ab, .ab, .ab, .ab, .ab, .ab, .ab, .ab, .ab, .ab, .d (.sl (t.kids.map Tm.d)), .d (.i t.kids.length), .d (.i 0)] 0)
 (hQ:∀e' o' nx',e' 4= .ptr 1 0->e' 7= .ptr r 0->c<=nx'->Good o' nx'->o' r= .row [.d (.i op'), .d (.i N), .osl c 0]->o' c= .arr 0 28 3 ((t.kids.map (Iq b)).map Tm.d)->(∀j,j<c->j≠r->o' j=o j)->Q (.exit 0) ⟨e',o',nx'⟩):
 od 0 (fun Q s=>kq Tryz.prog 54 0 false Ej Q s) Q ⟨e,o,c⟩:=by
 have hlen:=sO t.kids
 have eg:mF t.kids<=1000:=by rw[Tm.iQ]at hz;omega
 refine aW (fun i:Nat=>⟨bw [.d (vh b), .ab, .ab, .ptr 0 0, .ptr 1 0, .ab, .ab, .ptr r 0, .ab, .ab, .ab, .ab, .ab, .ab, .ab, .ab, .ab, .ab, .ab, .ab, .ab, .ab, .ab, .ab, .ab, .ab, .ab, .ab, .ab, .ab, .ab, .ab, .ab, .ab, .ab, .ab, .ab, .ab, .d (.sl (t.kids.map Tm.d)), .d (.i t.kids.length), .d (.i i)],ak (ak o r (.row [.d (.i op'), .d (.i N), .osl c 0])) c (.arr 0 28 3 (((t.kids.take i).map (Iq b)).map Tm.d)),c+1⟩)
  (fun i=>i<=t.kids.length) (fun i=>t.kids.length - i) 0 (Nat.zero_le _) (bW.yn (ty:=28) (sz:=3) (es:=[]) (fun _=>False) .bn c _ (by omega) (fun j hj=> ?_) (by rw[aa];simp) (.inl ⟨rfl,rfl,by decide⟩) (fun j hj=> ?_) (fun _ h=>h.elim) (w9 he)) ?_
 ·by_cases e1:j=r
  ·subst e1
   exact gP oo (by(repeat(first|rfl|rw[aa]|rw[ad _ _ _ _ (by omega)]))) (lB rfl (kO (kO (yk 0 rfl rfl rfl lA))))
  ·exact gP rfl (by(repeat(first|rfl|rw[aa]|rw[ad _ _ _ _ (by omega)]))) (jv rfl (fun r hr=>hg.refs j r hr))
 ·(repeat(first|rfl|rw[aa]|rw[ad _ _ _ _ (by omega)]))
  exact hg.fresh j (by omega)
 rintro k hk
 have hk:k<=t.kids.length:=hk
 have y1:r≠c:=by omega
 have y2:∀k,r≠c+k:=fun k=>by omega
 simp only[Ej,SU,IC.snd,IC.fst]
 simp+contextual (disch:=first|omega|simp only[go_sem,false_implies]) only[go_sem,wrap64,if_pos,oo,y1,y2,Nat.add_assoc,Nat.left_eq_add,Nat.add_eq_left,Nat.add_left_cancel_iff,List.length_map]
 refine ay (fun h2=> ?_) (fun h2=> ?_)
 ·simp at h2
  obtain⟨x,hx⟩:=aX h2
  have kx:=List.mem_of_getElem? hx
  simp+contextual (disch:=first|omega|simp only[go_sem,false_implies]) only[go_sem,wrap64,if_pos,oo,y1,y2,Nat.add_assoc,Nat.left_eq_add,Nat.add_eq_left,Nat.add_left_cancel_iff,List.length_map,hx]
  refine cD (rs:=[(Iq b x).d]) (ih x kx b hb) ?_
  have e0:(t.kids.take k).length=k:=by rw[List.length_take];omega
  simp+contextual (disch:=first|omega|simp only[go_sem,false_implies]) only[go_sem,wrap64,if_pos,oo,y1,y2,Nat.add_assoc,Nat.left_eq_add,Nat.add_eq_left,Nat.add_left_cancel_iff,List.length_map,e0]
  refine aR (rR (ids:=[r,c,c+4]) (nx:=c+10) (by simp;omega) (by simp;omega) [([0],[]),([0],[]),([],[]),([2],[]),([],[]),([],[4]),([1,4],[1]),([0],[]),([0,1],[0])] (by decide)) ?_
  simp+contextual (disch:=first|omega|simp only[go_sem,false_implies]) only[go_sem,wrap64,if_pos,Nat.add_assoc,Nat.left_eq_add,Nat.add_eq_left,Nat.add_left_cancel_iff]
  have V1:t.kids.take (k+1)=t.kids.take k++[x]:=by rw[List.take_add_one,hx];rfl
  refine aB (k+1) h2 (by omega) (bW.yn (fun j=>j=c) (.osl c 1) c _ (by omega) (fun j hj=> ?_) (aa _ _ _) (.inr ⟨c,1,rfl,rfl,by(repeat(first|rfl|rw[aa]|rw[ad _ _ _ _ (by omega)]));rw[V1,List.map_append,List.map_append];rfl⟩) (fun j hj=> ?_) (fun j h h2=>by omega) ?_)
  ·by_cases e1:j=r
   ·subst e1
    exact gP (y:= .row [.d (.i op'), .d (.i N), .osl c 1]) (by(repeat(first|rfl|rw[aa]|rw[ad _ _ _ _ (by omega)]))) (by(repeat(first|rfl|rw[aa]|rw[ad _ _ _ _ (by omega)]))) (lB rfl (kO (kO (yk 0 rfl rfl rfl lA))))
   ·exact gP (y:=o j) (by(repeat(first|rfl|rw[aa]|rw[ad _ _ _ _ (by omega)]))) (by(repeat(first|rfl|rw[aa]|rw[ad _ _ _ _ (by omega)]))) (jv rfl (fun r hr=>hg.refs j r hr))
  ·(repeat(first|rfl|rw[aa]|rw[ad _ _ _ _ (by omega)]))
   exact hg.fresh j (by omega)
  ·(repeat(first|exact gH|refine fl ?_|refine eG rfl ?_|refine eG (aQ (aP (by omega))) ?_|refine mf 0 rfl rfl rfl ?_|refine me rfl (by simp[V.refs,V.ag]<;>first|omega|assumption) ?_|refine mg rfl (by simp[V.ids]<;>omega) ?_))
 ·simp at h2
  simp+contextual (disch:=first|omega|simp only[go_sem,false_implies]) only[go_sem,wrap64,if_pos,and_self]
  have PT:k=t.kids.length:=by omega
  subst PT
  refine hQ _ _ _ rfl rfl ?_ ?_ ?_ ?_ (fun j g1 g2=> ?_)
  ·omega
  ·exact(by repeat(first|exact hg.mono (by omega)|exact Good.nil|refine Good.ak ?_ (by omega) rfl|refine Good.ak ?_ (by omega) (bV _ _ _ (by omega))|refine Good.ak ?_ (by omega) (by simp[ae.refs,V.ag,V.refs]<;>omega)))
  ·(repeat(first|rfl|rw[aa]|rw[ad _ _ _ _ (by omega)]))
  ·(repeat(first|rfl|rw[aa]|rw[ad _ _ _ _ (by omega)]))
   rw[List.take_length]
  ·(repeat(first|rfl|rw[aa]|rw[ad _ _ _ _ (by omega)]))
end Go.Proofs.YtealblliddhgiaaGreat
namespace Go.Proofs.YtealblliddhgiaaGreat
theorem xa{t:Tm}{b:List (Int×Tm)}(hw:t.wf)(h8:t.op≠8)(h1:t.op=1->bz b t.n=none):Tm.mk t.op t.n (t.kids.map (Iq b))=bO t.ck b t:=by
 have ml:=(Tm.iB t).1 hw
 have hh:t.ck=Tm.dQ t.kids+1:=by rw[Tm.ec];omega
 have hk:t.kids.map (Iq b)=t.kids.map (bO (Tm.dQ t.kids) b):=List.map_congr_left fun k hk=>dM _ _ k b (ml.2.2 k hk) (Nat.le_refl _) (Tm.tV hk)
 rw[hk,hh]
 simp only[bO]
 by_cases e:t.op=1
 ·rw[if_pos e,h1 e]
  have:=ml.1 e
  rw[this]
  have h2:=Tm.eta t
  rw[this]at h2
  exact h2
 ·rw[if_neg e,if_neg h8]
theorem Ir{t x:Tm}{b:List (Int×Tm)}(h1:t.op=1)(hl:bz b t.n=some x):bO t.ck b t=x:=by
 have hh:t.ck=Tm.dQ t.kids+1:=by rw[Tm.ec];omega
 rw[hh]
 simp only[bO]
 rw[if_pos h1,hl]
theorem Bn{t:Tm}(hw:t.wf)(hz:t.sz<=1000)(ih:∀k∈t.kids,C5 k)(UH:t.op=8->∀b,K6 b->bJ Tryz.prog 91 [vh b,t.d] (.ret [(bO t.ck b t).d])):C5 t:=by
 intro b hb
 refine bJ.aZ mix SV (by simp) ?_
 rw[SU]
 cases hl:bz b t.n with
 |some x=>
  simp+contextual (disch:=first|omega|simp only[go_sem,false_implies]) only[go_sem,wrap64,if_pos,Ei,hl]
  refine ay (fun h1=> ?_) (fun h1=> ?_)
  ·have nI:t.op=1:=by simpa using h1
   rw[Ir nI hl]
   simp+contextual (disch:=first|omega|simp only[go_sem,false_implies]) only[go_sem,wrap64,if_pos,and_self]
   refine aU (hb.cp _ (fN hl)) ?_
   simp+contextual (disch:=first|omega|simp only[go_sem,false_implies]) only[go_sem,wrap64,if_pos,and_self]
  ·have nI:t.op≠1:=by simpa using h1
   simp+contextual (disch:=first|omega|simp only[go_sem,false_implies]) only[go_sem,wrap64,if_pos,and_self]
   refine ay (fun h8=> ?_) (fun h8=> ?_)
   ·have PC:t.op=8:=by simpa using h8
    simp+contextual (disch:=first|omega|simp only[go_sem,false_implies]) only[go_sem,wrap64,if_pos,and_self]
    refine aU (UH PC b hb) ?_
    simp+contextual (disch:=first|omega|simp only[go_sem,false_implies]) only[go_sem,wrap64,if_pos,and_self]
   ·have PC:t.op≠8:=by simpa using h8
    simp+contextual (disch:=first|omega|simp only[go_sem,false_implies]) only[go_sem,wrap64,if_pos,and_self]
    rw[<- xa hw PC (fun e=>absurd e nI)]
    refine Ek (b:=b) (c:=32) (r:=26) (op':=t.op) (N:=t.n) hz ih hb (by repeat(first|exact hg.mono (by omega)|exact Good.nil|refine Good.ak ?_ (by omega) rfl|refine Good.ak ?_ (by omega) (bV _ _ _ (by omega))|refine Good.ak ?_ (by omega) (by simp[ae.refs,V.ag,V.refs]<;>omega))) (by decide) (by decide) (by(repeat(first|rfl|rw[aa]|rw[ad _ _ _ _ (by omega)]))) ?_ fun e' o' nx' e4 e7 g1 g2 g3 g4 g5=> ?_
    ·(repeat(first|exact aq|refine ai ?_|refine ah rfl ?_|refine ah (aQ (aP (by omega))) ?_|refine aA rfl (by simp[V.refs,V.ag]<;>first|omega|assumption) ?_))
    have q1:o' 1= .row [.d (.i 0), .d (.i 0), .bn]:=by rw[g5 1 (by decide) (by decide)];(repeat(first|rfl|rw[aa]|rw[ad _ _ _ _ (by omega)]))
    simp+contextual (disch:=first|omega|simp only[go_sem,false_implies]) only[go_sem,wrap64,if_pos,e4,e7,g3,g4,q1]
    rw[Tm.vy]
 |none=>
  simp+contextual (disch:=first|omega|simp only[go_sem,false_implies]) only[go_sem,wrap64,if_pos,Ei,hl]
  refine ay (fun h8=> ?_) (fun h8=> ?_)
  ·have PC:t.op=8:=by simpa using h8
   simp+contextual (disch:=first|omega|simp only[go_sem,false_implies]) only[go_sem,wrap64,if_pos,and_self]
   refine aU (UH PC b hb) ?_
   simp+contextual (disch:=first|omega|simp only[go_sem,false_implies]) only[go_sem,wrap64,if_pos,and_self]
  ·have PC:t.op≠8:=by simpa using h8
   simp+contextual (disch:=first|omega|simp only[go_sem,false_implies]) only[go_sem,wrap64,if_pos,and_self]
   rw[<- xa hw PC (fun _=>hl)]
   refine Ek (b:=b) (c:=32) (r:=26) (op':=t.op) (N:=t.n) hz ih hb (by repeat(first|exact hg.mono (by omega)|exact Good.nil|refine Good.ak ?_ (by omega) rfl|refine Good.ak ?_ (by omega) (bV _ _ _ (by omega))|refine Good.ak ?_ (by omega) (by simp[ae.refs,V.ag,V.refs]<;>omega))) (by decide) (by decide) (by(repeat(first|rfl|rw[aa]|rw[ad _ _ _ _ (by omega)]))) ?_ fun e' o' nx' e4 e7 g1 g2 g3 g4 g5=> ?_
   ·(repeat(first|exact aq|refine ai ?_|refine ah rfl ?_|refine ah (aQ (aP (by omega))) ?_|refine aA rfl (by simp[V.refs,V.ag]<;>first|omega|assumption) ?_))
   have q1:o' 1= .row [.d (.i 0), .d (.i 0), .bn]:=by rw[g5 1 (by decide) (by decide)];(repeat(first|rfl|rw[aa]|rw[ad _ _ _ _ (by omega)]))
   simp+contextual (disch:=first|omega|simp only[go_sem,false_implies]) only[go_sem,wrap64,if_pos,e4,e7,g3,g4,q1]
   rw[Tm.vy]
end Go.Proofs.YtealblliddhgiaaGreat
namespace Go.Proofs.YtealblliddhgiaaGreat
theorem rb{K:V->List (Nat×ae)->Prop}{id:Nat}{m:List (Int×Tm)}(h0:m=[]->K (.bS [.d (.bool false)]) [])
 (h1:∀ (i:Nat) k x,m[i]? =some (k,x)->K (.bS [.d (.bool true), .d (.int .i64 k), .d x.d]) [(id, .kW (enc (D.int .i64) (sP (m.eraseIdx i))) (some (.int .i64 k,x.d)))]):Aj K id (enc (D.int .i64) (sP m)):=by
 refine wT _ (fun h=>h0 ?_) fun i k x h=> ?_
 ·cases m with
  |nil=>rfl
  |cons x l=>simp[sP]at h
 ·unfold sP at h|-
  rw[List.getElem?_map]at h
  cases hm:m[i]? with
  |none=>rw[hm]at h;cases h
  |some p=>
   rw[hm]at h
   simp at h
   obtain⟨rfl,rfl⟩:=h
   have:=h1 i p.1 p.2 (by rw[hm])
   rw[gL]
   exact this
@[reducible] def cI (m:List (Int×Tm)):ae:= .map 3 28 (enc (D.int .i64) (sP m))
theorem iS{m:List (Int×Tm)}{v:Int}{x:Tm}(h:bz m v=none):FG v x.d (sP m)=sP (m++[(v,x)]):=by
 unfold FG
 rw[dz h]
 simp[sP]
theorem yC(t:Tm)(v:Int):(ct t).contains v=eL v t:=by
 rw[Bool.eq_iff_iff,List.contains_iff_mem]
 exact(cL t).2 v
def MR:IC:=Mt.snd.snd.snd.snd.snd.fst.snd.fst.fst
theorem Is(l:List (Int×Tm))(p:Int×Tm)(body:Tm)(n:Int):nu (l++[p]) body n=(nu l body n||(eL p.1 body&&eL n p.2)):=by simp[nu]
theorem Bo(l:List (Int×Tm))(p:Int×Tm)(n:Int):cY (l++[p]) n=if p.1=n then cY l n else cY l n++[p]:=by
 unfold cY
 rw[List.filter_append]
 by_cases h:p.1=n
 ·simp[h]
 ·simp[h]
theorem UI{t body:Tm}{b:List (Int×Tm)}(hb:K6 b){o:Nat->ae}{e:Nat->V}{Q:fy->S->Prop}
 (hg:Good o 29) (o0:o 0= .row t.row) (om:o 15=cI []) (oi:o 28= .kW (enc (D.int .i64) (sP b)) none)
 (he:fG 29 e [.d (vh b), .ab, .ab, .ptr 0 0, .ptr 1 0, .ptr 13 0, .mp 15, .ptr 20 0, .d (QQ (eH (ct body))), .d (.bool false), .ab, .ab, .ab, .ab, .ab, .ab, .ab, .ab, .ab, .ab, .ab, .ab, .ab, .ab, .ab, .ab, .ab, .ab, .ab, .ab, .ab, .ab, .ab, .ab, .ptr 28 0] 0)
 (hQ:∀e' o' nx' gV,e' 0= .d (vh b)->e' 3= .ptr 0 0->e' 4= .ptr 1 0->e' 5= .ptr 13 0->e' 6= .mp 15->e' 7= .ptr 20 0->e' 9= .d (.bool (nu (cY b t.n) body t.n))->29<=nx'->Good o' nx'->(∀j,j<29->j≠15->j≠28->o' j=o j)->o' 15=cI (cY gV t.n)->gV.Perm b->Q (.exit 0) ⟨e',o',nx'⟩):
 od 0 (fun Q s=>kq Tryz.prog 102 0 false MR Q s) Q ⟨e,o,29⟩:=by
 refine aW (fun i:List (Int×Tm)×List (Int×Tm)×Option (D×D)=>⟨bw [.d (vh b), .ab, .ab, .ptr 0 0, .ptr 1 0, .ptr 13 0, .mp 15, .ptr 20 0, .d (QQ (eH (ct body))), .d (.bool (nu (cY i.2.1 t.n) body t.n)), .ab, .ab, .ab, .ab, .ab, .ab, .ab, .ab, .ab, .ab, .ab, .ab, .ab, .ab, .ab, .ab, .ab, .ab, .ab, .ab, .ab, .ab, .ab, .ab, .ptr 28 0],ak (ak o 15 (cI (cY i.2.1 t.n))) 28 (.kW (enc (D.int .i64) (sP i.1)) i.2.2),29⟩)
  (fun i=>(i.2.1++i.1).Perm b) (fun i=>i.1.length) (b,[],none) (List.Perm.refl _) ?_ ?_
 ·dsimp only
  refine bW.bE _ (by decide) (Nat.le_refl _) ?_ (fun j hj=> ?_) he
  ·exact(by repeat(first|exact hg.mono (by omega)|exact Good.nil|refine Good.ak ?_ (by omega) rfl|refine Good.ak ?_ (by omega) (bV _ _ _ (by omega))|refine Good.ak ?_ (by omega) (by simp[ae.refs,V.ag,V.refs]<;>omega)))
  ·by_cases e1:j=28
   ·subst e1;rw[aa];exact oi
   ·rw[ad _ _ _ _ e1]
    by_cases e2:j=15
    ·subst e2;rw[aa];exact om
    ·rw[ad _ _ _ _ e2]
 rintro⟨rest,gV,last⟩ hp
 replace hp:(gV++rest).Perm b:=hp
 dsimp only
 simp only[MR,Mt,IC.snd,IC.fst]
 simp+contextual (disch:=first|omega|simp only[go_sem,false_implies]) only[go_sem,wrap64,if_pos,o0]
 refine rb (fun hr=> ?_) fun i k x hm=> ?_
 ·subst hr
  simp+contextual (disch:=first|omega|simp only[go_sem,false_implies]) only[go_sem,wrap64,if_pos,and_self]
  have GV:gV.Perm b:=by simpa using hp
  have hc:nu (cY gV t.n) body t.n=nu (cY b t.n) body t.n:=Bm _ (GV.filter _)
  refine hQ _ _ _ gV ?_ ?_ ?_ ?_ ?_ ?_ ?_ ?_ ?_ (fun j g1 g2 g3=> ?_) ?_ GV
  ·rfl
  ·rfl
  ·rfl
  ·rfl
  ·rfl
  ·rfl
  ·rw[<- hc];rfl
  ·omega
  ·exact(by repeat(first|exact hg.mono (by omega)|exact Good.nil|refine Good.ak ?_ (by omega) rfl|refine Good.ak ?_ (by omega) (bV _ _ _ (by omega))|refine Good.ak ?_ (by omega) (by simp[ae.refs,V.ag,V.refs]<;>omega)))
  ·(repeat(first|rfl|rw[aa]|rw[ad _ _ _ _ (by omega)]))
  ·(repeat(first|rfl|rw[aa]|rw[ad _ _ _ _ (by omega)]))
 ·have BT:(gV++[(k,x)]++rest.eraseIdx i).Perm b:=by
   rw[List.append_assoc]
   exact(List.Perm.append_left _ (mi hm)).trans hp
  have Ns:(k,x)∈b:=BT.mem_iff.1 (by simp)
  have hxz:x.sz<=1000:=hb.sz _ Ns
  have PD:bz (cY gV t.n) k=none:=by
   rw[gO]
   intro h3
   have h4:k∈gV.map (·.1):=by
    obtain⟨p,h5,h6⟩:=List.mem_map.1 h3
    exact List.mem_map.2 ⟨p,(List.mem_filter.1 h5).1,h6⟩
   have h5:=(BT.map (·.1)).nodup_iff.2 hb.keys
   rw[List.map_append,List.map_append,List.nodup_append,List.nodup_append]at h5
   exact h5.1.2.2 k h4 k (by simp) rfl
  have hlen:(rest.eraseIdx i).length<rest.length:=by
   obtain⟨hi,_⟩:=List.getElem?_eq_some_iff.1 hm
   rw[List.length_eraseIdx];simp[hi];omega
  simp+contextual (disch:=first|omega|simp only[go_sem,false_implies]) only[go_sem,wrap64,if_pos,o0]
  refine ay (fun h2=> ?_) (fun h2=> ?_)
  ·have u6:k≠t.n:=by simpa using h2
   have mz:cY (gV++[(k,x)]) t.n=cY gV t.n++[(k,x)]:=by rw[Bo,if_neg u6]
   have UJ:nu (cY (gV++[(k,x)]) t.n) body t.n=(nu (cY gV t.n) body t.n||(eL k body&&eL t.n x)):=by rw[mz,Is]
   have Y4:∀ (e':Nat->V) (o':Nat->ae) (n':Nat) (c:Bool),c=nu (cY (gV++[(k,x)]) t.n) body t.n->Good o' n'->29<=n'->(∀j,j<29->j≠15->j≠28->o' j=o j)->o' 15=cI (cY (gV++[(k,x)]) t.n)->o' 28= .kW (enc (D.int .i64) (sP (rest.eraseIdx i))) (some (.int .i64 k,x.d))->
    fG 29 e' [.d (vh b), .ab, .ab, .ptr 0 0, .ptr 1 0, .ptr 13 0, .mp 15, .ptr 20 0, .d (QQ (eH (ct body))), .d (.bool c), .ab, .ab, .ab, .ab, .ab, .ab, .ab, .ab, .ab, .ab, .ab, .ab, .ab, .ab, .ab, .ab, .ab, .ab, .ab, .ab, .ab, .ab, .ab, .ab, .ptr 28 0] 0->
    Ao 0 (fun i=>⟨bw [.d (vh b), .ab, .ab, .ptr 0 0, .ptr 1 0, .ptr 13 0, .mp 15, .ptr 20 0, .d (QQ (eH (ct body))), .d (.bool (nu (cY i.2.1 t.n) body t.n)), .ab, .ab, .ab, .ab, .ab, .ab, .ab, .ab, .ab, .ab, .ab, .ab, .ab, .ab, .ab, .ab, .ab, .ab, .ab, .ab, .ab, .ab, .ab, .ab, .ptr 28 0],ak (ak o 15 (cI (cY i.2.1 t.n))) 28 (.kW (enc (D.int .i64) (sP i.1)) i.2.2),29⟩) (fun i:List (Int×Tm)×List (Int×Tm)×Option (D×D)=>(i.2.1++i.1).Perm b) (fun i=>i.1.length) (rest,gV,last) ⟨e',o',n'⟩:=by
    intro e' o' n' c hc Ie hn hold h15 h28 fw
    subst hc
    refine aB (rest.eraseIdx i,gV++[(k,x)],some (.int .i64 k,x.d)) BT hlen (bW.bE _ (by decide) hn ?_ (fun j hj=> ?_) fw)
    ·dsimp only;exact(by repeat(first|exact hg.mono (by omega)|exact Good.nil|refine Good.ak ?_ (by omega) rfl|refine Good.ak ?_ (by omega) (bV _ _ _ (by omega))|refine Good.ak ?_ (by omega) (by simp[ae.refs,V.ag,V.refs]<;>omega)))
    ·dsimp only
     by_cases e1:j=28
     ·subst e1;rw[aa];exact h28
     ·rw[ad _ _ _ _ e1]
      by_cases e2:j=15
      ·subst e2;rw[aa];exact h15
      ·rw[ad _ _ _ _ e2];exact hold j hj e2 e1
   cases hc:nu (cY gV t.n) body t.n with
   |true=>
    simp+contextual (disch:=first|omega|simp only[go_sem,false_implies]) only[go_sem,wrap64,if_pos,o0,iS PD,hc,kz,yC]
    refine aR (by decide) ?_
    simp+contextual (disch:=first|omega|simp only[go_sem,false_implies]) only[go_sem,wrap64,if_pos,and_self]
    refine Y4 _ _ _ true (by rw[UJ,hc];rfl) (by repeat(first|exact hg.mono (by omega)|exact Good.nil|refine Good.ak ?_ (by omega) rfl|refine Good.ak ?_ (by omega) (bV _ _ _ (by omega))|refine Good.ak ?_ (by omega) (by simp[ae.refs,V.ag,V.refs]<;>omega))) (by omega) (fun j g1 g2 g3=>by(repeat(first|rfl|rw[aa]|rw[ad _ _ _ _ (by omega)]))) (by rw[mz];(repeat(first|rfl|rw[aa]|rw[ad _ _ _ _ (by omega)]))) (by(repeat(first|rfl|rw[aa]|rw[ad _ _ _ _ (by omega)]))) ?_
    (repeat(first|exact aq|refine ai ?_|refine ah rfl ?_|refine ah (aQ (aP (by omega))) ?_|refine aA rfl (by simp[V.refs,V.ag]<;>first|omega|assumption) ?_))
   |false=>
    cases hf:eL k body with
    |false=>
     simp+contextual (disch:=first|omega|simp only[go_sem,false_implies]) only[go_sem,wrap64,if_pos,o0,iS PD,hc,hf,kz,yC]
     refine aR (by decide) ?_
     simp+contextual (disch:=first|omega|simp only[go_sem,false_implies]) only[go_sem,wrap64,if_pos,and_self]
     refine Y4 _ _ _ false (by rw[UJ,hc,hf];rfl) (by repeat(first|exact hg.mono (by omega)|exact Good.nil|refine Good.ak ?_ (by omega) rfl|refine Good.ak ?_ (by omega) (bV _ _ _ (by omega))|refine Good.ak ?_ (by omega) (by simp[ae.refs,V.ag,V.refs]<;>omega))) (by omega) (fun j g1 g2 g3=>by(repeat(first|rfl|rw[aa]|rw[ad _ _ _ _ (by omega)]))) (by rw[mz];(repeat(first|rfl|rw[aa]|rw[ad _ _ _ _ (by omega)]))) (by(repeat(first|rfl|rw[aa]|rw[ad _ _ _ _ (by omega)]))) ?_
     (repeat(first|exact aq|refine ai ?_|refine ah rfl ?_|refine ah (aQ (aP (by omega))) ?_|refine aA rfl (by simp[V.refs,V.ag]<;>first|omega|assumption) ?_))
    |true=>
     simp+contextual (disch:=first|omega|simp only[go_sem,false_implies]) only[go_sem,wrap64,if_pos,o0,iS PD,hc,hf,kz,yC]
     refine cD (Bk x (Tm.fm x (by omega))) ?_
     simp+contextual (disch:=first|omega|simp only[go_sem,false_implies]) only[go_sem,wrap64,if_pos,o0,hf,kz,yC]
     refine aR (by decide) ?_
     simp+contextual (disch:=first|omega|simp only[go_sem,false_implies]) only[go_sem,wrap64,if_pos,and_self]
     refine Y4 _ _ _ (eL t.n x) (by rw[UJ,hc,hf];simp) (by repeat(first|exact hg.mono (by omega)|exact Good.nil|refine Good.ak ?_ (by omega) rfl|refine Good.ak ?_ (by omega) (bV _ _ _ (by omega))|refine Good.ak ?_ (by omega) (by simp[ae.refs,V.ag,V.refs]<;>omega))) (by omega) (fun j g1 g2 g3=>by(repeat(first|rfl|rw[aa]|rw[ad _ _ _ _ (by omega)]))) (by rw[mz];(repeat(first|rfl|rw[aa]|rw[ad _ _ _ _ (by omega)]))) (by(repeat(first|rfl|rw[aa]|rw[ad _ _ _ _ (by omega)]))) ?_
     (repeat(first|exact aq|refine ai ?_|refine ah rfl ?_|refine ah (aQ (aP (by omega))) ?_|refine aA rfl (by simp[V.refs,V.ag]<;>first|omega|assumption) ?_))
  ·have u6:k=t.n:=by simpa using h2
   have mz:cY (gV++[(k,x)]) t.n=cY gV t.n:=by rw[Bo,if_pos u6]
   simp+contextual (disch:=first|omega|simp only[go_sem,false_implies]) only[go_sem,wrap64,if_pos,o0]
   refine aB (rest.eraseIdx i,gV++[(k,x)],some (.int .i64 k,x.d)) BT hlen (bW.bE _ (by decide) (by omega) ?_ (fun j hj=> ?_) ?_)
   ·dsimp only;exact(by repeat(first|exact hg.mono (by omega)|exact Good.nil|refine Good.ak ?_ (by omega) rfl|refine Good.ak ?_ (by omega) (bV _ _ _ (by omega))|refine Good.ak ?_ (by omega) (by simp[ae.refs,V.ag,V.refs]<;>omega)))
   ·dsimp only
    rw[mz]
    by_cases e1:j=28
    ·subst e1;(repeat(first|rfl|rw[aa]|rw[ad _ _ _ _ (by omega)]))
    ·by_cases e2:j=15
     ·subst e2;(repeat(first|rfl|rw[aa]|rw[ad _ _ _ _ (by omega)]))
     ·(repeat(first|rfl|rw[aa]|rw[ad _ _ _ _ (by omega)]))
   ·dsimp only
    rw[mz]
    (repeat(first|exact aq|refine ai ?_|refine ah rfl ?_|refine ah (aQ (aP (by omega))) ?_|refine aA rfl (by simp[V.refs,V.ag]<;>first|omega|assumption) ?_))
end Go.Proofs.YtealblliddhgiaaGreat
namespace Go.Proofs.YtealblliddhgiaaGreat
def El:IC:=Mt.snd.snd.snd.snd.snd.snd.fst.snd.fst
def MT:IC:=El.snd.snd.fst.snd.fst.fst
def MU:IC:=El.snd.snd.snd.fst.snd.fst.fst
theorem UK{b:List (Int×Tm)}(hb:K6 b){o:Nat->ae}{e:Nat->V}{Q:fy->S->Prop}{c tid it:Nat}{s0:List Int}(hc:29<=c)(ht:tid<c)(hi:it<c)(hn:tid≠it)
 (hg:Good o c) (ot:o tid=jV s0) (rD:s0.Nodup) (oi:o it= .kW (enc (D.int .i64) (sP b)) none)
 (he:fG c e [.d (vh b), .ab, .ab, .ptr 0 0, .ptr 1 0, .ptr 13 0, .mp 15, .ptr 20 0, .ab, .ab, .ab, .ab, .mp tid, .ab, .ab, .ab, .ab, .ab, .ab, .ab, .ab, .ab, .ab, .ab, .ab, .ab, .ab, .ab, .ab, .ab, .ab, .ab, .ab, .ab, .ab, .ab, .ab, .ab, .ab, .ab, .ab, .ab, .ab, .ab, .ab, .ab, .ab, .ab, .ab, .ab, .ab, .ab, .ab, .ab, .ab, .ab, .ab, .ab, .ab, .ab, .ab, .ab, .ab, .ab, .ab, .ab, .ptr it 0] 0)
 (hQ:∀e' o' nx' s',e' 0= .d (vh b)->e' 3= .ptr 0 0->e' 4= .ptr 1 0->e' 5= .ptr 13 0->e' 6= .mp 15->e' 7= .ptr 20 0->e' 12= .mp tid->c<=nx'->Good o' nx'->(∀j,j<c->j≠tid->j≠it->o' j=o j)->o' tid=jV s'->(∀v,v∈s'↔v∈s0\/∃p∈b,v=p.1\/v∈yY p.2)->Q (.exit 2) ⟨e',o',nx'⟩):
 od 0 (fun Q s=>kq Tryz.prog 102 0 false MT Q s) Q ⟨e,o,c⟩:=by
 have u9:it≠tid:=fun h=>hn h.symm
 refine aW (fun i:List (Int×Tm)×List Int×Option (D×D)=>⟨bw [.d (vh b), .ab, .ab, .ptr 0 0, .ptr 1 0, .ptr 13 0, .mp 15, .ptr 20 0, .ab, .ab, .ab, .ab, .mp tid, .ab, .ab, .ab, .ab, .ab, .ab, .ab, .ab, .ab, .ab, .ab, .ab, .ab, .ab, .ab, .ab, .ab, .ab, .ab, .ab, .ab, .ab, .ab, .ab, .ab, .ab, .ab, .ab, .ab, .ab, .ab, .ab, .ab, .ab, .ab, .ab, .ab, .ab, .ab, .ab, .ab, .ab, .ab, .ab, .ab, .ab, .ab, .ab, .ab, .ab, .ab, .ab, .ab, .ptr it 0],ak (ak o tid (jV i.2.1)) it (.kW (enc (D.int .i64) (sP i.1)) i.2.2),c⟩)
  (fun i=>i.2.1.Nodup/\(∀p∈i.1,p∈b)/\∀v,(v∈i.2.1\/∃p∈i.1,v=p.1\/v∈yY p.2)↔(v∈s0\/∃p∈b,v=p.1\/v∈yY p.2)) (fun i=>i.1.length) (b,s0,none) ⟨rD,fun _ h=>h,fun _=>Iff.rfl⟩ ?_ ?_
 ·dsimp only
  refine bW.bE _ (by omega) (Nat.le_refl _) ?_ (fun j hj=> ?_) he
  ·exact(by repeat(first|exact hg.mono (by omega)|exact Good.nil|refine Good.ak ?_ (by omega) rfl|refine Good.ak ?_ (by omega) (bV _ _ _ (by omega))|refine Good.ak ?_ (by omega) (by simp[ae.refs,V.ag,V.refs]<;>omega)))
  ·by_cases e1:j=it
   ·subst e1;rw[aa];exact oi
   ·rw[ad _ _ _ _ e1]
    by_cases e2:j=tid
    ·subst e2;rw[aa];exact ot
    ·rw[ad _ _ _ _ e2]
 rintro⟨rest,s,last⟩ ⟨hs,eN,hv⟩
 replace hs:s.Nodup:=hs
 replace eN:∀p∈rest,p∈b:=eN
 replace hv:∀v,(v∈s\/∃p∈rest,v=p.1\/v∈yY p.2)↔(v∈s0\/∃p∈b,v=p.1\/v∈yY p.2):=hv
 have w1:∀k,tid≠c+k:=fun k=>by omega
 have w2:∀k,it≠c+k:=fun k=>by omega
 have w3:tid≠c:=by omega
 have w4:it≠c:=by omega
 dsimp only
 simp only[MT,El,Mt,IC.snd,IC.fst]
 simp+contextual (disch:=first|omega|simp only[go_sem,false_implies]) only[go_sem,wrap64,if_pos,hn,u9,w1,w2,w3,w4,Nat.add_assoc,Nat.left_eq_add,Nat.add_eq_left,Nat.add_left_cancel_iff]
 refine rb (fun hr=> ?_) fun i k x hm=> ?_
 ·subst hr
  simp+contextual (disch:=first|omega|simp only[go_sem,false_implies]) only[go_sem,wrap64,if_pos,and_self]
  refine hQ _ _ _ s ?_ ?_ ?_ ?_ ?_ ?_ ?_ ?_ ?_ (fun j g1 g2 g3=> ?_) ?_ (fun v=> ?_)
  ·rfl
  ·rfl
  ·rfl
  ·rfl
  ·rfl
  ·rfl
  ·rfl
  ·omega
  ·exact(by repeat(first|exact hg.mono (by omega)|exact Good.nil|refine Good.ak ?_ (by omega) rfl|refine Good.ak ?_ (by omega) (bV _ _ _ (by omega))|refine Good.ak ?_ (by omega) (by simp[ae.refs,V.ag,V.refs]<;>omega)))
  ·(repeat(first|rfl|rw[aa]|rw[ad _ _ _ _ (by omega)]))
  ·(repeat(first|rfl|rw[aa]|rw[ad _ _ _ _ (by omega)]))
  ·rw[<- hv v]
   simp
 ·have QF:=List.mem_of_getElem? hm
  have hxz:x.sz<=1000:=hb.sz _ (eN _ QF)
  have hxh:=Tm.ra x
  simp+contextual (disch:=first|omega|simp only[go_sem,false_implies]) only[go_sem,wrap64,if_pos,hn,u9,w1,w2,w3,w4,Nat.add_assoc,Nat.left_eq_add,Nat.add_eq_left,Nat.add_left_cancel_iff]
  refine bK (uK x (Tm.fm x (by omega)) (by omega) _ _ tid (oU s k) ?_ ?_ (mh _ hs) _ _ fun o2 n2 s2 m1 m2 m3 m4 m5=> ?_)
  ·exact(by repeat(first|exact hg.mono (by omega)|exact Good.nil|refine Good.ak ?_ (by omega) rfl|refine Good.ak ?_ (by omega) (bV _ _ _ (by omega))|refine Good.ak ?_ (by omega) (by simp[ae.refs,V.ag,V.refs]<;>omega)))
  ·(repeat(first|rfl|rw[aa]|rw[ad _ _ _ _ (by omega)]))
  simp+contextual (disch:=first|omega|simp only[go_sem,false_implies]) only[go_sem,wrap64,if_pos,and_self]
  have hlen:(rest.eraseIdx i).length<rest.length:=by
   obtain⟨hi,_⟩:=List.getElem?_eq_some_iff.1 hm
   rw[List.length_eraseIdx];simp[hi];omega
  have MP:((k,x)::rest.eraseIdx i).Perm rest:=mi hm
  refine aB (rest.eraseIdx i,s2,some (.int .i64 k,x.d)) ⟨m5.1,fun p hp=>eN p (MP.mem_iff.1 (List.mem_cons_of_mem _ hp)),fun v=> ?_⟩ hlen (bW.bE _ (by omega) (by omega) ?_ (fun j hj=> ?_) ?_)
  ·show(v∈s2\/∃p∈rest.eraseIdx i,v=p.1\/v∈yY p.2)↔_
   rw[<- hv v,m5.2 v,iR]
   constructor
   ·rintro(((h|rfl)|h)|⟨p,hp,h⟩)
    ·exact .inl h
    ·exact .inr ⟨(v,x),QF, .inl rfl⟩
    ·exact .inr ⟨(k,x),QF, .inr h⟩
    ·exact .inr ⟨p,MP.mem_iff.1 (List.mem_cons_of_mem _ hp),h⟩
   ·rintro(h|⟨p,hp,h⟩)
    ·exact .inl (.inl (.inl h))
    ·rcases List.mem_cons.1 (MP.mem_iff.2 hp)with rfl|hp
     ·rcases h with h|h
      ·exact .inl (.inl (.inr h))
      ·exact .inl (.inr h)
     ·exact .inr ⟨p,hp,h⟩
  ·dsimp only;exact(by repeat(first|exact hg.mono (by omega)|exact Good.nil|refine Good.ak ?_ (by omega) rfl|refine Good.ak ?_ (by omega) (bV _ _ _ (by omega))|refine Good.ak ?_ (by omega) (by simp[ae.refs,V.ag,V.refs]<;>omega)))
  ·dsimp only
   by_cases e1:j=it
   ·subst e1;rw[m3 _ (by omega) u9];(repeat(first|rfl|rw[aa]|rw[ad _ _ _ _ (by omega)]))
   ·by_cases e2:j=tid
    ·subst e2;rw[m4];(repeat(first|rfl|rw[aa]|rw[ad _ _ _ _ (by omega)]))
    ·rw[m3 _ (by omega) e2];(repeat(first|rfl|rw[aa]|rw[ad _ _ _ _ (by omega)]))
  ·(repeat(first|exact aq|refine ai ?_|refine ah rfl ?_|refine ah (aQ (aP (by omega))) ?_|refine aA rfl (by simp[V.refs,V.ag]<;>first|omega|assumption) ?_))
theorem UL{b:List (Int×Tm)}{o:Nat->ae}{e:Nat->V}{Q:fy->S->Prop}{c tid:Nat}{s taken:List Int}{vs:V}(hc:29<=c)(ht:tid<c)(ht2:29<=tid)
 (hg:Good o c) (ot:o tid=jV s) (hm:∀v,v∈s↔v∈taken) (hlen:taken.length<=1000000000) (oo:o 13= .row [.d (.i 8), .d (.i 0), .osl 11 0])
 (he:fG c e [.d (vh b), .ab, .ab, .ptr 0 0, .ptr 1 0, .ptr 13 0, .mp 15, .ptr 20 0, .ab, .ab, .ab, .ab, .mp tid] 0)
 (hQ:∀e' o' nx',e' 0= .d (vh b)->e' 3= .ptr 0 0->e' 4= .ptr 1 0->e' 5= .ptr 13 0->e' 6= .mp 15->e' 7= .ptr 20 0->c<=nx'->Good o' nx'->(∀j,j<c->j≠13->o' j=o j)->o' 13= .row [.d (.i 8), .d (.i (gN taken)), .osl 11 0]->Q (.exit 4) ⟨e',o',nx'⟩):
 od 0 (fun Q s=>kq Tryz.prog 102 0 false MU Q s) Q ⟨e,o,c⟩:=by
 obtain⟨m,xq,zA,vW,hm4⟩:=nr taken
 refine aW (fun i:Nat=>⟨bw [.d (vh b), .ab, .ab, .ptr 0 0, .ptr 1 0, .ptr 13 0, .mp 15, .ptr 20 0, .ab, .ab, .ab, .ab, .mp tid],ak o 13 (.row [.d (.i 8), .d (.i (i:Int)), .osl 11 0]),c⟩)
  (fun i=>i<=m) (fun i=>m - i) 0 (Nat.zero_le _) ?_ ?_
 ·refine bW.bE _ (by omega) (Nat.le_refl _) ?_ (fun j hj=> ?_) he
  ·exact(by repeat(first|exact hg.mono (by omega)|exact Good.nil|refine Good.ak ?_ (by omega) rfl|refine Good.ak ?_ (by omega) (bV _ _ _ (by omega))|refine Good.ak ?_ (by omega) (by simp[ae.refs,V.ag,V.refs]<;>omega)))
  ·by_cases e1:j=13
   ·subst e1;rw[aa];exact oo
   ·rw[ad _ _ _ _ e1]
 rintro i hi
 replace hi:i<=m:=hi
 have w3:tid≠13:=by omega
 have w4:(13:Nat)≠tid:=by omega
 simp only[MU,El,Mt,IC.snd,IC.fst]
 simp+contextual (disch:=first|omega|simp only[go_sem,false_implies]) only[go_sem,wrap64,if_pos,ot,w3,w4,Nat.add_assoc,Nat.left_eq_add,Nat.add_eq_left,Nat.add_left_cancel_iff]
 refine ay (fun h2=> ?_) (fun h2=> ?_)
 ·have oG:(i:Int)∈taken:=(hm _).1 (by simpa using h2)
  have bC:i<m:=by
   rcases Nat.lt_or_eq_of_le hi with h|h
   ·exact h
   ·subst h;exact absurd oG zA
  simp+contextual (disch:=first|omega|simp only[go_sem,false_implies]) only[go_sem,wrap64,if_pos,ot,w3,w4,Nat.add_assoc,Nat.left_eq_add,Nat.add_eq_left,Nat.add_left_cancel_iff]
  refine aB (i+1) bC (by omega) (bW.bE _ (by omega) (by omega) ?_ (fun j hj=> ?_) ?_)
  ·exact(by repeat(first|exact hg.mono (by omega)|exact Good.nil|refine Good.ak ?_ (by omega) rfl|refine Good.ak ?_ (by omega) (bV _ _ _ (by omega))|refine Good.ak ?_ (by omega) (by simp[ae.refs,V.ag,V.refs]<;>omega)))
  ·by_cases e1:j=13
   ·subst e1;(repeat(first|rfl|rw[aa]|rw[ad _ _ _ _ (by omega)]))
   ·(repeat(first|rfl|rw[aa]|rw[ad _ _ _ _ (by omega)]))
  ·(repeat(first|exact aq|refine ai ?_|refine ah rfl ?_|refine ah (aQ (aP (by omega))) ?_|refine aA rfl (by simp[V.refs,V.ag]<;>first|omega|assumption) ?_))
 ·have oG:(i:Int)∉taken:=fun h=>by
   have:=(hm _).2 h
   have h3:s.contains (i:Int)=true:=List.contains_iff_mem.2 this
   rw[h3]at h2
   cases h2
  have hem:i=m:=by
   rcases Nat.lt_or_eq_of_le hi with h|h
   ·exact absurd (vW i h) oG
   ·exact h
  simp+contextual (disch:=first|omega|simp only[go_sem,false_implies]) only[go_sem,wrap64,if_pos,and_self]
  refine hQ _ _ _ ?_ ?_ ?_ ?_ ?_ ?_ ?_ ?_ (fun j g1 g2=> ?_) ?_
  ·rfl
  ·rfl
  ·rfl
  ·rfl
  ·rfl
  ·rfl
  ·omega
  ·exact(by repeat(first|exact hg.mono (by omega)|exact Good.nil|refine Good.ak ?_ (by omega) rfl|refine Good.ak ?_ (by omega) (bV _ _ _ (by omega))|refine Good.ak ?_ (by omega) (by simp[ae.refs,V.ag,V.refs]<;>omega)))
  ·(repeat(first|rfl|rw[aa]|rw[ad _ _ _ _ (by omega)]))
  ·rw[xq, <- hem];(repeat(first|rfl|rw[aa]|rw[ad _ _ _ _ (by omega)]))
end Go.Proofs.YtealblliddhgiaaGreat
namespace Go.Proofs.YtealblliddhgiaaGreat
theorem It{t:Tm}(hw:t.wf)(hz:t.sz<=1000)(h8:t.op=8)(ih:∀t':Tm,t'.wf->t'.sz<=1000->t'.ck<t.ck->C5 t')(b:List (Int×Tm))(hb:K6 b):
 bJ Tryz.prog 91 [vh b,t.d] (.ret [(bO t.ck b t).d]):=by
 have ml:=(Tm.iB t).1 hw
 obtain⟨a,body,hk⟩:=qY (ml.2.1 h8)
 have ha:a∈t.kids:=by rw[hk];simp
 have vg:body∈t.kids:=by rw[hk];simp
 have g1:=Tm.dv ha
 have g2:=Tm.dv vg
 have s1:=Tm.gQ ha
 have s2:=Tm.gQ vg
 have e1:(t.kids.map Tm.d)[0]? =some a.d:=by rw[hk];rfl
 have e2:(t.kids.map Tm.d)[1]? =some body.d:=by rw[hk];rfl
 refine bJ.aZ mix Tj (by simp) ?_
 rw[Mt]
 simp+contextual (disch:=first|omega|simp only[go_sem,false_implies]) only[go_sem,wrap64,if_pos,e1,e2]
 refine cD (ih a (ml.2.2 a ha) (by omega) (by omega) b hb) ?_
 simp+contextual (disch:=first|omega|simp only[go_sem,false_implies]) only[go_sem,wrap64,if_pos,and_self]
 refine aR (by decide) ?_
 simp+contextual (disch:=first|omega|simp only[go_sem,false_implies]) only[go_sem,wrap64,if_pos,e1,e2]
 refine aR (by decide) ?_
 simp+contextual (disch:=first|omega|simp only[go_sem,false_implies]) only[go_sem,wrap64,if_pos,and_self]
 refine aU (Bk body (Tm.fm body (by omega))) ?_
 simp+contextual (disch:=first|omega|simp only[go_sem,false_implies]) only[go_sem,wrap64,if_pos,and_self]
 refine UI (t:=t) (body:=body) hb (by repeat(first|exact hg.mono (by omega)|exact Good.nil|refine Good.ak ?_ (by omega) rfl|refine Good.ak ?_ (by omega) (bV _ _ _ (by omega))|refine Good.ak ?_ (by omega) (by simp[ae.refs,V.ag,V.refs]<;>omega))) (by(repeat(first|rfl|rw[aa]|rw[ad _ _ _ _ (by omega)]))) (by(repeat(first|rfl|rw[aa]|rw[ad _ _ _ _ (by omega)]))) ?_ ?_ fun e' o' nx' gV q0 q3 q4 q5 q6 q7 q9 m1 hg m3 m4 hp=> ?_
 ·rw[aa,kz]
 ·(repeat(first|exact aq|refine ai ?_|refine ah rfl ?_|refine ah (aQ (aP (by omega))) ?_|refine aA rfl (by simp[V.refs,V.ag]<;>first|omega|assumption) ?_))
 have p0:o' 0= .row t.row:=by rw[m3 0 (by decide) (by decide) (by decide)];(repeat(first|rfl|rw[aa]|rw[ad _ _ _ _ (by omega)]))
 have p1:o' 1= .row [.d (.i 0), .d (.i 0), .bn]:=by rw[m3 1 (by decide) (by decide) (by decide)];(repeat(first|rfl|rw[aa]|rw[ad _ _ _ _ (by omega)]))
 have UM:o' 11= .arr 0 28 3 [(bO a.ck b a).d, .agg [.i 0, .i 0, .sl []]]:=by rw[m3 11 (by decide) (by decide) (by decide)];(repeat(first|rfl|rw[aa]|rw[ad _ _ _ _ (by omega)]))
 have UN:o' 13= .row [.d (.i 8), .d (.i t.n), .osl 11 0]:=by rw[m3 13 (by decide) (by decide) (by decide)];(repeat(first|rfl|rw[aa]|rw[ad _ _ _ _ (by omega)]))
 have UO:o' 20= .row body.row:=by rw[m3 20 (by decide) (by decide) (by decide)];(repeat(first|rfl|rw[aa]|rw[ad _ _ _ _ (by omega)]))
 have UP:K6 (cY gV t.n):=by
  have Cq:(cY gV t.n).Perm (cY b t.n):=hp.filter _
  have eN:∀p∈cY gV t.n,p∈b:=fun p GV=>(List.mem_filter.1 (Cq.mem_iff.1 GV)).1
  refine⟨(Cq.map _).nodup_iff.2 (mj _ hb.keys), ?_,fun p h=>hb.sz p (eN p h),fun p h=>hb.cp p (eN p h)⟩
  rw[Cq.length_eq]
  exact Nat.le_trans (List.length_filter_le _ _) hb.len
 have MV:∀f x,bO f (cY gV t.n) x=bO f (cY b t.n) x:=fun f x=>lH f x ((((hp.filter _).map _).nodup_iff).2 (mj _ hb.keys)) (hp.filter _)
 have w15:15≠nx':=by omega
 cases hc:nu (cY b t.n) body t.n with
 |false=>
  rw[hc]at q9
  simp+contextual (disch:=first|omega|simp only[go_sem,false_implies]) only[go_sem,wrap64,if_pos,q0,q3,q4,q5,q6,q7,q9,p0,p1,UM,UN,UO,m4]
  have sa:bO t.ck b t= .mk 8 t.n [bO a.ck b a,bO body.ck (cY gV t.n) body]:=by
   have hh:t.ck=Tm.dQ t.kids+1:=by rw[Tm.ec];omega
   generalize Tm.dQ t.kids=f at hh
   rw[MV,hh]
   simp only[bO]
   rw[if_neg (by omega),if_pos h8,hk]
   simp only[hc,Bool.false_eq_true,if_false]
   rw[dM _ a.ck a b (ml.2.2 a ha) (by omega) (Nat.le_refl _),dM _ body.ck body _ (ml.2.2 body vg) (by omega) (Nat.le_refl _)]
  refine cD (ih body (ml.2.2 body vg) (by omega) (by omega) _ UP) ?_
  simp+contextual (disch:=first|omega|simp only[go_sem,false_implies]) only[go_sem,wrap64,if_pos,q0,q3,q4,q5,q6,q7,q9,p0,p1,UM,UN,UO,m4]
  refine aR (by decide) ?_
  rw[sa]
  simp+contextual (disch:=first|omega|simp only[go_sem,false_implies]) only[go_sem,wrap64,if_pos,q0,q3,q4,q5,q6,q7,q9,p0,p1,UM,UN,UO,m4,List.set_cons_succ,List.set_cons_zero]
  rw[Tm.vy]
  rfl
 |true=>
  rw[hc]at q9
  have hth:=Tm.ra t
  simp+contextual (disch:=first|omega|simp only[go_sem,false_implies]) only[go_sem,wrap64,if_pos,q0,q3,q4,q5,q6,q7,q9,p0,p1,UM,UN,UO,m4,Nat.add_assoc,Nat.left_eq_add,Nat.add_eq_left,Nat.add_left_cancel_iff]
  refine bK (uK t (Tm.fm t (by omega)) (by omega) _ _ (nx'+1) [] ?_ ?_ List.nodup_nil _ _ fun o2 n2 s2 r1 r2 r3 r4 r5=> ?_)
  ·exact(by repeat(first|exact hg.mono (by omega)|exact Good.nil|refine Good.ak ?_ (by omega) rfl|refine Good.ak ?_ (by omega) (bV _ _ _ (by omega))|refine Good.ak ?_ (by omega) (by simp[ae.refs,V.ag,V.refs]<;>omega)))
  ·(repeat(first|rfl|rw[aa]|rw[ad _ _ _ _ (by omega)]))
  have r5':∀v,v∈s2↔v∈yY t:=fun v=>by simpa using r5.2 v
  have u0:o2 0= .row t.row:=by rw[r3 0 (by omega) (by omega)];(repeat(first|rfl|rw[aa]|rw[ad _ _ _ _ (by omega)]));exact p0
  have u1:o2 1= .row [.d (.i 0), .d (.i 0), .bn]:=by rw[r3 1 (by omega) (by omega)];(repeat(first|rfl|rw[aa]|rw[ad _ _ _ _ (by omega)]));exact p1
  have Iu:o2 11= .arr 0 28 3 [(bO a.ck b a).d, .agg [.i 0, .i 0, .sl []]]:=by rw[r3 11 (by omega) (by omega)];(repeat(first|rfl|rw[aa]|rw[ad _ _ _ _ (by omega)]));exact UM
  have u13:o2 13= .row [.d (.i 8), .d (.i t.n), .osl 11 0]:=by rw[r3 13 (by omega) (by omega)];(repeat(first|rfl|rw[aa]|rw[ad _ _ _ _ (by omega)]));exact UN
  have K7:o2 15=cI (cY gV t.n):=by rw[r3 15 (by omega) (by omega)];(repeat(first|rfl|rw[aa]|rw[ad _ _ _ _ (by omega)]));exact m4
  have K8:o2 20= .row body.row:=by rw[r3 20 (by omega) (by omega)];(repeat(first|rfl|rw[aa]|rw[ad _ _ _ _ (by omega)]));exact UO
  simp+contextual (disch:=first|omega|simp only[go_sem,false_implies]) only[go_sem,wrap64,if_pos,q0,q3,q4,q5,q6,q7,q9,Nat.add_assoc,Nat.left_eq_add,Nat.add_eq_left,Nat.add_left_cancel_iff]
  have QT:Good o2 n2:=r2
  clear hg
  have hg:=QT
  refine UK hb (c:=n2+2) (tid:=nx'+1) (it:=n2+1) (s0:=s2) (by omega) (by omega) (by omega) (by omega) (by repeat(first|exact hg.mono (by omega)|exact Good.nil|refine Good.ak ?_ (by omega) rfl|refine Good.ak ?_ (by omega) (bV _ _ _ (by omega))|refine Good.ak ?_ (by omega) (by simp[ae.refs,V.ag,V.refs]<;>omega))) (by(repeat(first|rfl|rw[aa]|rw[ad _ _ _ _ (by omega)]));exact r4) r5.1 ?_ ?_ fun e3 o3 n3 s3 q0 q3 q4 q5 q6 q7 Ig r6 hg3 r7 r8 r9=> ?_
  ·rw[aa,kz]
  ·(repeat(first|exact aq|refine ai ?_|refine ah rfl ?_|refine ah (aQ (aP (by omega))) ?_|refine aA rfl (by simp[V.refs,V.ag]<;>first|omega|assumption) ?_|refine ah (by first|exact q0|exact q1|exact q2|exact q3|exact q4|exact q5|exact q6|exact q7|exact q8|exact q9|exact Kw|exact Kx|exact Ig|exact Ky|exact Kz|exact CY|exact CZ|exact C0|exact KA|exact qc|exact KC|exact KF|exact KG|exact KH|exact KI|exact KJ|exact KK|exact KL|exact KM|exact KN|exact KO|exact KQ|exact KT|exact KU|exact KW|exact KY|exact KZ|exact K0|exact K1|exact K2|exact K4) ?_|refine aA (by first|exact q0|exact q1|exact q2|exact q3|exact q4|exact q5|exact q6|exact q7|exact q8|exact q9|exact Kw|exact Kx|exact Ig|exact Ky|exact Kz|exact CY|exact CZ|exact C0|exact KA|exact qc|exact KC|exact KF|exact KG|exact KH|exact KI|exact KJ|exact KK|exact KL|exact KM|exact KN|exact KO|exact KQ|exact KT|exact KU|exact KW|exact KY|exact KZ|exact K0|exact K1|exact K2|exact K4) (by simp[V.refs,V.ag]<;>first|omega|assumption) ?_))
  have u0':o3 0= .row t.row:=by rw[r7 0 (by omega) (by omega) (by omega)];(repeat(first|rfl|rw[aa]|rw[ad _ _ _ _ (by omega)]));exact u0
  have u1':o3 1= .row [.d (.i 0), .d (.i 0), .bn]:=by rw[r7 1 (by omega) (by omega) (by omega)];(repeat(first|rfl|rw[aa]|rw[ad _ _ _ _ (by omega)]));exact u1
  have Y5:o3 11= .arr 0 28 3 [(bO a.ck b a).d, .agg [.i 0, .i 0, .sl []]]:=by rw[r7 11 (by omega) (by omega) (by omega)];(repeat(first|rfl|rw[aa]|rw[ad _ _ _ _ (by omega)]));exact Iu
  have Y6:o3 13= .row [.d (.i 8), .d (.i t.n), .osl 11 0]:=by rw[r7 13 (by omega) (by omega) (by omega)];(repeat(first|rfl|rw[aa]|rw[ad _ _ _ _ (by omega)]));exact u13
  have Y7:o3 15=cI (cY gV t.n):=by rw[r7 15 (by omega) (by omega) (by omega)];(repeat(first|rfl|rw[aa]|rw[ad _ _ _ _ (by omega)]));exact K7
  have Y8:o3 20= .row body.row:=by rw[r7 20 (by omega) (by omega) (by omega)];(repeat(first|rfl|rw[aa]|rw[ad _ _ _ _ (by omega)]));exact K8
  clear u0 u1 Iu u13 K7 K8
  have BK:∀v,v∈s3↔v∈gM b t:=fun v=>by rw[r9 v,qZ,r5' v]
  have w1:nx'+1≠n3:=by omega
  simp+contextual (disch:=first|omega|simp only[go_sem,false_implies]) only[go_sem,wrap64,if_pos,q0,q3,q4,q5,q6,q7,Ig,Y6,Nat.add_assoc,Nat.left_eq_add,Nat.add_eq_left,Nat.add_left_cancel_iff]
  clear hg
  have hg:=hg3
  refine UL (b:=b) (c:=n3+2) (tid:=nx'+1) (s:=s3) (taken:=gM b t) (vs:= .ab) (by omega) (by omega) (by omega) (by repeat(first|exact hg.mono (by omega)|exact Good.nil|refine Good.ak ?_ (by omega) rfl|refine Good.ak ?_ (by omega) (bV _ _ _ (by omega))|refine Good.ak ?_ (by omega) (by simp[ae.refs,V.ag,V.refs]<;>omega))) (by(repeat(first|rfl|rw[aa]|rw[ad _ _ _ _ (by omega)]));exact r8) BK ?_ (by(repeat(first|rfl|rw[aa]|rw[ad _ _ _ _ (by omega)]))) ?_ fun e4 o4 n4 q0 q3 q4 q5 q6 q7 r10 hg4 UQ QU=> ?_
  ·have h1:=Eh t
   have h2:∀l:List (Int×Tm),(∀p∈l,p.2.sz<=1000)->(l.flatMap fun p=>p.1::yY p.2).length<=1001*l.length:=by
    intro l
    induction l with
    |nil=>intro _;simp
    |cons p l AX=>
     intro h
     have h3:=AX fun x hx=>h x (List.mem_cons_of_mem _ hx)
     have h4:=h p (List.mem_cons_self ..)
     have h5:=Eh p.2
     rw[List.flatMap_cons,List.length_append,List.length_cons,List.length_cons]
     omega
   have h3:=h2 b hb.sz
   have h4:=hb.len
   unfold gM
   rw[List.length_append]
   omega
  ·(repeat(first|exact aq|refine ai ?_|refine ah rfl ?_|refine ah (aQ (aP (by omega))) ?_|refine aA rfl (by simp[V.refs,V.ag]<;>first|omega|assumption) ?_|refine ah (by first|exact q0|exact q1|exact q2|exact q3|exact q4|exact q5|exact q6|exact q7|exact q8|exact q9|exact Kw|exact Kx|exact Ig|exact Ky|exact Kz|exact CY|exact CZ|exact C0|exact KA|exact qc|exact KC|exact KF|exact KG|exact KH|exact KI|exact KJ|exact KK|exact KL|exact KM|exact KN|exact KO|exact KQ|exact KT|exact KU|exact KW|exact KY|exact KZ|exact K0|exact K1|exact K2|exact K4) ?_|refine aA (by first|exact q0|exact q1|exact q2|exact q3|exact q4|exact q5|exact q6|exact q7|exact q8|exact q9|exact Kw|exact Kx|exact Ig|exact Ky|exact Kz|exact CY|exact CZ|exact C0|exact KA|exact qc|exact KC|exact KF|exact KG|exact KH|exact KI|exact KJ|exact KK|exact KL|exact KM|exact KN|exact KO|exact KQ|exact KT|exact KU|exact KW|exact KY|exact KZ|exact K0|exact K1|exact K2|exact K4) (by simp[V.refs,V.ag]<;>first|omega|assumption) ?_))
  have u0:o4 0= .row t.row:=by rw[UQ 0 (by omega) (by omega)];(repeat(first|rfl|rw[aa]|rw[ad _ _ _ _ (by omega)]));exact u0'
  have u1:o4 1= .row [.d (.i 0), .d (.i 0), .bn]:=by rw[UQ 1 (by omega) (by omega)];(repeat(first|rfl|rw[aa]|rw[ad _ _ _ _ (by omega)]));exact u1'
  have Iu:o4 11= .arr 0 28 3 [(bO a.ck b a).d, .agg [.i 0, .i 0, .sl []]]:=by rw[UQ 11 (by omega) (by omega)];(repeat(first|rfl|rw[aa]|rw[ad _ _ _ _ (by omega)]));exact Y5
  have K7:o4 15=cI (cY gV t.n):=by rw[UQ 15 (by omega) (by omega)];(repeat(first|rfl|rw[aa]|rw[ad _ _ _ _ (by omega)]));exact Y7
  have K8:o4 20= .row body.row:=by rw[UQ 20 (by omega) (by omega)];(repeat(first|rfl|rw[aa]|rw[ad _ _ _ _ (by omega)]));exact Y8
  simp+contextual (disch:=first|omega|simp only[go_sem,false_implies]) only[go_sem,wrap64,if_pos,q0,q3,q4,q5,q6,q7,u0,u1,Iu,K7,K8,QU,Nat.add_assoc,Nat.left_eq_add,Nat.add_eq_left,Nat.add_left_cancel_iff]
  refine cD (nq (gN (gM b t))) ?_
  simp+contextual (disch:=first|omega|simp only[go_sem,false_implies]) only[go_sem,wrap64,if_pos,q0,q3,q4,q5,q6,q7,u0,u1,Iu,K7,K8,QU,Nat.add_assoc,Nat.left_eq_add,Nat.add_eq_left,Nat.add_left_cancel_iff]
  generalize hmv:gN (gM b t)=mv at*
  have Nx:K6 []:=⟨List.nodup_nil,by simp,by simp,by simp⟩
  have hvw:(Tm.mk 1 mv []).wf:=by simp[Tm.wf,Tm.MQ]
  have Gd:(Tm.mk 1 mv []).sz=1:=by rw[Tm.iQ];rfl
  have hvh:(Tm.mk 1 mv []).ck=1:=by rw[Tm.ec];rfl
  have hbh:1<=body.ck:=by rw[Tm.ec];omega
  have CA:=ih (.mk 1 mv []) hvw (by omega) (by omega) [] Nx
  rw[lI _ _ hvw]at CA
  have sE:K6 [(t.n, .mk 1 mv [])]:=⟨by simp,by simp,by intro p hp;simp at hp;subst hp;rw[Gd];omega,by intro p hp;simp at hp;subst hp;exact CA⟩
  have Iv:=kA body.ck body [(t.n, .mk 1 mv [])] (ml.2.2 body vg) (Nat.le_refl _) (by intro p hp;simp at hp;subst hp;exact⟨rfl,rfl⟩)
  refine cD (ih body (ml.2.2 body vg) (by omega) (by omega) _ sE) ?_
  simp+contextual (disch:=first|omega|simp only[go_sem,false_implies]) only[go_sem,wrap64,if_pos,q0,q3,q4,q5,q6,q7,u0,u1,Iu,K7,K8,QU,Nat.add_assoc,Nat.left_eq_add,Nat.add_eq_left,Nat.add_left_cancel_iff]
  refine aR (rR (ids:=[0,13,20]) (nx:=n4) (by simp) (by simp;omega) [([],[3]),([0],[]),([0],[]),([1],[]),([1],[]),([],[]),([3],[3]),([],[]),([2],[]),([3],[3]),([2],[2])] (by decide)) ?_
  simp+contextual (disch:=first|omega|simp only[go_sem,false_implies]) only[go_sem,wrap64,if_pos,q0,q3,q4,q5,q6,q7,u0,u1,Iu,K7,K8,QU,Nat.add_assoc,Nat.left_eq_add,Nat.add_eq_left,Nat.add_left_cancel_iff]
  have sa:bO t.ck b t= .mk 8 mv [bO a.ck b a,bO (bO body.ck [(t.n, .mk 1 mv [])] body).ck (cY gV t.n) (bO body.ck [(t.n, .mk 1 mv [])] body)]:=by
   have hh:t.ck=Tm.dQ t.kids+1:=by rw[Tm.ec];omega
   generalize Tm.dQ t.kids=f at hh
   rw[MV,hh]
   simp only[bO]
   rw[if_neg (by omega),if_pos h8,hk]
   simp only[hc,if_true]
   rw[hmv,dM f a.ck a b (ml.2.2 a ha) (by omega) (Nat.le_refl _),dM f body.ck body [(t.n, .mk 1 mv [])] (ml.2.2 body vg) (by omega) (Nat.le_refl _)]
   rw[dM f (bO body.ck [(t.n, .mk 1 mv [])] body).ck (bO body.ck [(t.n, .mk 1 mv [])] body) (cY b t.n) Iv.2.1 (by rw[Iv.1];omega) (Nat.le_refl _)]
  refine cD (ih (bO body.ck [(t.n, .mk 1 mv [])] body) Iv.2.1 (by rw[Iv.2.2];omega) (by rw[Iv.1];omega) _ UP) ?_
  simp+contextual (disch:=first|omega|simp only[go_sem,false_implies]) only[go_sem,wrap64,if_pos,q0,q3,q4,q5,q6,q7,u0,u1,Iu,K7,K8,QU,Nat.add_assoc,Nat.left_eq_add,Nat.add_eq_left,Nat.add_left_cancel_iff]
  refine aR (by decide) ?_
  rw[sa]
  simp+contextual (disch:=first|omega|simp only[go_sem,false_implies]) only[go_sem,wrap64,if_pos,q0,q3,q4,q5,q6,q7,u0,u1,Iu,K7,K8,QU,Nat.add_assoc,Nat.left_eq_add,Nat.add_eq_left,Nat.add_left_cancel_iff,List.set_cons_succ,List.set_cons_zero]
  rw[Tm.vy]
  rfl
end Go.Proofs.YtealblliddhgiaaGreat
