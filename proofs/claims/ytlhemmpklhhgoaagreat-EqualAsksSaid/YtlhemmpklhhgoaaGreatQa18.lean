/-
  A PART OF THE PROOF. Conditions: none.
-/
import Derived.Test.YtlhemmpklhhgoaaGreatQa17
set_option linter.unusedSimpArgs false
set_option linter.unusedVariables false
namespace Go.Proofs.YtlhemmpklhhgoaaGreat
structure QT (s:aB) (t:Tm):Prop where
 vs:Vs s t
 sz:t.sz<=2000
theorem QT.lW {s:aB}{t k:Tm}(h:QT s t)(hk:k∈t.kids):QT s k:=⟨h.vs.lW hk,by have:=Tm.mi hk;have:=h.sz;omega⟩
theorem QT.fits {s:aB}{t:Tm}(h:QT s t):t.fits:=Tm.cI t (by have:=h.sz;omega)
theorem QT.var {s:aB}{v:Int}(h:0<=v/\v<20):QT s (.mk 1 v []):=⟨Vs.var h,by rw[Tm.jt];simp[Tm.kids,qN]⟩
theorem QT.eta {s:aB}{t:Tm}(h:QT s t)(h1:t.op=1):(0<=t.n/\t.n<20)/\t= .mk 1 t.n []:=⟨h.vs.range ((hU h1).2 rfl),h.vs.eta h1⟩
theorem jx{s:aB}{t:Tm}(h:br s t=true):QT s t:=⟨(cV h).1,by have:=(cV h).2.1;omega⟩
structure o7 (s:aB) (b:List (Int×Tm)):Prop where
 keys:(b.map (·.1)).Nodup
 ok:∀p∈b,(0<=p.1/\p.1<20)/\QT s p.2
 Ha:Tz b
theorem o7.nil {s:aB}:o7 s []:=⟨List.nodup_nil,fun _ h=>(by cases h),fun _ _ h=>by cases h⟩
theorem o7.sim {s:aB}{b:List (Int×Tm)}(h:o7 s b):∃l ρ R,lX s b l ρ R/\kO s l:=J9 h.keys (fun p hp=>⟨(h.ok p hp).1,(h.ok p hp).2.vs⟩) h.Ha
theorem aat{P:Tm->Prop}{b:List (Int×Tm)}(hb:∀p∈b,P p.2):∀ (f:Nat) (t x:Tm),jG f b t=some x->P t->P x
 |0,_,_,h,_=>by cases h
 |f+1,t,x,h,ht=>by
  simp only[jG]at h
  split at h
  ·split at h
   ·rename_i y hy;exact aat hb f y x h (hb _ (cB hy))
   ·exact FQ
  ·exact FQ
theorem eL{s:aB}{b:List (Int×Tm)}(h:o7 s b){t:Tm}(ht:QT s t):∃x,fV b t=some x/\QT s x/\(x.op=1->bL b x.n=none):=by
 obtain⟨l,ρ,R,hS,hl⟩:=h.sim
 obtain⟨x,a1,a2,a3,a4,_⟩:=hS.root ht.vs
 exact⟨x,cw a1,aat (fun p hp=>(h.ok p hp).2) _ t x a1 ht,a4⟩
theorem vl{s:aB}{b:List (Int×Tm)}(h:o7 s b){n:Int}{y:Tm}(hn:bL b n=none)(hr:0<=n/\n<20)(hy:QT s y)(Lb: ¬lY b n y):o7 s (b++[(n,y)]):=by
 obtain⟨l,ρ,R,hS,hl⟩:=h.sim
 obtain⟨MR,R',h'⟩:=hS.ext hl hn hy.vs fun hf=>Lb ((zh hS hl hn hy.vs).1 hf)
 refine⟨h'.keys,fun p hp=> ?_,h'.Ha⟩
 rcases List.mem_append.1 hp with hp|hp
 ·exact h.ok p hp
 ·simp at hp;subst hp;exact⟨hr,hy⟩
theorem nL{s:aB}{lim:Bool}{b:List (Int×Tm)}(h:o7 s b){n:Int}{y:Tm}(hn:bL b n=none)(hr:0<=n/\n<20)(hy:QT s y)(h0:(dY lim b n y).1=0):o7 s (dY lim b n y).2/\∃ext,(dY lim b n y).2=b++ext:=by
 unfold dY at h0|-
 split at h0
 ·exact Eg
 ·rename_i h1
  rw[if_neg h1]
  split at h0
  ·exact Eg
  ·rename_i h2
   rw[if_neg h2]
   exact⟨vl h hn hr hy h1,_,rfl⟩
theorem vm{s:aB}{lim:Bool}:∀ (f:Nat) (t u:Tm) (b b':List (Int×Tm)),iQ lim f t u b=some (0,b')->o7 s b->QT s t->QT s u->o7 s b'/\∃ext,b'=b++ext
 |0,_,_,_,_,h,_,_,_=>by cases h
 |f+1,t,u,b,b',h,hb,ht,hu=>by
  simp only[iQ]at h
  obtain⟨x,ha,hx,Iy⟩:=eL hb ht
  obtain⟨y,hc,hy,hyu⟩:=eL hb hu
  rw[ha,hc]at h
  dsimp only at h
  by_cases h1:x.op=1
  ·obtain⟨rx,ex⟩:=hx.eta h1
   rw[if_pos h1]at h
   by_cases h2:y.op=1
   ·obtain⟨ry,ey⟩:=hy.eta h2
    rw[if_pos h2]at h
    by_cases h3:x.n=y.n
    ·exact N6
    ·rw[if_neg h3]at h
     injection h with h
     have M6:bL b (max x.n y.n)=none:=by
      rw[Int.max_def];split
      ·exact hyu h2
      ·exact Iy h1
     have:=nL hb M6 (y:= .mk 1 (min x.n y.n) []) ae (QT.var ae) (by rw[h])
     rwa [h]at this
   ·rw[if_neg h2]at h
    injection h with h
    have:=nL hb (Iy h1) rx hy (by rw[h])
    rwa [h]at this
  ·rw[if_neg h1]at h
   by_cases h2:y.op=1
   ·obtain⟨ry,ey⟩:=hy.eta h2
    rw[if_pos h2]at h
    injection h with h
    have:=nL hb (hyu h2) ry hx (by rw[h])
    rwa [h]at this
   ·rw[if_neg h2]at h
    split at h
    ·have key:∀ (ks dE:List Tm) (b:List (Int×Tm)),(∀k∈ks,QT s k)->(∀k∈dE,QT s k)->o7 s b->np (iQ lim f) ks dE b=some (0,b')->o7 s b'/\∃ext,b'=b++ext:=by
      intro ks
      induction ks with
      |nil=>
       exact WM
      |cons k ks ih=>
       intro dE b m1 m2 hb h
       cases dE with
       |nil=>
        exact Wg
       |cons k' dE=>
        simp only[np]at h
        cases he:iQ lim f k k' b with
        |none=>rw[he]at h;cases h
        |some q=>
         obtain⟨e1,b1⟩:=q
         rw[he]at h
         dsimp only at h
         by_cases e0:e1=0
         ·rw[if_pos e0]at h
          subst e0
          obtain⟨g1,x1,g2⟩:=vm f k k' b b1 he hb (m1 k aG) (m2 k' aG)
          exact Wn
         ·exact N1
     exact key x.kids y.kids b (fun k hk=>hx.lW hk) (fun k hk=>hy.lW hk) hb h
    ·injection h with h
     injection h with h _
     exact absurd h cE
theorem aau{s:aB}{b:List (Int×Tm)}{l:List TB}{ρ:Int->Nat}{R:Nat}(h:lX s b l ρ R){M:Nat}(hM:∀p∈b,p.2.l7<=M):∀ (r:Nat) (t:Tm),Vs s t->(∀u,fU u t=true->ρ u<r)->(aZ (ah l) t).l7<=t.l7+rM b ρ r*M:=by
 intro r
 induction r using Nat.strongRecOn with
 |ind r ihr=>
  refine Tm.fg fun t ih ht hr=> ?_
  by_cases h1:t.op=1
  ·have hv:fU t.n t=true:=(hU h1).2 rfl
   rw[iw ht h1]
   cases hx:bL b t.n with
   |none=>
    rw[show Lv (ah l) t.n= .mk 1 t.n [] by simp[Lv,(h.zN _).1 hx], <- ht.eta h1]
    omega
   |some x=>
    obtain⟨g1,g2,g3⟩:=h.ok _ _ hx
    have h3:=Ft hx (hr _ hv)
    have h4:=ihr _ (hr _ hv) x g1 g3
    have h5:=hM _ (cB hx)
    have h6:(rM b ρ (ρ t.n)+1)*M<=rM b ρ r*M:=Nat.mul_le_mul_right _ h3
    rw[Nat.add_mul,Nat.one_mul]at h6
    rw[g2]
    dsimp only at h5
    omega
  ·rw[iM h1,Tm.rF,Tm.rF t]
   show 1+Tm.iq (t.kids.map (aZ (ah l)))<=1+Tm.iq t.kids+rM b ρ r*M
   have:Tm.iq (t.kids.map (aZ (ah l)))<=Tm.iq t.kids+rM b ρ r*M:=by
    rw[nF]
    intro k hk
    obtain⟨k,FW,rfl⟩:=List.mem_map.1 hk
    have h2:=ih k FW (ht.lW FW) (fun u hu=>hr u ((qu ht h1).2 ⟨k,FW,hu⟩))
    have h3:=(nF _ _).1 (Nat.le_refl (Tm.iq t.kids)) k FW
    omega
   omega
theorem M7(b:List (Int×Tm))(ρ:Int->Nat)(r:Nat):rM b ρ r<=b.length:=by
 unfold rM
 exact VV
inductive HB (b:List (Int×Tm)) (q:Tm):Nat->Tm->Prop where
 |nil:HB b q 0 q
 |step {d:Nat} {p x k:Tm}:HB b q d p->fV b p=some x->k∈x.kids->HB b q (d+1) k
theorem M8{b ext:List (Int×Tm)}{v:Int}{x:Tm}(h:bL b v=some x):bL (b++ext) v=some x:=by
 induction b with
 |nil=>cases h
 |cons p b ih=>
  rw[List.cons_append]
  simp only[bL]at h|-
  split at h
  ·rename_i e;rw[if_pos e];exact h
  ·rename_i e;rw[if_neg e];exact ih h
theorem Kr{b ext:List (Int×Tm)}:∀ (f:Nat) (t x:Tm),jG f b t=some x->x.op≠1->jG f (b++ext) t=some x
 |0,_,_,h,_=>by cases h
 |f+1,t,x,h,hx=>by
  simp only[jG]at h|-
  by_cases h1:t.op=1
  ·rw[if_pos h1]at h|-
   cases e:bL b t.n with
   |none=>rw[e]at h;injection h with h;subst h;exact absurd h1 hx
   |some y=>
    rw[e]at h
    rw[M8 e]
    exact Kr f y x h hx
  ·rw[if_neg h1]at h|-;exact h
theorem HB.qt {s:aB}{b:List (Int×Tm)}(hb:o7 s b){q:Tm}(hq:QT s q){d:Nat}{k:Tm}(h:HB b q d k):QT s k:=by
 induction h with
 |nil=>exact hq
 |step h1 h2 h3 ih=>
  obtain⟨x,e,hx,_⟩:=eL hb ih
  rw[e]at h2
  cases h2
  exact hx.lW h3
theorem HB.app {s:aB}{b ext:List (Int×Tm)}(hb:o7 s b){q:Tm}(hq:QT s q){d:Nat}{k:Tm}(h:HB b q d k):HB (b++ext) q d k:=by
 induction h with
 |nil=>exact .nil
 |step h1 h2 h3 ih=>
  rename_i d p x k
  obtain⟨y,e,hy,_⟩:=eL hb (h1.qt hb hq)
  obtain rfl:x=y:=Option.some.inj (h2.symm.trans e)
  have fK:x.op≠1:=fun ho=>by
   rw[(hy.eta ho).2]at h3
   cases h3
  obtain⟨g,hg⟩:=kR e
  exact .step ih (cw (Kr g p x hg fK)) h3
theorem HB.le {s:aB}{b:List (Int×Tm)}(hb:o7 s b){q:Tm}(hq:QT s q){d:Nat}{k:Tm}(h:HB b q d k):d+1<=42001:=by
 obtain⟨l,ρ,R,hS,hl⟩:=hb.sim
 have h1:(aZ (ah l) k).l7+d<=(aZ (ah l) q).l7:=by
  induction h with
  |nil=>omega
  |step h1 h2 h3 ih=>
   rename_i d p x k
   obtain⟨y,a1,a2,a3,_⟩:=hS.root (h1.qt hb hq).vs
   obtain rfl:x=y:=Option.some.inj (h2.symm.trans (cw a1))
   have fK:x.op≠1:=fun ho=>by
    rw[a2.eta ho]at h3
    cases h3
   have h4:aZ (ah l) k∈(aZ (ah l) x).kids:=by rw[iM fK];exact List.mem_map.2 ⟨k,h3,rfl⟩
   have h5:=Tm.tc h4
   rw[a3]at h5
   omega
 have h2:=aau hS (M:=2000) (fun p hp=>by have:=(hb.ok p hp).2.sz;have:=Tm.xF p.2;omega) (R+1) q hq.vs (fun u _=>by have:=hS.bd u;omega)
 have h3:=M7 b ρ (R+1)
 have h4:b.length<=20:=by
  have:=DM hb.keys fun v hv=>by
   obtain⟨p,hp,rfl⟩:=List.mem_map.1 hv
   exact(hb.ok p hp).1
  rwa [List.length_map]at this
 have h5:rM b ρ (R+1)*2000<=20*2000:=Nat.mul_le_mul_right _ ae
 have h6:=hq.sz
 have h7:=Tm.xF q
 omega
theorem FC{s:aB}{lim:Bool}:∀ (f:Nat) (t u q:Tm) (b:List (Int×Tm)) (d:Nat) (r:Int×List (Int×Tm)),o7 s b->QT s q->QT s u->HB b q d t->iQ lim f t u b=some r->∀F,42001<=d+F->iQ lim F t u b=some r
 |0,_,_,_,_,_,_,_,_,_,_,h,_,_=>by cases h
 |f+1,t,u,q,b,d,r,hb,hq,hu,hp,h,F,hF=>by
  have hd:=hp.le hb hq
  obtain⟨F,rfl⟩:∃k,F=k+1:=⟨F - 1,ae⟩
  have ht:=hp.qt hb hq
  obtain⟨x,ha,hx,Iy⟩:=eL hb ht
  obtain⟨y,hc,hy,hyu⟩:=eL hb hu
  simp only[iQ]at h|-
  rw[ha,hc]at h|-
  dsimp only at h|-
  split at h
  ·rename_i h1;rw[if_pos h1];exact h
  ·rename_i h1
   rw[if_neg h1]
   split at h
   ·rename_i h2;rw[if_pos h2];exact h
   ·rename_i h2
    rw[if_neg h2]
    split at h
    ·rename_i h3
     rw[if_pos h3]
     have key:∀ (ks dE:List Tm) (b:List (Int×Tm)),o7 s b->(∀k∈ks,HB b q (d+1) k)->(∀k∈dE,QT s k)->np (iQ lim f) ks dE b=some r->np (iQ lim F) ks dE b=some r:=by
      intro ks
      induction ks with
      |nil=>intro dE b _ _ _ h;simpa only[np]using h
      |cons k ks ih=>
       intro dE b hb m1 m2 h
       cases dE with
       |nil=>simpa only[np]using h
       |cons k' dE=>
        simp only[np]at h|-
        cases he:iQ lim f k k' b with
        |none=>rw[he]at h;cases h
        |some w=>
         obtain⟨e1,b1⟩:=w
         rw[he]at h
         rw[FC f k k' q b (d+1) _ hb hq (m2 k' (by simp)) (m1 k (by simp)) he F (by omega)]
         dsimp only at h|-
         by_cases e0:e1=0
         ·rw[if_pos e0]at h|-
          subst e0
          obtain⟨g1,x1,g2⟩:=vm f k k' b b1 he hb ((m1 k aG).qt hb hq) (m2 k' aG)
          refine ih dE b1 g1 (fun z hz=> ?_) (fun z hz=>m2 z tz) h
          rw[g2]
          exact(m1 z tz).app hb hq
         ·rw[if_neg e0]at h|-;exact h
     exact key x.kids y.kids b hb (fun k hk=> .step hp ha hk) (fun k hk=>hy.lW hk) h
    ·rename_i h3;rw[if_neg h3];exact h
theorem Ks{s:aB}{lim:Bool}{b:List (Int×Tm)}(hb:o7 s b){t u:Tm}(ht:QT s t)(hu:QT s u){f:Nat}{e:Int}{b':List (Int×Tm)}(h:iQ lim f t u b=some (e,b')):∃m,jw lim 1000000000 m [(t,u)] b=some (e,b'):=by
 have h1:=FC f t u t b 0 _ hb ht hu .nil h 42001 ae
 refine DV (W:=2000) (P:=QT s) (I:=o7 s) (fun t ht=>⟨?_,fun k hk=>ht.lW hk⟩) (fun b t x hb ht hx=> ?_) (fun f t u b b' h hb ht hu=>(vm f t u b b' h hb ht hu).1) 42001 t u b e b' h1 hb ht hu [] 1 (e,b') cE ?_
 ·have:=lN t.kids
  have:=Tm.jt t
  have:=ht.sz
  omega
 ·obtain⟨y,e,hy,_⟩:=eL hb ht
  rw[e]at hx
  cases hx
  exact hy
 ·split
  ·rename_i e0;subst e0;rfl
  ·rfl
end Go.Proofs.YtlhemmpklhhgoaaGreat
set_option maxHeartbeats 4000000
namespace Go.Proofs.YtlhemmpklhhgoaaGreat
theorem TJ{b:List (Int×Tm)}{f:Nat}{t x:Tm}(h:jG f b t=some x){o:Nat->aa}{id:Nat}(ho:o id=eJ b):CtO Tryz.prog 112 [.mp id, .d t.d] o (.d x.d):=by
 intro nx hg K X hK
 have bW:id<nx:=hg.lt (by rw[ho];exact aa.noConfusion)
 have y1:id≠nx:=ae
 have y2:∀k,id≠nx+k:=fun k=>ae
 refine cO.aJ mix JC aG ?_
 rw[Mv]
 refine Vn ho y1 y2 ?_
 refine aF (fun i:Nat×Tm=>⟨bf [.mp id, .ab, .ab, .ptr nx 0, .ptr (nx+1) 0],aA (aA o nx (.row i.2.row)) (nx+1) (.row [.d (.i 0), .d (.i 0), .aM]),nx+2⟩)
  (fun i=>jG i.1 b i.2=some x) (fun i=>i.1) (f,t) h ?_ ?_
 ·exact Wm
 rintro⟨f,t⟩ hf
 simp only at hf
 cases f with
 |zero=>cases hf
 |succ f=>
 simp only[jG]at hf
 by_cases h1:t.op=1
 ·have eM:(t.op==1)=true:=by simpa using h1
  rw[if_pos h1]at hf
  cases hl:bL b t.n with
  |none=>
   rw[hl]at hf
   injection hf with hf
   subst hf
   simp+contextual (disch:=first|omega|simp only[go_sem,false_implies]) only[go_sem,wrap64,if_pos,eM,ho,y1,y2,Nat.add_assoc,Nat.left_eq_add,Nat.add_eq_left,Nat.add_left_cancel_iff,ee hl]
   exact hK _ _ ae dt (fun j hj=>by(repeat(first|rfl|rw[ad]|rw[ag _ _ _ _ (by omega)])))
  |some z=>
   rw[hl]at hf
   obtain⟨j,hj⟩:=hO hl
   refine Cw eM ho y1 y2 hj ?_
   refine aq (f,z) hf pt (bM.bH _ ae ae dt (fun j hj=> ?_) ?_)
   ·have Q5:j<nx+2:=hj
    by_cases e1:j=nx
    ·subst e1;(repeat(first|rfl|rw[ad]|rw[ag _ _ _ _ (by omega)]))
    ·by_cases e2:j=nx+1
     ·exact Qz
     ·exact dH
   ·exact dU
 ·have eM:(t.op==1)=false:=by simpa using h1
  rw[if_neg h1]at hf
  injection hf with hf
  subst hf
  refine Cr eM ho y1 y2 ?_
  exact hK _ _ ae dt (fun j hj=>by(repeat(first|rfl|rw[ad]|rw[ag _ _ _ _ (by omega)])))
theorem Cb{P:Program}{g:FuncId}{K:KD}{X:XD}{o:Nat->aa}{nx fr:Nat}{all:List V}{ds:List D}{rd0 rd:List Nat}{rs:List D}{Δ:List (Nat×aa)}(mf:rd.all (fun id=>decide (id<nx))=true)(h:zK P g all rd o (.ret rs) Δ)(hk:K (iD rs) Δ rd):mO P g K X o nx fr rd0 ds all:=by
 unfold mO
 exact .inr (Bn mf h hk)
theorem Ku{b:List (Int×Tm)}{t x:Tm}(h:fV b t=some x){o:Nat->aa}{id:Nat}(ho:o id=eJ b):zK Tryz.prog 112 [.mp id, .d t.d] [id] o (.ret [x.d]) []:=by
 obtain⟨f,hf⟩:=kR h
 refine zK.RR (id+1) aG wu (fun i hi j hj=> ?_) (TJ hf (by simp[C9,ho]))
 simp at hi
 subst hi
 rw[ho]at hj
 simp[aa.refs]at hj
structure EqH (o:Nat->aa) (x m l:Nat) (ep:Nat) (lim:Bool) (b:List (Int×Tm)) (L:List TB):Prop where
 row:o x= .row [.mp m, .osl l ep, .d (.bool lim)]
 map:o m=eJ b
 Si:o l= .arr ep 59 4 (L.map TB.d)
theorem DW{s:aB}{lim:Bool}{b:List (Int×Tm)}{L:List TB}{n:Int}{y:Tm}(hb:o7 s b)(hn:bL b n=none)(hr:0<=n/\n<20)(hy:QT s y)(hL:L.length<=1000){x m l:Nat}(o:Nat->aa)(nx:Nat)(hg:Good o nx)(he:EqH o x m l 0 lim b L)(K X:V->(Nat->aa)->Nat->Prop)
 (aS:(dY lim b n y)=(0,b++[(n,y)])->∀o' nx',nx<=nx'->Good o' nx'->EqH o' x m l 1 lim (b++[(n,y)]) (L++[⟨n,y⟩])->(∀j,j<nx->j≠x->j≠m->j≠l->o' j=o j)->K (.bN []) o' nx')
 (pq:(dY lim b n y).1=5->∀o' nx',nx<=nx'->Good o' nx'->(∀j,j<nx->j≠x->j≠m->j≠l->o' j=o j)->X (.d (.iface 162 (.agg []))) o' nx')
 (yc:(dY lim b n y).1=3->∀o' nx',nx<=nx'->Good o' nx'->(∀j,j<nx->j≠x->j≠m->j≠l->o' j=o j)->X (.d (.iface 163 (.agg []))) o' nx'):
 cO Tryz.prog 132 [.ptr x 0, .d (.i n), .d y.d] o nx K X:=by
 obtain⟨hx,hm,hl⟩:=he
 have lx:x<nx:=hg.lt (by rw[hx];exact aa.noConfusion)
 have lm:m<nx:=hg.lt (by rw[hm];exact aa.noConfusion)
 have ll:l<nx:=hg.lt (by rw[hl];exact aa.noConfusion)
 have Ve:x≠m:=fun e=>by subst e;rw[hx]at hm;cases hm
 have Vf:x≠l:=fun e=>by subst e;rw[hx]at hl;cases hl
 have Vg:m≠l:=fun e=>by subst e;rw[hm]at hl;cases hl
 have y1:x≠nx:=ae
 have y2:∀k,x≠nx+k:=fun k=>ae
 have y3:m≠nx:=ae
 have y4:∀k,m≠nx+k:=fun k=>ae
 have y5:l≠nx:=ae
 have y6:∀k,l≠nx+k:=fun k=>ae
 have Ek:∀p∈b,Vs s p.2:=fun p hp=>(hb.ok p hp).2.vs
 have nh:∀p∈b,p.2.fits:=fun p hp=>(hb.ok p hp).2.fits
 refine cO.aJ mix Pu aG ?_
 rw[SD]
 obtain⟨is,zo⟩:∃is:Bool,is=true↔lY b n y:=by
  classical
  exact⟨decide (lY b n y),aG⟩
 refine FK hx hm hl y1 y2 y3 y4 y5 y6 ?_
 refine aX (Fz Ek nh n y hy.vs hy.fits zo) rfl ?_
 refine FK hx hm hl y1 y2 y3 y4 y5 y6 ?_
 refine aL (bc rfl) ?_
 cases is with
 |true=>
  refine FK hx hm hl y1 y2 y3 y4 y5 y6 ?_
  have ky:dY lim b n y=(5,b):=by unfold dY;rw[if_pos (zo.1 rfl)]
  exact pq (by rw[ky]) _ _ ae dt (fun j h1 h2 h3 h4=>by(repeat(first|rfl|rw[ad]|rw[ag _ _ _ _ (by omega)])))
 |false=>
  have Lb: ¬lY b n y:=fun h=>Bool.false_ne_true (zo.2 h)
  have wI:=vl hb hn hr hy Lb
  have e0:L.length<=140737488355327/\(L.length+1)*48<=140737488355328:=ae
  simp+contextual (disch:=first|omega|simp only[go_sem,false_implies]) only[go_sem,wrap64,if_pos,hx,hm,hl,y1,y2,y3,y4,y5,y6,Nat.add_assoc,Nat.left_eq_add,Nat.add_eq_left,Nat.add_left_cancel_iff,ee hn]
  refine aL (cK (ids:=[x,nx,m]) (nx:=nx+15) gH gH [([],[]),([0],[]),([0],[]),([0],[]),([],[]),([1],[]),([2],[2])] cE) ?_
  rw[BV hn]
  simp+contextual (disch:=first|omega|simp only[go_sem,false_implies]) only[go_sem,wrap64,if_pos,hx,hm,hl,y1,y2,y3,y4,y5,y6,Ve,Vf,Vg,Ve.symm,Vf.symm,Vg.symm,Nat.add_assoc,Nat.left_eq_add,Nat.add_eq_left,Nat.add_left_cancel_iff,List.length_map,e0]
  refine aL (cK (ids:=[x,nx,nx+23,l]) (nx:=nx+28) gH gH [([],[]),([],[]),([0],[]),([0],[]),([0],[]),([],[]),([1],[]),([],[]),([],[2]),([3,2],[3]),([0],[]),([0],[]),([0,3],[0])] cE) ?_
  cases lim with
  |false=>
   simp+contextual (disch:=first|omega|simp only[go_sem,false_implies]) only[go_sem,wrap64,if_pos,hx,hm,hl,y1,y2,y3,y4,y5,y6,Ve,Vf,Vg,Ve.symm,Vf.symm,Vg.symm,Nat.add_assoc,Nat.left_eq_add,Nat.add_eq_left,Nat.add_left_cancel_iff]
   exact aS (by unfold dY;rw[if_neg Lb,if_neg (by simp)]) _ _ ae dt ⟨by(repeat(first|rfl|rw[ad]|rw[ag _ _ _ _ (by omega)])),by(repeat(first|rfl|rw[ad]|rw[ag _ _ _ _ (by omega)])),by(repeat(first|rfl|rw[ad]|rw[ag _ _ _ _ (by omega)]));rw[List.map_append];rfl⟩ (fun j h1 h2 h3 h4=>by(repeat(first|rfl|rw[ad]|rw[ag _ _ _ _ (by omega)])))
  |true=>
   obtain⟨fo,vH⟩:∃fo:Bool,fo=true↔∀p∈b++[(n,y)],sX (b++[(n,y)]) p.2:=by
    classical
    exact⟨decide (∀p∈b++[(n,y)],sX (b++[(n,y)]) p.2),aG⟩
   obtain⟨l',MR,R',He,Ez⟩:=wI.sim
   simp+contextual (disch:=first|omega|simp only[go_sem,false_implies]) only[go_sem,wrap64,if_pos,hx,hm,hl,y1,y2,y3,y4,y5,y6,Ve,Vf,Vg,Ve.symm,Vf.symm,Vg.symm,Nat.add_assoc,Nat.left_eq_add,Nat.add_eq_left,Nat.add_left_cancel_iff]
   refine aj (xJ (b:=b++[(n,y)]) (fun p hp=>(wI.ok p hp).2.fits) (fun p hp=>by obtain⟨r,hr⟩:=Ac He 12 p.2 40 (wI.ok p hp).2.vs;exact⟨_,r,hr⟩) vH) rfl ?_
   cases fo with
   |true=>
    refine ma ?_
    exact aS (by unfold dY;rw[if_neg Lb,if_neg (fun h=>h.2 (vH.1 rfl))]) _ _ ae dt ⟨by(repeat(first|rfl|rw[ad]|rw[ag _ _ _ _ (by omega)])),by(repeat(first|rfl|rw[ad]|rw[ag _ _ _ _ (by omega)])),by(repeat(first|rfl|rw[ad]|rw[ag _ _ _ _ (by omega)]));rw[List.map_append];rfl⟩ (fun j h1 h2 h3 h4=>by(repeat(first|rfl|rw[ad]|rw[ag _ _ _ _ (by omega)])))
   |false=>
    refine ma ?_
    exact yc (by unfold dY;rw[if_neg Lb,if_pos ⟨rfl,fun h=>Bool.false_ne_true (vH.2 h)⟩]) _ _ ae dt (fun j h1 h2 h3 h4=>by(repeat(first|rfl|rw[ad]|rw[ag _ _ _ _ (by omega)])))
end Go.Proofs.YtlhemmpklhhgoaaGreat
set_option maxHeartbeats 4000000
namespace Go.Proofs.YtlhemmpklhhgoaaGreat
@[reducible] def zP (p:Tm×Tm):D:= .agg [.i p.1.op, .i p.1.n, .sl (p.1.kids.map Tm.d), .i p.2.op, .i p.2.n, .sl (p.2.kids.map Tm.d)]
def qI(o:Nat->aa)(nx x m:Nat)(lim:Bool)(a c:Tm)(b:List (Int×Tm))(L:List TB)(st:List D):Nat->aa:=
 aA (aA (aA (aA (aA (aA o nx (.row a.row)) (nx+1) (.row c.row)) x (.row [.mp m, .osl (nx+7) 0, .d (.bool lim)])) m (eJ b)) (nx+7) (.arr 0 59 4 (L.map TB.d))) (nx+8) (.arr 0 106 6 st)
section
variable {o:Nat->aa}{nx x m:Nat}{lim:Bool}{a c:Tm}{b:List (Int×Tm)}{L:List TB}{st:List D}(lx:x<nx)(lm:m<nx)(cL:x≠m)
include lx lm cL
theorem eqS_0:qI o nx x m lim a c b L st nx= .row a.row:=FM
theorem eqS_1:qI o nx x m lim a c b L st (nx+1)= .row c.row:=FM
theorem Kv:qI o nx x m lim a c b L st x= .row [.mp m, .osl (nx+7) 0, .d (.bool lim)]:=FM
theorem Kw:qI o nx x m lim a c b L st m=eJ b:=FM
theorem eqS_7:qI o nx x m lim a c b L st (nx+7)= .arr 0 59 4 (L.map TB.d):=FM
theorem eqS_8:qI o nx x m lim a c b L st (nx+8)= .arr 0 106 6 st:=FM
omit lx lm cL in
theorem qO{j:Nat}(h0:j≠nx)(h1:j≠nx+1)(h2:j≠x)(h3:j≠m)(h7:j≠nx+7)(h8:j≠nx+8):qI o nx x m lim a c b L st j=o j:=by unfold qI;(repeat(first|rfl|rw[ad]|rw[ag _ _ _ _ (by omega)]))
omit lx lm cL in
theorem QI{b':List (Int×Tm)}{L':List TB}{st':List D}{j:Nat}(h1:j<nx+7)(h2:j≠x)(h3:j≠m):qI o nx x m lim a c b L st j=qI o nx x m lim a c b' L' st' j:=by
 have e:∀b L st,qI o nx x m lim a c b L st j=aA (aA o nx (.row a.row)) (nx+1) (.row c.row) j:=fun b L st=>by
  unfold qI
  rw[ag _ _ _ _ (by omega),ag _ _ _ _ (by omega),ag _ _ _ _ h3,ag _ _ _ _ h2]
 rw[e,e]
omit lx lm cL in
theorem TK{st':List D}{j:Nat}(h:j≠nx+8):qI o nx x m lim a c b L st j=qI o nx x m lim a c b L st' j:=by
 unfold qI
 rw[ag _ _ _ _ h,ag _ _ _ _ h]
theorem ja(hg:Good o nx):Good (qI o nx x m lim a c b L st) (nx+9):=by
 have _:=cL
 unfold qI
 refine Good.aA (Good.aA (Good.aA (Good.aA (Good.aA (Good.aA (hg.mono ae) ae rfl) ae rfl) ae ?_) ae rfl) ae rfl) ae rfl
 simp[aa.refs,V.aN,V.refs]
 omega
theorem nM(gone:Nat->Prop)(xl xs:V)(l:List V)(hg:Good o nx)(Bv:∀id,gone id->nx+7<=id\/(o id= .no/\id≠nx/\id≠nx+1/\id≠x/\id≠m)){e:Nat->V}{so:Nat->aa}{k:Nat}
 (gl:js so gone 59 4 (L.map TB.d) xl) (gs:js so gone 106 6 st xs) (j8:∀id ep fF,xl= .osl id ep->xs= .osl id fF->False) (sx:so x= .row [.mp m,xl, .d (.bool lim)]) (sm:so m=eJ b)
 (h:∀j,j<nx+7->j≠x->j≠m->qI o nx x m lim a c b L st j= .no\/so j=qI o nx x m lim a c b L st j)
 (he:kx (nx+7) [⟨xl,59,4,L.map TB.d⟩,⟨xs,106,6,st⟩] so gone e l 0):bM nx ⟨e,so,k⟩ ⟨bf l,qI o nx x m lim a c b L st,nx+9⟩:=by
 have hG:=ja (lim:=lim) (a:=a) (c:=c) (b:=b) (L:=L) (st:=st) lx lm cL hg
 refine bM.see gone _ (nx+7) l rfl ae (fun j hj=> ?_) (fun i g h=> ?_) (fun j hj=>hG.fresh j hj) (fun j h1 h2=> ?_) (fun i j gi gj id ep fF h h' e1 e2=> ?_) he
 ·by_cases e1:j=x
  ·subst e1
   rw[Kv lx lm cL]
   exact zX sx (S9 (by simp[V.refs];omega) (HU 0 rfl rfl rfl (CE zY)))
  ·by_cases e2:j=m
   ·subst e2
    rw[Kw lx lm cL]
    exact eQ sm (fun r hr=>by simp[aa.refs]at hr)
   ·rcases h j hj e1 e2 with h|h
    ·rw[h];exact nD
    ·refine eQ h fun r hr=> ?_
     by_cases e3:j=nx
     ·subst e3;rw[eqS_0 lx lm cL]at hr;simp[aa.refs,V.aN,V.refs]at hr
     ·by_cases e4:j=nx+1
      ·subst e4;rw[eqS_1 lx lm cL]at hr;simp[aa.refs,V.aN,V.refs]at hr
      ·rw[qO e3 e4 e1 e2 (by omega) (by omega)]at hr
       have:=hg.refs j r hr
       omega
 ·match i,h with
  |0,h=>simp at h;subst h;exact⟨eqS_7 lx lm cL,gl⟩
  |1,h=>simp at h;subst h;exact⟨eqS_8 lx lm cL,gs⟩
 ·rcases Bv j h1 with h|⟨g1,g2,g3,g4,g5⟩
  ·omega
  ·rw[qO g2 g3 g4 g5 (by omega) (by omega)];exact g1
 ·match i,j,h,h' with
  |0,0,_,_=>rfl
  |1,1,_,_=>rfl
  |0,1,h,h'=>simp at h h';subst h;subst h';exact(j8 _ _ _ e1 e2).elim
  |1,0,h,h'=>simp at h h';subst h;subst h';exact(j8 _ _ _ e2 e1).elim
end
theorem jV(o:Nat->aa)(mj:Bool)(a b:Int):xW Tryz.prog o 164 mj (.d (.agg [.i a, .i b])) (.d (.agg [.i 1, .i 1]))=some (.d (.bool (a==1&&b==1))):=by
 have h1:bC Tryz.prog 164=some (.arr 2 30):=ai
 have h3:bC Tryz.prog 30=some .int:=ai
 have h5:db Tryz.prog 30=some false:=ai
 have h6:n6 Tryz.prog 100 164 (.agg [.i a, .i b]) (.agg [.i 1, .i 1])=some (a==1&&b==1):=by
  have h7:Tryz.prog.cellsOf 30=1:=ai
  simp[n6,h1,h3,h5,h7,Ah,Ls,ij,CI]
 obtain⟨n,e,h⟩:∃n e,Tryz.prog.underlying 164=some (.array n e):=⟨2,30,ai⟩
 have h2:Tryz.prog.eqGuardType Tryz.prog.depth 164=false:=ai
 unfold xW
 rw[h]
 dsimp only
 rw[if_pos h2,h6]
 rfl
section
variable {o:Nat->aa}{nx x m:Nat}{lim:Bool}{a c:Tm}{b:List (Int×Tm)}{L:List TB}{st:List D}(lx:x<nx)(lm:m<nx)(cL:x≠m)
include lx lm cL
theorem Kx(gone:Nat->Prop)(xs:V)(l:List V)(hg:Good o nx)(Bv:∀id,gone id->nx+87<=id\/id=nx+8){xt xu:Tm}{e:Nat->V}{so:Nat->aa}{k:Nat}
 (gs:js so gone 106 6 st xs) (h40:so (nx+40)= .row xt.row) (h41:so (nx+41)= .row xu.row)
 (h:∀j,j<nx+40->j≠nx+8->j≠nx+18->True->so j=qI o nx x m lim a c b L [] j)
 (he:kx (nx+87) [⟨xs,106,6,st⟩] so gone e l 0):bM nx ⟨e,so,k⟩ ⟨bf l,aA (aA (aA (aA (qI o nx x m lim a c b L []) (nx+8) .no) (nx+40) (.row xt.row)) (nx+41) (.row xu.row)) (nx+87) (.arr 0 106 6 st),nx+87+1⟩:=by
 have hG:=ja (lim:=lim) (a:=a) (c:=c) (b:=b) (L:=L) (st:=[]) lx lm cL hg
 refine bM.My gone xs (nx+87) l ae (fun j hj=> ?_) (ad _ _ _) gs (fun j hj=> ?_) (fun j h1 h2=> ?_) he
 ·by_cases e1:j=nx+41
  ·subst e1
   exact qs (y:= .row xu.row) h41 dH (eQ rfl (fun r hr=>by simp[aa.refs,V.aN,V.refs]at hr))
  ·by_cases e2:j=nx+40
   ·subst e2
    exact qs (y:= .row xt.row) h40 dH (eQ rfl (fun r hr=>by simp[aa.refs,V.aN,V.refs]at hr))
   ·by_cases e3:j=nx+8
    ·subst e3
     exact qs (y':= .no) rfl dH nD
    ·by_cases e4:j<nx+9
     ·exact qs (y:=qI o nx x m lim a c b L [] j) (h j ae e3 ae trivial) dH (eQ rfl (fun r hr=>by have:=hG.refs j r hr;omega))
     ·exact qs (y':= .no) rfl (by(repeat(first|rfl|rw[ad]|rw[ag _ _ _ _ (by omega)]));exact hG.fresh j ae) nD
 ·(repeat(first|rfl|rw[ad]|rw[ag _ _ _ _ (by omega)]))
  exact hG.fresh j ae
 ·rcases Bv j h1 with h|h
  ·omega
  ·exact V7
end
end Go.Proofs.YtlhemmpklhhgoaaGreat
namespace Go.Proofs.YtlhemmpklhhgoaaGreat
theorem lP{B:Nat->Prop}{φ:Place}{H:Hp}{w:World}:∀ (pre:List V) (x:V) (rest:List V) (vals:List Value),V.az B φ H w (pre++x::rest) vals↔∃v1 val us,vals=v1++val::us/\V.az B φ H w pre v1/\V.den B φ H w x val/\V.az B φ H w rest us
 |[],x,rest,vals=>by
  constructor
  ·rintro⟨u,us,h1,h2,h3⟩;exact⟨[],u,us,h1,rfl,h2,h3⟩
  ·rintro⟨v1,u,us,h1,h0,h2,h3⟩
   have h0:v1=[]:=h0
   subst h0
   exact⟨u,us,h1,h2,h3⟩
 |a::pre,x,rest,vals=>by
  constructor
  ·rintro⟨u,us,h1,h2,h3⟩
   obtain⟨v1,val,us',g1,g2,g3,g4⟩:=(lP pre x rest us).1 h3
   exact⟨u::v1,val,us',by rw[h1,g1];rfl,⟨u,v1,rfl,h2,g2⟩,g3,g4⟩
  ·rintro⟨v1,val,us',g1,⟨u,v2,g5,g6,g7⟩,g3,g4⟩
   subst g5
   exact⟨u,v2++val::us',by rw[g1];rfl,g6,(lP pre x rest _).2 ⟨v2,val,us',rfl,g7,g3,g4⟩⟩
theorem cO.TL {P:Program}{g:FuncId}(pre:List V){x:V}{d:D}{rest:List V}{o:Nat->aa}{nx:Nat}{K X:V->(Nat->aa)->Nat->Prop}(hx:dL o x=some d)
 (h:cO P g (pre++ .d d::rest) (put o (b7 o x.ids)) nx K X):cO P g (pre++x::rest) o nx K X:=by
 refine⟨h.1,fun M φ w vals hH hd=> ?_⟩
 have hd0:=hd
 obtain⟨v1,val,us,pw,oS,hv,e7⟩:=(lP pre x rest vals.toList).1 hd
 have hu:=fun id aw=>cR x val hv id aw
 obtain⟨f1,f2,f3,f4,f5⟩:=cX (H:=hp o nx) hH x.ids hu
 have jl:(hp o nx).put (b7 o x.ids)=hp (put o (b7 o x.ids)) nx:=Ts (fun y hy=>by
  simp only[b7,List.mem_map]at hy
  obtain⟨id,aw,rfl⟩:=hy
  exact hu id aw)
 have f1':=f1;have f2':=f2
 rw[show b7 (hp o nx).o x.ids=b7 o x.ids from rfl,jl]at f1' f2'
 have Z8:∀k,cF φ ((hp o nx).put (b7 o x.ids)) k->cF φ (hp o nx) k:=by
  rintro k ⟨id,g1,g2⟩
  by_cases aw:id∈x.ids
  ·have:=f3 id aw
   rw[show((hp o nx).put (b7 o x.ids)).o id=_ from this]at g1
   refine⟨id, ?_,g2⟩
   revert g1
   cases(hp o nx).o id<;>simp[aa.fz,aa.live]
  ·have:=f4 id aw
   rw[show((hp o nx).put (b7 o x.ids)).o id=_ from this]at g1
   exact⟨id,g1,g2⟩
 have Ky:∀j,mV (((hp o nx).put (b7 o x.ids)).o j) ((hp o nx).o j):=fun j=>by
  by_cases hm:j∈x.ids
  ·rw[show((hp o nx).put (b7 o x.ids)).o j=_ from f3 j hm];exact mV.fz _
  ·rw[show((hp o nx).put (b7 o x.ids)).o j=_ from f4 j hm];exact mV.rfl' rfl
 have h4:=V.mW (H:=hp o nx) (H':=(hp o nx).put (b7 o x.ids)) (B:=ak M φ (hp o nx)) (B':=ak M φ ((hp o nx).put (b7 o x.ids))) (fun k h h'=>h (h'.imp id (Z8 k))) x val (fun id aw=>⟨Ky id,rfl,(f5 id).2 ((V.nC x val hv) id aw)⟩) hv
 have h5:=fu f1 (o:=o) x d val (fun id aw=>f3 id aw) hx h4
 have h6:=V.fS (H:=hp o nx) (H':=(hp o nx).put (b7 o x.ids)) (B:=ak M φ (hp o nx)) (B':=ak M φ ((hp o nx).put (b7 o x.ids))) (fun k h h'=>h (h'.imp id (Z8 k))) rest us (fun id aw=>⟨Ky id,rfl,(f5 id).2 ((V.fI rest us e7) id aw)⟩) e7
 have h7:=V.fS (H:=hp o nx) (H':=(hp o nx).put (b7 o x.ids)) (B:=ak M φ (hp o nx)) (B':=ak M φ ((hp o nx).put (b7 o x.ids))) (fun k h h'=>h (h'.imp id (Z8 k))) pre v1 (fun id aw=>⟨Ky id,rfl,(f5 id).2 ((V.fI pre v1 oS) id aw)⟩) oS
 rw[show(hp o nx).put (b7 (hp o nx).o x.ids)=hp (put o (b7 o x.ids)) nx from jl]at h5
 rw[jl]at h6 h7
 refine(h.2 M φ w vals f1' ((lP pre (.d d) rest vals.toList).2 ⟨v1,val,us,pw,h7,h5,h6⟩)).mono ?_
 rintro e w' ⟨aC,o',nx',v,k1,k2,k3⟩
 exact⟨aC,o',nx',v,k1,f2'.trans k2,k3⟩
end Go.Proofs.YtlhemmpklhhgoaaGreat
set_option maxHeartbeats 8000000
namespace Go.Proofs.YtlhemmpklhhgoaaGreat
def eqE(nx x:Nat):List V:=[.ptr x 0, .ab, .ab, .ab, .ptr nx 0, .ptr (nx+1) 0, .osl (nx+8) 0]
theorem DX{s:aB}{lim:Bool}{b:List (Int×Tm)}{L:List TB}{a c:Tm}(hb:o7 s b)(ha:QT s a)(hc:QT s c)(hL:L.length<=100){f:Nat}{e:Int}{b':List (Int×Tm)}(hf:iQ lim f a c b=some (e,b'))
 {x m:Nat} {xl:V} (o o1:Nat->aa) (nx:Nat) (gn:Nat->Prop) (hg:Good o nx) (Cs:Good o1 nx) (hx:o x= .row [.mp m,xl, .d (.bool lim)]) (hm:o m=eJ b) (hl:js o gn 59 4 (L.map TB.d) xl)
 (Bv:∀j,gn j->j<nx/\j≠x/\j≠m/\o1 j= .no) (h1:∀j,j<nx->o1 j= .no\/o j=o1 j) (K X:V->(Nat->aa)->Nat->Prop)
 (aS:e=0->∀E:List TB,b'=b++ah E->∀o' nx',nx+8<=nx'->Good o' nx'->EqH o' x m (nx+7) 0 lim b' (L++E)->(∀j,j<nx->j≠x->j≠m->o' j=o1 j)->K (.bN []) o' nx')
 (pq:e=5->∀o' nx',nx<=nx'->Good o' nx'->(∀j,j<nx->j≠x->j≠m->o' j=o1 j)->X (.d (.iface 162 (.agg []))) o' nx')
 (yc:e=3->∀o' nx',nx<=nx'->Good o' nx'->(∀j,j<nx->j≠x->j≠m->o' j=o1 j)->X (.d (.iface 163 (.agg []))) o' nx'):
 cO Tryz.prog 103 [.ptr x 0, .d a.d, .d c.d] o nx K X:=by
 have lx:x<nx:=hg.lt (by rw[hx];exact aa.noConfusion)
 have lm:m<nx:=hg.lt (by rw[hm];exact aa.noConfusion)
 have cL:x≠m:=fun e=>by subst e;rw[hx]at hm;cases hm
 obtain⟨N,hN⟩:=Ks hb ha hc hf
 refine cO.aJ mix Pl aG ?_
 rw[Sv]
 refine Qr hx hm ?_
 refine aF (fun i:Nat×List (Tm×Tm)×List TB=>⟨bf (eqE nx x),qI o1 nx x m lim a c (b++ah i.2.2) (L++i.2.2) (i.2.1.reverse.map zP),nx+9⟩)
  (fun i=>jw lim 1000000000 i.1 i.2.1 (b++ah i.2.2)=some (e,b')/\o7 s (b++ah i.2.2)/\∀p∈i.2.1,QT s p.1/\QT s p.2) (fun i=>i.1) (N,[(a,c)],[])
  ⟨by simpa[ah]using hN,by simpa[ah]using hb,fun p hp=>by simp at hp;subst hp;exact⟨ha,hc⟩⟩ ?_ ?_
 ·dsimp only
  have gx: ¬gn x:=fun h=>(Bv x h).2.1 rfl
  have gm: ¬gn m:=fun h=>(Bv m h).2.2.1 rfl
  refine nM lx lm cL (fun j=>gn j\/j=nx+5) xl (.osl (nx+5) 0) _ Cs (fun id h=> ?_) ?_ (.inr ⟨nx+5,0, .inr rfl,rfl,by(repeat(first|rfl|rw[ad]|rw[ag _ _ _ _ (by omega)]))⟩) (fun id ep fF h h'=> ?_) (by(repeat(first|rfl|rw[ad]|rw[ag _ _ _ _ (by omega)]));exact hx) (by(repeat(first|rfl|rw[ad]|rw[ag _ _ _ _ (by omega)]));rw[hm];simp[ah]) (fun j j1 j2 j3=> ?_) ?_
  ·rcases h with h|h
   ·obtain⟨h1,h2,h3,h4⟩:=Bv id h
    exact .inr ⟨h4,ae,ae,h2,h3⟩
   ·exact .inr ⟨Cs.fresh _ ae,ae,ae,ae,ae⟩
  ·rcases hl with h|⟨id,ep,h1,h2,h3⟩
   ·exact .inl (by simpa using h)
   ·have:=(Bv id h1).1
    exact .inr ⟨id,ep, .inl h1,h2,by(repeat(first|rfl|rw[ad]|rw[ag _ _ _ _ (by omega)]));simpa using h3⟩
  ·rcases hl with⟨h1,_⟩|⟨zJ,ac3,h1,h2,h3⟩
   ·rw[h1]at h;cases h
   ·have:=(Bv zJ h1).1
    rw[h2]at h
    cases h
    cases h'
    omega
  ·by_cases e1:j=nx
   ·subst e1;rw[eqS_0 lx lm cL];right;(repeat(first|rfl|rw[ad]|rw[ag _ _ _ _ (by omega)]))
   ·by_cases e2:j=nx+1
    ·subst e2;rw[eqS_1 lx lm cL];right;(repeat(first|rfl|rw[ad]|rw[ag _ _ _ _ (by omega)]))
    ·rw[qO e1 e2 j2 j3 (by omega) (by omega)]
     by_cases e3:j<nx
     ·rcases h1 j e3 with h|h
      ·exact .inl h
      ·right;(repeat(first|rfl|rw[ad]|rw[ag _ _ _ _ (by omega)]));exact h
     ·left;exact Cs.fresh j ae
  ·unfold eqE
   (repeat(first|exact fY|refine eO ?_|refine du rfl ?_|refine du (lQ (nV ae)) ?_|refine jY 0 rfl rfl rfl ?_|refine kW rfl NA ?_|refine kX rfl zT ?_))
   exact FU
 rintro⟨n,st,E⟩ ⟨hM,hA,hS⟩
 dsimp only at hM hA hS|-
 have f0:=eqS_0 (o:=o1) (lim:=lim) (a:=a) (c:=c) (b:=b++ah E) (L:=L++E) (st:=st.reverse.map zP) lx lm cL
 have f1:=eqS_1 (o:=o1) (lim:=lim) (a:=a) (c:=c) (b:=b++ah E) (L:=L++E) (st:=st.reverse.map zP) lx lm cL
 have fx:=Kv (o:=o1) (lim:=lim) (a:=a) (c:=c) (b:=b++ah E) (L:=L++E) (st:=st.reverse.map zP) lx lm cL
 have fm:=Kw (o:=o1) (lim:=lim) (a:=a) (c:=c) (b:=b++ah E) (L:=L++E) (st:=st.reverse.map zP) lx lm cL
 have f7:=eqS_7 (o:=o1) (lim:=lim) (a:=a) (c:=c) (b:=b++ah E) (L:=L++E) (st:=st.reverse.map zP) lx lm cL
 have f8:=eqS_8 (o:=o1) (lim:=lim) (a:=a) (c:=c) (b:=b++ah E) (L:=L++E) (st:=st.reverse.map zP) lx lm cL
 unfold eqE
 cases n with
 |zero=>cases hM
 |succ n=>
 cases st with
 |nil=>
  simp only[jw]at hM
  injection hM with hM
  injection hM with hM1 hM2
  simp only[List.reverse_nil,List.map_nil]at f0 f1 fx fm f7 f8|-
  refine Qp f0 f1 fm f7 f8 ?_
  refine aS hM1.symm E hM2.symm _ _ ae (Good.mono (ja lx lm cL Cs) ae) ⟨fx,hM2 ▸ fm,f7⟩ (fun j h1 h2 h3=> ?_)
  exact qO ae ae h2 h3 ae ae
 |cons p st=>
 obtain⟨t,u⟩:=p
 have Ex:Good o1 nx:=Cs
 have hlen:(st.length:Int)+1>0:=ae
 have hrv:((t,u)::st).reverse.map zP=st.reverse.map zP++[zP (t,u)]:=aG
 rw[hrv]at f0 f1 fx fm f7 f8|-
 have jB:st.length<1000000000:=by
  refine Classical.byContradiction fun h=> ?_
  simp only[jw]at hM
  rw[if_pos (by omega)]at hM
  cases hM
 have fe:decide ((0:Int)<((st.length+1:Nat):Int))=true:=by rw[decide_eq_true_eq];omega
 have sL:((st.length+1:Nat):Int) - 1=(st.length:Nat):=ae
 have ox:(st.reverse.map zP++[zP (t,u)])[st.length]? =some (zP (t,u)):=by
  rw[List.getElem?_append_right (by simp)]
  simp
 have acJ:(if((st.length:Nat):Int)=0 then some (V.osl (nx+8) 1,[(nx+8,aa.arr 1 106 6 [])],[nx+8])else some (V.osl (nx+8) 1,[(nx+8,aa.arr 1 106 6 (List.take st.length (st.reverse.map zP++[zP (t,u)])))],[nx+8]))=some (V.osl (nx+8) 1,[(nx+8,aa.arr 1 106 6 (st.reverse.map zP))],[nx+8]):=by
  split
  ·have LD:st=[]:=List.eq_nil_of_length_eq_zero ae
   subst LD
   rfl
  ·rw[List.take_append_of_le_length (by simp),List.take_of_length_le (by simp)]
 obtain⟨xt,hxt,Vh,uxt⟩:=eL hA (hS (t,u) aG).1
 obtain⟨xu,Iy,qxu,uxu⟩:=eL hA (hS (t,u) aG).2
 simp+contextual (disch:=first|omega|simp only[go_sem,false_implies]) only[go_sem,wrap64,if_pos,f0,f1,fx,fm,f7,f8,Nat.add_assoc,Nat.left_eq_add,Nat.add_eq_left,Nat.add_left_cancel_iff,List.length_map,List.length_append,List.length_reverse,fe,sL,ox,acJ]
 refine Cb gH (Ku hxt FN) ?_
 refine Qp f0 f1 fm f7 f8 ?_
 refine Cb gH (Ku Iy FN) ?_
 refine Qp f0 f1 fm f7 f8 ?_
 refine aL (cK (ids:=[x,nx+18,m,nx+40,nx+41]) (nx:=nx+44) gH gH [([],[]),([0],[]),([0],[]),([0],[]),([1],[]),([1],[]),([2],[]),([],[]),([0],[]),([0],[]),([0],[]),([1],[]),([1],[]),([2],[]),([],[3]),([],[4]),([3],[3]),([4],[4])] cE) ?_
 simp only[jw]at hM
 rw[if_neg (by omega),hxt,Iy]at hM
 dsimp only at hM
 have hLE:(L++E).length<=1000:=by
  have h20:=DM hA.keys fun v hv=>by
   obtain⟨p,hp,rfl⟩:=List.mem_map.1 hv
   exact(hA.ok p hp).1
  rw[List.length_map,List.length_append,ah,List.length_map]at h20
  rw[List.length_append]
  omega
 have He:∀p∈st,QT s p.1/\QT s p.2:=fun p hp=>hS p (by simp[hp])
 by_cases h1:xt.op=1
 ·rw[if_pos h1]at hM
  have eM:(xt.op==1)=true:=by simpa using h1
  by_cases h2:xu.op=1
  ·rw[if_pos h2]at hM
   have iK:(xu.op==1)=true:=by simpa using h2
   by_cases h3:xt.n=xu.n
   ·rw[if_pos h3]at hM
    have lT:(xt.n !=xu.n)=false:=by simp[h3]
    simp+contextual (disch:=first|omega|simp only[go_sem,false_implies]) only[go_sem,wrap64,if_pos,f0,f1,fx,fm,f7,f8,Nat.add_assoc,Nat.left_eq_add,Nat.add_eq_left,Nat.add_left_cancel_iff,jV,eM,iK,lT,Bool.and_self]
    refine aq (n,st,E) ⟨hM,hA,He⟩ (Nat.lt_succ_self n) (nM lx lm cL (fun j=>nx+7<=j) (.osl (nx+7) 0) (.osl (nx+8) 1) _ Cs (fun id h=> .inl h) (.inr ⟨nx+7,0,Nat.le_refl _,rfl,by(repeat(first|rfl|rw[ad]|rw[ag _ _ _ _ (by omega)]));exact f7⟩) (.inr ⟨nx+8,1,ae,rfl,by(repeat(first|rfl|rw[ad]|rw[ag _ _ _ _ (by omega)]))⟩) (fun id ep fF h h'=>by cases h;cases h') Lj FN (fun j j1 j2 j3=> ?_) ?_)
    ·right
     (repeat(first|rfl|rw[ad]|rw[ag _ _ _ _ (by omega)]))
     exact z7
    ·(repeat(first|exact fY|refine eO ?_|refine du rfl ?_|refine du (lQ (nV ae)) ?_|refine jY 0 rfl rfl rfl ?_|refine kW rfl NA ?_|refine kX rfl zT ?_))
     exact FU
   ·rw[if_neg h3]at hM
    have lT:(xt.n !=xu.n)=true:=by simp[h3]
    obtain⟨rt,et⟩:=Vh.eta h1
    obtain⟨ru,eu⟩:=qxu.eta h2
    have M6:bL (b++ah E) (max xt.n xu.n)=none:=by
     rw[Int.max_def];split
     ·exact uxu h2
     ·exact uxt h1
    simp+contextual (disch:=first|omega|simp only[go_sem,false_implies]) only[go_sem,wrap64,if_pos,f0,f1,fx,fm,f7,f8,Nat.add_assoc,Nat.left_eq_add,Nat.add_eq_left,Nat.add_left_cancel_iff,jV,eM,iK,lT,Bool.and_self]
    have em:(if xu.n>xt.n then xu.n else xt.n)=max xt.n xu.n:=by rw[Int.max_def];split<;>split<;>omega
    have en:(if xu.n<xt.n then xu.n else xt.n)=min xt.n xu.n:=by rw[Int.min_def];split<;>split<;>omega
    rw[em,en]
    refine bp (cO.TL [.ptr x 0, .d (.i (max xt.n xu.n))] (d:=(Tm.mk 1 (min xt.n xu.n) []).d) (rest:=[]) rfl ?_)
    simp only[V.ids,V.a8,List.append_nil,b7,List.map_nil,Jc,List.cons_append,List.nil_append]
    refine DW (s:=s) (lim:=lim) (b:=b++ah E) (L:=L++E) (n:=max xt.n xu.n) (y:= .mk 1 (min xt.n xu.n) []) hA M6 ae (QT.var ae) hLE (x:=x) (m:=m) (l:=nx+7) _ _ ?_ ⟨?_, ?_, ?_⟩ _ _ (fun ky o2 n2 k1 k2 k3 k4=> ?_) (fun ky o2 n2 k1 k2 k4=> ?_) (fun ky o2 n2 k1 k2 k4=> ?_)
    ·refine Good.aA (Good.aA (Good.aA (Good.aA (Good.aA (Good.aA (Good.aA (Good.mono (ja lx lm cL Cs) ae) ae rfl) ae rfl) ae rfl) ae rfl) ae rfl) ae rfl) ae rfl
    ·exact Lj
    ·exact FN
    ·exact HL
    ·rw[ky,if_pos rfl]at hM
     obtain⟨g1,g2,g3⟩:=k3
     refine bJ ?_
     refine aq (n,st,E++[⟨max xt.n xu.n, .mk 1 (min xt.n xu.n) []⟩]) ⟨by rw[dZ];simpa[ah]using hM,by have:=(nL (lim:=lim) (n:=max xt.n xu.n) (y:= .mk 1 (min xt.n xu.n) []) hA M6 ae (QT.var ae) (by rw[ky])).1;rw[ky]at this;rw[dZ];simpa[ah]using this,He⟩ (Nat.lt_succ_self n) (nM lx lm cL (fun j=>nx+7<=j) (.osl (nx+7) 1) (.osl (nx+8) 1) _ Cs (fun id h=> .inl h) (.inr ⟨nx+7,1,Nat.le_refl _,rfl,by rw[g3,List.append_assoc]⟩) (.inr ⟨nx+8,1,ae,rfl,by rw[k4 _ (by omega) (by omega) (by omega) (by omega)];(repeat(first|rfl|rw[ad]|rw[ag _ _ _ _ (by omega)]))⟩) (fun id ep fF h h'=>by cases h;cases h') g1 (by rw[g2,dZ];simp[ah]) (fun j j1 j2 j3=> ?_) ?_)
     ·right
      rw[k4 j (by omega) j2 j3 (by omega)]
      (repeat(first|rfl|rw[ad]|rw[ag _ _ _ _ (by omega)]))
      exact z7
     ·(repeat(first|exact fY|refine eO ?_|refine du rfl ?_|refine du (lQ (nV ae)) ?_|refine jY 0 rfl rfl rfl ?_|refine kW rfl NA ?_|refine kX rfl zT ?_))
      exact FU
    ·rw[if_neg (by rw[ky];decide)]at hM
     have he:e=5:=by injection hM with hM;rw[hM]at ky;exact ky
     refine bJ ?_
     refine pq he _ _ ae k2 (fun j j1 j2 j3=> ?_)
     rw[k4 j (by omega) j2 j3 (by omega)]
     (repeat(first|rfl|rw[ad]|rw[ag _ _ _ _ (by omega)]))
     exact FO
    ·rw[if_neg (by rw[ky];decide)]at hM
     have he:e=3:=by injection hM with hM;rw[hM]at ky;exact ky
     refine bJ ?_
     refine yc he _ _ ae k2 (fun j j1 j2 j3=> ?_)
     rw[k4 j (by omega) j2 j3 (by omega)]
     (repeat(first|rfl|rw[ad]|rw[ag _ _ _ _ (by omega)]))
     exact FO
  ·rw[if_neg h2]at hM
   have iK:(xu.op==1)=false:=by simpa using h2
   obtain⟨rt,et⟩:=Vh.eta h1
   simp+contextual (disch:=first|omega|simp only[go_sem,false_implies]) only[go_sem,wrap64,if_pos,f0,f1,fx,fm,f7,f8,Nat.add_assoc,Nat.left_eq_add,Nat.add_eq_left,Nat.add_left_cancel_iff,jV,eM,iK,Bool.and_false]
   refine bp (DW (s:=s) (lim:=lim) (b:=b++ah E) (L:=L++E) (n:=xt.n) (y:=xu) hA (uxt h1) rt qxu hLE (x:=x) (m:=m) (l:=nx+7) _ _ ?_ ⟨?_, ?_, ?_⟩ _ _ (fun ky o2 n2 k1 k2 k3 k4=> ?_) (fun ky o2 n2 k1 k2 k4=> ?_) (fun ky o2 n2 k1 k2 k4=> ?_))
   ·refine Good.aA (Good.aA (Good.aA (Good.aA (Good.aA (Good.aA (Good.aA (Good.mono (ja lx lm cL Cs) ae) ae rfl) ae rfl) ae rfl) ae rfl) ae rfl) ae rfl) ae rfl
   ·exact Lj
   ·exact FN
   ·exact HL
   ·rw[ky,if_pos rfl]at hM
    obtain⟨g1,g2,g3⟩:=k3
    refine bJ ?_
    refine aq (n,st,E++[⟨xt.n,xu⟩]) ⟨by rw[dZ];simpa[ah]using hM,by have:=(nL (lim:=lim) hA (uxt h1) rt qxu (by rw[ky])).1;rw[ky]at this;rw[dZ];simpa[ah]using this,He⟩ (Nat.lt_succ_self n) (nM lx lm cL (fun j=>nx+7<=j) (.osl (nx+7) 1) (.osl (nx+8) 1) _ Cs (fun id h=> .inl h) (.inr ⟨nx+7,1,Nat.le_refl _,rfl,by rw[g3,List.append_assoc]⟩) (.inr ⟨nx+8,1,ae,rfl,by rw[k4 _ (by omega) (by omega) (by omega) (by omega)];(repeat(first|rfl|rw[ad]|rw[ag _ _ _ _ (by omega)]))⟩) (fun id ep fF h h'=>by cases h;cases h') g1 (by rw[g2,dZ];simp[ah]) (fun j j1 j2 j3=> ?_) ?_)
    ·right
     rw[k4 j (by omega) j2 j3 (by omega)]
     (repeat(first|rfl|rw[ad]|rw[ag _ _ _ _ (by omega)]))
     exact z7
    ·(repeat(first|exact fY|refine eO ?_|refine du rfl ?_|refine du (lQ (nV ae)) ?_|refine jY 0 rfl rfl rfl ?_|refine kW rfl NA ?_|refine kX rfl zT ?_))
     exact FU
   ·rw[if_neg (by rw[ky];decide)]at hM
    have he:e=5:=by injection hM with hM;rw[hM]at ky;exact ky
    refine bJ ?_
    refine pq he _ _ ae k2 (fun j j1 j2 j3=> ?_)
    rw[k4 j (by omega) j2 j3 (by omega)]
    (repeat(first|rfl|rw[ad]|rw[ag _ _ _ _ (by omega)]))
    exact FO
   ·rw[if_neg (by rw[ky];decide)]at hM
    have he:e=3:=by injection hM with hM;rw[hM]at ky;exact ky
    refine bJ ?_
    refine yc he _ _ ae k2 (fun j j1 j2 j3=> ?_)
    rw[k4 j (by omega) j2 j3 (by omega)]
    (repeat(first|rfl|rw[ad]|rw[ag _ _ _ _ (by omega)]))
    exact FO
 ·rw[if_neg h1]at hM
  have eM:(xt.op==1)=false:=by simpa using h1
  by_cases h2:xu.op=1
  ·rw[if_pos h2]at hM
   have iK:(xu.op==1)=true:=by simpa using h2
   obtain⟨ru,eu⟩:=qxu.eta h2
   simp+contextual (disch:=first|omega|simp only[go_sem,false_implies]) only[go_sem,wrap64,if_pos,f0,f1,fx,fm,f7,f8,Nat.add_assoc,Nat.left_eq_add,Nat.add_eq_left,Nat.add_left_cancel_iff,jV,eM,iK,Bool.false_and]
   refine bp (DW (s:=s) (lim:=lim) (b:=b++ah E) (L:=L++E) (n:=xu.n) (y:=xt) hA (uxu h2) ru Vh hLE (x:=x) (m:=m) (l:=nx+7) _ _ ?_ ⟨?_, ?_, ?_⟩ _ _ (fun ky o2 n2 k1 k2 k3 k4=> ?_) (fun ky o2 n2 k1 k2 k4=> ?_) (fun ky o2 n2 k1 k2 k4=> ?_))
   ·refine Good.aA (Good.aA (Good.aA (Good.aA (Good.aA (Good.aA (Good.aA (Good.mono (ja lx lm cL Cs) ae) ae rfl) ae rfl) ae rfl) ae rfl) ae rfl) ae rfl) ae rfl
   ·exact Lj
   ·exact FN
   ·exact HL
   ·rw[ky,if_pos rfl]at hM
    obtain⟨g1,g2,g3⟩:=k3
    refine bJ ?_
    refine aq (n,st,E++[⟨xu.n,xt⟩]) ⟨by rw[dZ];simpa[ah]using hM,by have:=(nL (lim:=lim) hA (uxu h2) ru Vh (by rw[ky])).1;rw[ky]at this;rw[dZ];simpa[ah]using this,He⟩ (Nat.lt_succ_self n) (nM lx lm cL (fun j=>nx+7<=j) (.osl (nx+7) 1) (.osl (nx+8) 1) _ Cs (fun id h=> .inl h) (.inr ⟨nx+7,1,Nat.le_refl _,rfl,by rw[g3,List.append_assoc]⟩) (.inr ⟨nx+8,1,ae,rfl,by rw[k4 _ (by omega) (by omega) (by omega) (by omega)];(repeat(first|rfl|rw[ad]|rw[ag _ _ _ _ (by omega)]))⟩) (fun id ep fF h h'=>by cases h;cases h') g1 (by rw[g2,dZ];simp[ah]) (fun j j1 j2 j3=> ?_) ?_)
    ·right
     rw[k4 j (by omega) j2 j3 (by omega)]
     (repeat(first|rfl|rw[ad]|rw[ag _ _ _ _ (by omega)]))
     exact z7
    ·(repeat(first|exact fY|refine eO ?_|refine du rfl ?_|refine du (lQ (nV ae)) ?_|refine jY 0 rfl rfl rfl ?_|refine kW rfl NA ?_|refine kX rfl zT ?_))
     exact FU
   ·rw[if_neg (by rw[ky];decide)]at hM
    have he:e=5:=by injection hM with hM;rw[hM]at ky;exact ky
    refine bJ ?_
    refine pq he _ _ ae k2 (fun j j1 j2 j3=> ?_)
    rw[k4 j (by omega) j2 j3 (by omega)]
    (repeat(first|rfl|rw[ad]|rw[ag _ _ _ _ (by omega)]))
    exact FO
   ·rw[if_neg (by rw[ky];decide)]at hM
    have he:e=3:=by injection hM with hM;rw[hM]at ky;exact ky
    refine bJ ?_
    refine yc he _ _ ae k2 (fun j j1 j2 j3=> ?_)
    rw[k4 j (by omega) j2 j3 (by omega)]
    (repeat(first|rfl|rw[ad]|rw[ag _ _ _ _ (by omega)]))
    exact FO
  ·rw[if_neg h2]at hM
   have iK:(xu.op==1)=false:=by simpa using h2
   by_cases h3:xt.op=xu.op/\xt.n=xu.n/\xt.kids.length=xu.kids.length
   ·rw[if_pos h3]at hM
    obtain⟨h3a,h3b,h3c⟩:=h3
    have c1:(xt.op !=xu.op)=false:=by simp[h3a]
    have c2:(xt.n !=xu.n)=false:=by simp[h3b]
    have c3:((xt.kids.length:Int)!=(xu.kids.length:Int))=false:=by simp[h3c]
    have ML:xt.kids.length<=2000:=by have:=lN xt.kids;have:=Tm.jt xt;have:=Vh.sz;omega
    simp+contextual (disch:=first|omega|simp only[go_sem,false_implies]) only[go_sem,wrap64,if_pos,f0,f1,fx,fm,f7,f8,Nat.add_assoc,Nat.left_eq_add,Nat.add_eq_left,Nat.add_left_cancel_iff,jV,eM,iK,Bool.and_self,c1,c2,c3,List.length_map]
    obtain⟨len,oi⟩:∃len,xt.kids.length=len:=⟨_,rfl⟩
    have hlu:xu.kids.length=len:=by rw[<- h3c,oi]
    refine aF (fun j:Nat=>⟨bf [.ptr x 0, .ab, .ab, .ab, .ptr nx 0, .ptr (nx+1) 0, .osl (nx+87) 0, .ab, .ptr (nx+40) 0, .ptr (nx+41) 0, .d (.i ((len:Int) - 1 - (j:Int)))],aA (aA (aA (aA (qI o1 nx x m lim a c (b++ah E) (L++E) []) (nx+8) .no) (nx+40) (.row xt.row)) (nx+41) (.row xu.row)) (nx+87) (.arr 0 106 6 (st.reverse.map zP++((xt.kids.zip xu.kids).reverse.take j).map zP)),nx+88⟩)
     (fun j=>j<=len) (fun j=>len - j) 0 (Nat.zero_le _) (Kx lx lm cL (fun id=>id=nx+8) (.osl (nx+8) 1) _ Cs (fun id h=> .inr h) (.inr ⟨nx+8,1,rfl,rfl,by(repeat(first|rfl|rw[ad]|rw[ag _ _ _ _ (by omega)]));simp⟩) dH dH (fun j j1 j2 j3 j4=>by(repeat(first|rfl|rw[ad]|rw[ag _ _ _ _ (by omega)]));exact TK j2) ?_) (fun j hj=> ?_)
    ·(repeat(first|exact fY|refine eO ?_|refine du rfl ?_|refine du (lQ (nV ae)) ?_|refine jY 0 rfl rfl rfl ?_|refine kW rfl NA ?_|refine kX rfl zT ?_))
     refine du (lQ ae) ?_
     exact CA
    ·replace hj:j<=len:=hj
     have q40:∀l,aA (aA (aA (aA (qI o1 nx x m lim a c (b++ah E) (L++E) []) (nx+8) .no) (nx+40) (.row xt.row)) (nx+41) (.row xu.row)) (nx+87) (.arr 0 106 6 l) (nx+40)= .row xt.row:=fun l=>by(repeat(first|rfl|rw[ad]|rw[ag _ _ _ _ (by omega)]))
     have q41:∀l,aA (aA (aA (aA (qI o1 nx x m lim a c (b++ah E) (L++E) []) (nx+8) .no) (nx+40) (.row xt.row)) (nx+41) (.row xu.row)) (nx+87) (.arr 0 106 6 l) (nx+41)= .row xu.row:=fun l=>by(repeat(first|rfl|rw[ad]|rw[ag _ _ _ _ (by omega)]))
     have hrl:(xt.kids.zip xu.kids).reverse.length=len:=by rw[List.length_reverse,List.length_zip,oi,hlu];omega
     refine ma ?_
     refine au (fun h4=> ?_) (fun h4=> ?_)
     ·have h4:j<len:=by simp at h4;omega
      obtain⟨i0,hi0⟩:∃i0:Nat,(len:Int) - 1 - (j:Int)=(i0:Int):=⟨len - 1 - j,ae⟩
      rw[hi0]
      obtain⟨z1,hz1⟩:=aD (show i0<xt.kids.length from ae)
      obtain⟨z2,TM⟩:=aD (show i0<xu.kids.length from ae)
      have hrz:(xt.kids.zip xu.kids).reverse[j]? =some (z1,z2):=by
       rw[List.getElem?_reverse (by rw[List.length_zip];omega),List.length_zip,oi,hlu,show min len len - 1 - j=i0 by omega,List.getElem?_zip_eq_some]
       exact⟨hz1,TM⟩
      have zO:(xt.kids.zip xu.kids).reverse.take (j+1)=(xt.kids.zip xu.kids).reverse.take j++[(z1,z2)]:=by rw[List.take_add_one,hrz];rfl
      have e0:((xt.kids.zip xu.kids).reverse.take j).length=j:=by rw[List.length_take];omega
      have j9:st.length+j<=140737488355327/\(st.length+j+1)*80<=140737488355328:=ae
      simp+contextual (disch:=first|omega|simp only[go_sem,false_implies]) only[go_sem,wrap64,if_pos,Nat.add_assoc,Nat.left_eq_add,Nat.add_eq_left,Nat.add_left_cancel_iff,hz1,TM,List.length_map,List.length_append,List.length_reverse,e0,j9]
      refine aL (cK (ids:=[nx+40,nx+41,nx+102,nx+87]) (nx:=nx+105) aG aG [([],[]),([0],[]),([0],[]),([],[]),([],[]),([],[]),([1],[]),([1],[]),([],[]),([],[]),([],[]),([],[]),([],[2]),([3,2],[3]),([],[])] cE) ?_
      refine ma ?_
      refine aq (j+1) h4 ae (Kx lx lm cL (fun id=>nx+87<=id) (.osl (nx+87) 1) _ Cs (fun id h=> .inl h) (.inr ⟨nx+87,1,Nat.le_refl _,rfl,by(repeat(first|rfl|rw[ad]|rw[ag _ _ _ _ (by omega)]));rw[zO,List.map_append,List.append_assoc];rfl⟩) dH dH (fun j j1 j2 j3 j4=>by(repeat(first|rfl|rw[ad]|rw[ag _ _ _ _ (by omega)]))) ?_)
      (repeat(first|exact fY|refine eO ?_|refine du rfl ?_|refine du (lQ (nV ae)) ?_|refine jY 0 rfl rfl rfl ?_|refine kW rfl NA ?_|refine kX rfl zT ?_))
      refine du (lQ ae) ?_
      exact CA
     ·have h4:j=len:=by simp at h4;omega
      subst h4
      refine ma ?_
      refine aq (n,xt.kids.zip xu.kids++st,E) ⟨hM,hA,fun p hp=> ?_⟩ (Nat.lt_succ_self n) (nM lx lm cL (fun j=>nx+7<=j) (.osl (nx+7) 0) (.osl (nx+87) 0) _ Cs (fun id h=> .inl h) (.inr ⟨nx+7,0,Nat.le_refl _,rfl, ?_⟩) (.inr ⟨nx+87,0,ae,rfl, ?_⟩) (fun id ep fF h h'=>by cases h;cases h') ?_ ?_ (fun j j1 j2 j3=> ?_) ?_)
      ·rcases List.mem_append.1 hp with hp|hp
       ·exact⟨Vh.lW (List.of_mem_zip hp).1,qxu.lW (List.of_mem_zip hp).2⟩
       ·exact He p hp
      ·(repeat(first|rfl|rw[ad]|rw[ag _ _ _ _ (by omega)]))
       exact eqS_7 lx lm cL
      ·(repeat(first|rfl|rw[ad]|rw[ag _ _ _ _ (by omega)]))
       rw[List.take_of_length_le (by omega),List.reverse_append,List.map_append]
      ·(repeat(first|rfl|rw[ad]|rw[ag _ _ _ _ (by omega)]))
       exact Kv lx lm cL
      ·(repeat(first|rfl|rw[ad]|rw[ag _ _ _ _ (by omega)]))
       exact Kw lx lm cL
      ·right
       (repeat(first|rfl|rw[ad]|rw[ag _ _ _ _ (by omega)]))
       exact z7
      ·(repeat(first|exact fY|refine eO ?_|refine du rfl ?_|refine du (lQ (nV ae)) ?_|refine jY 0 rfl rfl rfl ?_|refine kW rfl NA ?_|refine kX rfl zT ?_))
       exact FU
   ·rw[if_neg h3]at hM
    injection hM with hM
    injection hM with hM1 hM2
    by_cases c1:(xt.op !=xu.op)=true
    ·simp+contextual (disch:=first|omega|simp only[go_sem,false_implies]) only[go_sem,wrap64,if_pos,f0,f1,fx,fm,f7,f8,Nat.add_assoc,Nat.left_eq_add,Nat.add_eq_left,Nat.add_left_cancel_iff,jV,eM,iK,Bool.and_self,c1,List.length_map]
     exact zy9
    have c1':(xt.op !=xu.op)=false:=by simpa using c1
    by_cases c2:(xt.n !=xu.n)=true
    ·simp+contextual (disch:=first|omega|simp only[go_sem,false_implies]) only[go_sem,wrap64,if_pos,f0,f1,fx,fm,f7,f8,Nat.add_assoc,Nat.left_eq_add,Nat.add_eq_left,Nat.add_left_cancel_iff,jV,eM,iK,Bool.and_self,c1',c2,List.length_map]
     exact zy9
    have c2':(xt.n !=xu.n)=false:=by simpa using c2
    have c3:((xt.kids.length:Int)!=(xu.kids.length:Int))=true:=by
     rw[bne_iff_ne]
     intro h
     exact h3 ⟨by simpa using c1',by simpa using c2',ae⟩
    simp+contextual (disch:=first|omega|simp only[go_sem,false_implies]) only[go_sem,wrap64,if_pos,f0,f1,fx,fm,f7,f8,Nat.add_assoc,Nat.left_eq_add,Nat.add_eq_left,Nat.add_left_cancel_iff,jV,eM,iK,Bool.and_self,c1',c2',c3,List.length_map]
    exact zy9
end Go.Proofs.YtlhemmpklhhgoaaGreat
set_option maxHeartbeats 4000000
namespace Go.Proofs.YtlhemmpklhhgoaaGreat
def vK(o:Nat->aa)(nx:Nat)(s:gG)(m:aa):Nat->aa:=
 aA (aA (aA (aA o nx (.row s.row)) (nx+1) (.row [.aM, .aM, .aM, .aM, .aM, .d .dC])) (nx+4) m) (nx+6) (.row (s.row++[.mp (nx+4)]))
theorem kpH_0(o:Nat->aa)(nx:Nat)(s:gG)(m:aa):vK o nx s m nx= .row s.row:=by
 unfold vK;rw[ag _ _ _ _ (by omega),ag _ _ _ _ (by omega),ag _ _ _ _ (by omega),ad]
theorem kpH_1(o:Nat->aa)(nx:Nat)(s:gG)(m:aa):vK o nx s m (nx+1)= .row [.aM, .aM, .aM, .aM, .aM, .d .dC]:=by
 unfold vK;rw[ag _ _ _ _ (by omega),ag _ _ _ _ (by omega),ad]
theorem kpH_4(o:Nat->aa)(nx:Nat)(s:gG)(m:aa):vK o nx s m (nx+4)=m:=by
 unfold vK;rw[ag _ _ _ _ (by omega),ad]
theorem kpH_6(o:Nat->aa)(nx:Nat)(s:gG)(m:aa):vK o nx s m (nx+6)= .row (s.row++[.mp (nx+4)]):=by unfold vK;rw[ad]
theorem Kz(o:Nat->aa)(nx:Nat)(s:gG)(m:aa){j:Nat}(h0:j≠nx)(h1:j≠nx+1)(h4:j≠nx+4)(h6:j≠nx+6):vK o nx s m j=o j:=by
 unfold vK;rw[ag _ _ _ _ h6,ag _ _ _ _ h4,ag _ _ _ _ h1,ag _ _ _ _ h0]
theorem FE(o:Nat->aa)(nx:Nat)(s:gG)(m m':aa)(j:Nat):aA (vK o nx s m) (nx+4) m' j=vK o nx s m' j:=by
 by_cases e:j=nx+4
 ·subst e;rw[ad,kpH_4]
 ·rw[ag _ _ _ _ e]
  unfold vK
  by_cases e6:j=nx+6
  ·subst e6;rw[ad,ad]
  ·rw[ag _ _ _ _ e6,ag _ _ _ _ e6,ag _ _ _ _ e,ag _ _ _ _ e]
theorem qD{o:Nat->aa}{nx:Nat}(hg:Good o nx)(s:gG){m:aa}(hm:m.refs=[]):Good (vK o nx s m) (nx+7):=by
 unfold vK
 refine Good.aA (Good.aA (Good.aA (Good.aA (hg.mono ae) ae rfl) ae rfl) ae (by rw[hm];rfl)) ae D6
theorem M9(o:Nat->aa)(nx:Nat)(s:gG)(j:Nat):
 aA (aA (aA (aA (aA o nx (.row s.row)) (nx+1) (.row [.aM, .aM, .aM, .aM, .aM, .d .dC])) (nx+4) (eJ [])) (nx+6) (.row [.aM, .aM, .aM, .aM, .aM, .d .dC])) (nx+6) (.row (s.row++[.mp (nx+4)])) j=vK o nx s (eJ []) j:=by
 unfold vK
 by_cases e:j=nx+6
 ·subst e;rw[ad,ad]
 ·rw[ag _ _ _ _ e,ag _ _ _ _ e,ag _ _ _ _ e]
set_option maxRecDepth 100000 in
theorem Na(s:gG)(hs:s.Fin)(o:Nat->aa)(nx:Nat)(hg:Good o nx)(K X:V->(Nat->aa)->Nat->Prop)
 (TN:ck s->∀o' nx' id,nx<=nx'->Good o' nx'->(∀j,j<nx->o' j=o j)->o' id= .cZ (enc (D.int .i64) (ou (ah s.binds)))->K (.bN [.agg (s.row++[.mp id]), .d (.bool true)]) o' nx')
 (pq: ¬ck s->∀o' nx' id m,nx<=nx'->id<nx'->Good o' nx'->(∀j,j<nx->o' j=o j)->o' id=eJ m\/o' id= .cZ (enc (D.int .i64) (ou m))->K (.bN [.agg (s.row++[.mp id]), .d (.bool false)]) o' nx'):
 cO Tryz.prog 79 [.d s.d] o nx K X:=by
 refine cO.aJ mix YB aG ?_
 rw[c79]
 refine ma ?_
 refine aj (uW s.sig hs.sig) rfl ?_
 have tL:=hs.bl
 have vE:=hs.nl
 have Ht:=hs.ml
 cases h1:lH s.sig with
 |false=>
  simp+contextual (disch:=first|omega|simp only[go_sem,false_implies]) only[go_sem,wrap64,if_pos,mc,Nat.add_assoc,Nat.left_eq_add,Nat.add_eq_left,Nat.add_left_cancel_iff,List.length_map]
  refine pq (fun h=> ?_) _ _ (nx+4) [] ?_ ?_ ?_ (fun j hj=> ?_) (.inl ?_)
  rotate_left
  ·omega
  ·omega
  ·exact dt
  ·exact dH
  ·exact dH
  have:=h.sig
  rw[h1]at this;cases this
 |true=>
 by_cases h2:20<s.binds.length
 ·have iK:decide ((s.binds.length:Int)>20)=true:=by simp;omega
  simp+contextual (disch:=first|omega|simp only[go_sem,false_implies]) only[go_sem,wrap64,if_pos,mc,Nat.add_assoc,Nat.left_eq_add,Nat.add_eq_left,Nat.add_left_cancel_iff,List.length_map,iK]
  refine pq (fun h=> ?_) _ _ (nx+4) [] ?_ ?_ ?_ (fun j hj=> ?_) (.inl ?_)
  rotate_left
  ·omega
  ·omega
  ·exact dt
  ·exact dH
  ·exact dH
  have:=h.lZ.len
  omega
 have iK:decide ((s.binds.length:Int)>20)=false:=by simp;omega
 by_cases h3:12<s.aR.length
 ·have lT:decide ((s.aR.length:Int)>12)=true:=by simp;omega
  simp+contextual (disch:=first|omega|simp only[go_sem,false_implies]) only[go_sem,wrap64,if_pos,mc,Nat.add_assoc,Nat.left_eq_add,Nat.add_eq_left,Nat.add_left_cancel_iff,List.length_map,iK,lT]
  refine pq (fun h=> ?_) _ _ (nx+4) [] ?_ ?_ ?_ (fun j hj=> ?_) (.inl ?_)
  rotate_left
  ·omega
  ·omega
  ·exact dt
  ·exact dH
  ·exact dH
  have:=h.Hd
  omega
 have lT:decide ((s.aR.length:Int)>12)=false:=by simp;omega
 by_cases h4:8<s.marks.length
 ·have Gg:decide ((s.marks.length:Int)>8)=true:=by simp;omega
  refine Vj iK lT Gg ?_
  refine pq (fun h=> ?_) _ _ (nx+4) [] ?_ ?_ ?_ (fun j hj=> ?_) (.inl ?_)
  rotate_left
  ·omega
  ·omega
  ·exact dt
  ·exact dH
  ·exact dH
  have:=h.TH
  omega
 have Gg:decide ((s.marks.length:Int)>8)=false:=by simp;omega
 refine Vj iK lT Gg ?_
 have fin:∀ (m:List (Int×Tm)) (M:aa),(M=eJ m\/M= .cZ (enc (D.int .i64) (ou m)))->∀O n,nx+7<=n->Good O n->(∀j,j<nx+7->j≠nx+1->O j=vK o nx s M j)-> ¬ck s->K (.bN [.agg (s.row++[.mp (nx+4)]), .d (.bool false)]) O n:=fun m M hM O n i1 i2 i3 i4=>
  pq i4 O n (nx+4) m ae ae i2 (fun j hj=>by rw[i3 j (by omega) (by omega),Kz _ _ _ _ (by omega) (by omega) (by omega) (by omega)]) (by rw[i3 (nx+4) (by omega) (by omega),kpH_4];exact hM)
 refine aF (fun k:Nat=>⟨bf [.ab, .ptr nx 0, .ptr (nx+1) 0, .ab, .ptr (nx+6) 0, .ab, .ab, .ab, .ab, .ab, .ab, .ab, .ab, .ab, .ab, .ab, .ab, .ab, .ab, .ab, .ab, .ab, .ab, .ab, .ab, .ab, .ab, .ab, .ab, .ab, .ab, .ab, .ab, .ab, .ab, .ab, .ab, .ab, .ab, .ab, .ab, .ab, .ab, .d (.sl (s.binds.map TB.d)), .d (.i s.binds.length), .d (.i k)],vK o nx s (eJ (ah (s.binds.take k))),nx+7⟩)
  (fun k=>k<=s.binds.length/\((ah (s.binds.take k)).map (·.1)).Nodup/\∀x∈s.binds.take k,(0<=x.var/\x.var<20)/\br s.sig x.term=true) (fun k=>s.binds.length - k) 0 ⟨Nat.zero_le _,List.nodup_nil,fun x hx=>by simp at hx⟩ (bM.bH _ (show nx<=nx+7 from ae) ae (qD hg s (by rfl)) (fun j hj=> ?_) ?_) (fun k hk=> ?_)
 ·exact M9 o nx s j
 ·exact dU
 obtain⟨hk,AL,aS⟩:=hk
 have MX:ck s->((ah (s.binds.take (k+1))).map (·.1)).Nodup:=fun h=>h.lZ.keys.sublist (((List.take_sublist _ _).map _).map _)
 have hgk:=qD (m:=eJ (ah (s.binds.take k))) hg s rfl
 have hg0:=hg
 clear hg
 have hg:=hgk
 have e0:=kpH_0 o nx s (eJ (ah (s.binds.take k)))
 have e1:=kpH_1 o nx s (eJ (ah (s.binds.take k)))
 have e4:=kpH_4 o nx s (eJ (ah (s.binds.take k)))
 have e6:=kpH_6 o nx s (eJ (ah (s.binds.take k)))
 refine FJ e0 e1 e4 e6 ?_
 refine au (fun h5=> ?_) (fun h5=> ?_)
 ·replace h5:k<s.binds.length:=by simp at h5;omega
  obtain⟨x,hx⟩:=aD h5
  have cL:=List.mem_of_getElem? hx
  have zO:=Ca s.binds hx
  have hnk:∀ (P:Prop),(kQ s.sig s.binds->P)->(ck s->P):=fun P h hs=>h hs.lZ
  cases hl:bL (ah (s.binds.take k)) x.var with
  |some z=>
   obtain⟨jz,hj⟩:=hO hl
   simp+contextual (disch:=first|omega|simp only[go_sem,false_implies]) only[go_sem,wrap64,if_pos,e0,e1,e4,e6,hx,hj,List.length_map,Nat.add_assoc,Nat.left_eq_add,Nat.add_eq_left,Nat.add_left_cancel_iff]
   refine fin _ _ (.inl rfl) _ _ ae dt (fun j j1 j2=>by(repeat(first|rfl|rw[ad]|rw[ag _ _ _ _ (by omega)]))) (fun h=> ?_)
   have h7:=MX h
   rw[zO,List.map_append,List.nodup_append]at h7
   exact h7.2.2 x.var (List.mem_map.2 ⟨_,cB hl,rfl⟩) x.var aG rfl
  |none=>
   have hln:=ee hl
   by_cases h6:x.var<0
   ·have Hf:decide (x.var<0)=true:=decide_eq_true h6
    refine Qo e0 e1 e4 e6 hx hln Hf ?_
    refine fin _ _ (.inl rfl) _ _ ae dt (fun j j1 j2=>by(repeat(first|rfl|rw[ad]|rw[ag _ _ _ _ (by omega)]))) (fun h=> ?_)
    have:=(h.lZ.ok x cL).1
    omega
   have Hf:decide (x.var<0)=false:=decide_eq_false h6
   by_cases h7:20<=x.var
   ·have h7':decide (x.var≥20)=true:=decide_eq_true h7
    refine Qn e0 e1 e4 e6 hx hln Hf h7' ?_
    refine fin _ _ (.inl rfl) _ _ ae dt (fun j j1 j2=>by(repeat(first|rfl|rw[ad]|rw[ag _ _ _ _ (by omega)]))) (fun h=> ?_)
    have:=(h.lZ.ok x cL).1
    omega
   have h7':decide (x.var≥20)=false:=decide_eq_false h7
   refine Qn e0 e1 e4 e6 hx hln Hf h7' ?_
   refine aj (ni s hs.sig (ah (s.binds.take k)) x.term (hs.bt x cL)) rfl ?_
   cases hv:br s.sig x.term with
   |false=>
    refine FJ e0 e1 e4 e6 ?_
    refine fin _ _ (.inl rfl) _ _ ae dt (fun j j1 j2=>by(repeat(first|rfl|rw[ad]|rw[ag _ _ _ _ (by omega)]))) (fun h=> ?_)
    have:=(h.lZ.ok x cL).2
    rw[hv]at this;cases this
   |true=>
    have has:=BV (x:=x.term) hl
    refine Vk e0 e1 e4 e6 has ?_
    refine aq (k+1) ⟨h5, ?_,fun y hy=> ?_⟩ ae (bM.bH _ (show nx<=nx+7 from ae) ae (qD hg0 s (by rfl)) (fun j hj=> ?_) ?_)
    ·rw[zO,List.map_append,List.nodup_append]
     refine⟨AL,aG,fun a ha c hc e=> ?_⟩
     simp at hc
     rw[e,hc]at ha
     exact qq.1 hl ha
    ·rw[List.take_add_one,hx]at hy
     rcases List.mem_append.1 hy with hy|hy
     ·exact aS y hy
     ·simp at hy
      subst hy
      exact⟨ae,hv⟩
    ·have hj:j<nx+7:=hj
     rw[zO, <- FE o nx s (eJ (ah (s.binds.take k)))]
     by_cases e:j=nx+4
     ·exact vL
     ·exact dH
    ·exact dU
 ·replace h5:k=s.binds.length:=by simp at h5;omega
  subst h5
  rw[List.take_length]at AL aS e0 e1 e4 e6|-
  refine Cr e0 e1 e4 e6 ?_
  obtain⟨b,hb⟩:∃b,b=ah s.binds:=⟨_,rfl⟩
  have nh:∀p∈b,p.2.fits:=fun p hp=>by
   rw[hb]at hp
   obtain⟨x,hx,rfl⟩:=dg hp
   exact(hs.bt x hx).fits
  have Ek:∀p∈b,Vs s.sig p.2:=fun p hp=>by
   rw[hb]at hp
   obtain⟨x,hx,rfl⟩:=dg hp
   exact(cV (aS x hx).2).1
  rw[<- hb]at AL|-
  clear hg hgk
  have hg:=qD (m:= .cZ (enc (D.int .i64) (ou b))) hg0 s (by rfl)
  have f0:=kpH_0 o nx s (.cZ (enc (D.int .i64) (ou b)))
  have f1:=kpH_1 o nx s (.cZ (enc (D.int .i64) (ou b)))
  have f4:=kpH_4 o nx s (.cZ (enc (D.int .i64) (ou b)))
  have f6:=kpH_6 o nx s (.cZ (enc (D.int .i64) (ou b)))
  clear e0 e1 e4 e6
  refine aF (fun i:List (Int×Tm)×Option (D×D)=>⟨bf [.ab, .ptr nx 0, .ptr (nx+1) 0, .ab, .ptr (nx+6) 0, .ab, .ab, .ab, .ab, .ab, .ab, .ab, .ab, .ab, .ab, .ab, .ab, .ab, .ab, .ab, .ab, .ab, .ab, .ab, .ab, .ab, .ab, .ab, .ab, .ab, .ab, .ab, .ab, .ab, .ab, .ab, .ab, .ab, .ab, .ab, .ab, .ab, .ab, .ab, .ab, .ab, .ab, .ab, .ab, .ab, .ab, .ab, .ab, .ab, .ab, .ab, .ab, .ab, .ab, .ab, .ab, .ab, .ab, .ab, .ab, .ab, .ab, .ab, .ab, .ab, .ab, .ab, .ab, .ab, .ab, .ab, .ab, .ab, .ab, .ab, .ab, .ab, .ab, .ab, .ab, .ptr (nx+10) 0],aA (vK o nx s (.cZ (enc (D.int .i64) (ou b)))) (nx+10) (.qS (enc (D.int .i64) (ou i.1)) i.2),nx+11⟩)
   (fun i=>(∀p∈i.1,p∈b)/\∀p∈b,p∉i.1-> ¬lY b p.1 p.2) (fun i=>i.1.length) (b,none) ⟨fun _ h=>h,fun p h h'=>absurd h h'⟩ (bM.bH _ (show nx<=nx+11 from ae) ae dt (fun j hj=> ?_) ?_) ?_
  ·dsimp only
   by_cases e:j=nx+10
   ·subst e;rw[ad,ad]
   ·rw[ag _ _ _ _ e,ag _ _ _ _ e,FE]
  ·exact dU
  rintro⟨rest,last⟩ ⟨hr,hd⟩
  dsimp only at hr hd|-
  refine Cr f0 f1 f4 f6 ?_
  refine xG (fun h0=> ?_) fun i v x hm=> ?_
  ·subst h0
   have KA:Tz b:=fun v x hx=>hd (v,x) (cB hx) aG
   have sP:=nJ (by rw[<- hb];exact AL) aS (by rw[<- hb];exact KA)
   rw[<- hb]at sP
   obtain⟨l',ρ,R,hS,hl⟩:=sP
   have hle:∀p∈b,∃f r,o6 f b p.2 40 12=some r:=fun p hp=>by
    exact Ob
   obtain⟨fo,vH⟩:∃fo:Bool,fo=true↔∀p∈b,sX b p.2:=by
    classical
    exact⟨decide (∀p∈b,sX b p.2),aG⟩
   refine Cr f0 f1 f4 f6 ?_
   refine aj (xJ nh hle vH) rfl ?_
   cases fo with
   |false=>
    refine Cr f0 f1 f4 f6 ?_
    refine fin _ _ (.inr rfl) _ _ ae dt (fun j j1 j2=>by(repeat(first|rfl|rw[ad]|rw[ag _ _ _ _ (by omega)]))) (fun h=> ?_)
    have:=vH.2 fun p hp=>by
     rw[hb]at hp|-
     obtain⟨x,hx,rfl⟩:=dg hp
     exact h.lZ.Qe x hx
    cases this
   |true=>
    have Rg:kQ s.sig s.binds:=⟨ae,by rw[<- hb];exact AL,aS,by rw[<- hb];exact KA,fun x hx=>by rw[<- hb];exact vH.1 rfl _ (hb ▸ gY hx)⟩
    refine FJ f0 f1 f4 f6 ?_
    refine aF (fun k:Nat=>⟨bf [.ab, .ptr nx 0, .ptr (nx+1) 0, .ab, .ptr (nx+6) 0, .ab, .ab, .ab, .ab, .ab, .ab, .ab, .ab, .ab, .ab, .ab, .ab, .ab, .ab, .ab, .ab, .ab, .ab, .ab, .ab, .ab, .ab, .ab, .ab, .ab, .ab, .ab, .ab, .ab, .ab, .ab, .ab, .ab, .ab, .ab, .ab, .ab, .ab, .ab, .ab, .ab, .ab, .ab, .ab, .ab, .ab, .ab, .ab, .ab, .ab, .ab, .ab, .ab, .ab, .ab, .ab, .ab, .ab, .ab, .ab, .ab, .ab, .ab, .ab, .ab, .ab, .ab, .ab, .ab, .ab, .ab, .ab, .ab, .ab, .ab, .ab, .ab, .ab, .ab, .ab, .ab, .ab, .ab, .ab, .ab, .ab, .ab, .ab, .ab, .ab, .ab, .ab, .ab, .ab, .ab, .ab, .ab, .ab, .d (.sl (s.aR.map Nt.d)), .d (.i s.aR.length), .d (.i k)],vK o nx s (.cZ (enc (D.int .i64) (ou b))),nx+7⟩)
     (fun k=>k<=s.aR.length/\∀n∈s.aR.take k,br s.sig n.a=true/\br s.sig n.b=true/\ ¬DU b n) (fun k=>s.aR.length - k) 0 ⟨Nat.zero_le _,fun n hn=>by simp at hn⟩ (bM.bH _ (show nx<=nx+7 from ae) ae hg (fun j hj=> ?_) ?_) (fun k hk=> ?_)
    ·have hj:j<nx+7:=hj
     exact dH
    ·exact dU
    obtain⟨hk,TO⟩:=hk
    refine FJ f0 f1 f4 f6 ?_
    refine au (fun h6=> ?_) (fun h6=> ?_)
    ·replace h6:k<s.aR.length:=by simp at h6;omega
     obtain⟨n,hn⟩:=aD h6
     have vC:=List.mem_of_getElem? hn
     obtain⟨na,nb⟩:=hs.nt n vC
     refine Vk f0 f1 f4 f6 hn ?_
     refine aj (ni s hs.sig b n.a na) rfl ?_
     cases va:br s.sig n.a with
     |false=>
      refine Cr f0 f1 f4 f6 ?_
      refine fin _ _ (.inr rfl) _ _ ae dt (fun j j1 j2=>by(repeat(first|rfl|rw[ad]|rw[ag _ _ _ _ (by omega)]))) (fun h=> ?_)
      have:=(h.aR n vC).1
      rw[va]at this;cases this
     |true=>
      refine Cr f0 f1 f4 f6 ?_
      refine aj (ni s hs.sig b n.b nb) rfl ?_
      cases vb:br s.sig n.b with
      |false=>
       refine Cr f0 f1 f4 f6 ?_
       refine fin _ _ (.inr rfl) _ _ ae dt (fun j j1 j2=>by(repeat(first|rfl|rw[ad]|rw[ag _ _ _ _ (by omega)]))) (fun h=> ?_)
       have:=(h.aR n vC).2.1
       rw[vb]at this;cases this
      |true=>
       obtain⟨a1,a2,a3⟩:=cV va
       obtain⟨b1,b2,b3⟩:=cV vb
       have cD:∀p∈b,sX b p.2:=vH.1 rfl
       have za:=lO hS cD a1
       have zb:=lO hS cD b1
       have ua:zi (R+3+3200) b n.a=some (aZ (ah l') n.a):=sF hS 3200 n.a a1 ae
       have ub:zi (R+3+3200) b n.b=some (aZ (ah l') n.b):=sF hS 3200 n.b b1 ae
       have we:=zp (n:=n) hS a1 b1
       refine Cr f0 f1 f4 f6 ?_
       refine aj (xK s nh n na.fits nb.fits ua ub (Tm.cI _ ae) (Tm.cI _ ae) ae ae) rfl ?_
       cases ya:ir (aZ (ah l') n.a) (aZ (ah l') n.b)with
       |true=>
        refine Cr f0 f1 f4 f6 ?_
        refine fin _ _ (.inr rfl) _ _ ae dt (fun j j1 j2=>by(repeat(first|rfl|rw[ad]|rw[ag _ _ _ _ (by omega)]))) (fun h=> ?_)
        exact(h.aR n vC).2.2 (hb ▸ we.2 ((fT _ _).1 ya))
       |false=>
        refine Cr f0 f1 f4 f6 ?_
        refine aq (k+1) ⟨h6,fun y hy=> ?_⟩ ae (bM.bH _ (show nx<=nx+7 from ae) ae hg (fun j hj=> ?_) ?_)
        ·rw[List.take_add_one,hn]at hy
         rcases List.mem_append.1 hy with hy|hy
         ·exact TO y hy
         ·simp at hy
          subst hy
          refine⟨va,vb,fun h=> ?_⟩
          rw[(fT _ _).2 (we.1 h)]at ya;cases ya
        ·have hj:j<nx+7:=hj
         exact dH
        ·exact dU
    ·replace h6:k=s.aR.length:=by simp at h6;omega
     subst h6
     rw[List.take_length]at TO
     refine FJ f0 f1 f4 f6 ?_
     refine aF (fun i:Nat×Int×Int=>⟨bf [.ab, .ptr nx 0, .ptr (nx+1) 0, .ab, .ptr (nx+6) 0, .ab, .ab, .ab, .ab, .ab, .ab, .ab, .ab, .ptr (nx+8) 0, .ab, .ab, .ab, .ab, .ab, .ab, .ab, .ab, .ab, .ab, .ab, .ab, .ab, .ab, .ab, .ab, .ab, .ab, .ab, .ab, .ab, .ab, .ab, .ab, .ab, .ab, .ab, .ab, .ab, .ab, .ab, .ab, .ab, .ab, .ab, .ab, .ab, .ab, .ab, .ab, .ab, .ab, .ab, .ab, .ab, .ab, .ab, .ab, .ab, .ab, .ab, .ab, .ab, .ab, .ab, .ab, .ab, .ab, .ab, .ab, .ab, .ab, .ab, .ab, .ab, .ab, .ab, .ab, .ab, .ab, .ab, .ab, .ab, .ab, .ab, .ab, .ab, .ab, .ab, .ab, .ab, .ab, .ab, .ab, .ab, .ab, .ab, .ab, .ab, .ab, .ab, .ab, .ab, .ab, .ab, .ab, .ab, .ab, .ab, .ab, .ab, .ab, .ab, .ab, .ab, .ab, .ab, .ab, .ab, .ab, .ab, .ab, .ab, .ab, .ab, .d (.sl (s.marks.map Vc)), .d (.i s.marks.length), .d (.i i.1)],aA (vK o nx s (.cZ (enc (D.int .i64) (ou b)))) (nx+8) (.row [.d (.i i.2.1), .d (.i i.2.2)]),nx+9⟩)
      (fun i=>i.1<=s.marks.length/\wb s.binds.length s.aR.length i.2 (s.marks.drop i.1)=wb s.binds.length s.aR.length (0,0) s.marks) (fun i=>s.marks.length - i.1) (0,0,0) ⟨Nat.zero_le _,rfl⟩ (bM.bH _ (show nx<=nx+9 from ae) ae dt (fun j hj=>by(repeat(first|rfl|rw[ad]|rw[ag _ _ _ _ (by omega)]))) ?_) ?_
     ·exact dU
     rintro⟨k,l1,l2⟩ ⟨hk,kY⟩
     dsimp only at hk kY|-
     refine FJ f0 f1 f4 f6 ?_
     refine au (fun h7=> ?_) (fun h7=> ?_)
     ·replace h7:k<s.marks.length:=by simp at h7;omega
      obtain⟨⟨m1,m2⟩,hm⟩:=aD h7
      have Ke:s.marks.drop k=(m1,m2)::s.marks.drop (k+1):=by
       obtain⟨i1,i2⟩:=List.getElem?_eq_some_iff.1 hm
       exact zU
      rw[Ke,wb]at kY
      dsimp only at kY
      cases g1:decide (m1<l1)with
      |true=>
       rw[g1]at kY
       simp only[Bool.true_or,Bool.or_true,Bool.not_true,Bool.false_and]at kY
       refine Qo f0 f1 f4 f6 hm hm g1 ?_
       exact zw0
      |false=>
      rw[g1]at kY
      cases g2:decide (m1>(s.binds.length:Int))with
      |true=>
       rw[g2]at kY
       simp only[Bool.true_or,Bool.or_true,Bool.not_true,Bool.false_and]at kY
       refine Qo f0 f1 f4 f6 hm g1 g2 ?_
       exact zw0
      |false=>
      rw[g2]at kY
      cases g3:decide (m2<l2)with
      |true=>
       rw[g3]at kY
       simp only[Bool.true_or,Bool.or_true,Bool.not_true,Bool.false_and]at kY
       refine Qn f0 f1 f4 f6 hm g1 g2 g3 ?_
       exact zw0
      |false=>
      rw[g3]at kY
      cases g4:decide (m2>(s.aR.length:Int))with
      |true=>
       rw[g4]at kY
       simp only[Bool.true_or,Bool.or_true,Bool.not_true,Bool.false_and]at kY
       simp+contextual (disch:=first|omega|simp only[go_sem,false_implies]) only[go_sem,wrap64,if_pos,f0,f1,f4,f6,hm,g1,g2,g3,g4,List.length_map,Nat.add_assoc,Nat.left_eq_add,Nat.add_eq_left,Nat.add_left_cancel_iff]
       exact zw0
      |false=>
      rw[g4]at kY
      simp only[Bool.or_false,Bool.not_false,Bool.true_and]at kY
      simp+contextual (disch:=first|omega|simp only[go_sem,false_implies]) only[go_sem,wrap64,if_pos,f0,f1,f4,f6,hm,g1,g2,g3,g4,List.length_map,Nat.add_assoc,Nat.left_eq_add,Nat.add_eq_left,Nat.add_left_cancel_iff]
      refine aq (k+1,m1,m2) ⟨h7,kY⟩ pt (bM.bH _ (show nx<=nx+9 from ae) ae dt (fun j hj=> ?_) ?_)
      ·have hj:j<nx+9:=hj
       by_cases e:j=nx+8
       ·exact vL
       ·exact dH
      ·exact dU
     ·replace h7:k=s.marks.length:=by simp at h7;omega
      subst h7
      rw[List.drop_length]at kY
      refine Cr f0 f1 f4 f6 ?_
      refine TN ⟨h1,ae,ae,Rg,fun n hn=> ?_,kY.symm⟩ _ _ (nx+4) ae dt (fun j hj=> ?_) ?_
      ·rw[<- hb];exact TO n hn
      ·(repeat(first|rfl|rw[ad]|rw[ag _ _ _ _ (by omega)]));exact Kz _ _ _ _ ae ae ae ae
      ·(repeat(first|rfl|rw[ad]|rw[ag _ _ _ _ (by omega)]));rw[f4,hb]
  ·have nQ:=List.mem_of_getElem? hm
   have K7:=hr _ nQ
   have xV:=u6 hm
   have hlen:(rest.eraseIdx i).length<rest.length:=by
    exact WN
   obtain⟨is,zo⟩:∃is:Bool,is=true↔lY b v x:=by
    classical
    exact⟨decide (lY b v x),aG⟩
   refine Cr f0 f1 f4 f6 ?_
   refine aj (Fz Ek nh v x (Ek _ K7) (nh _ K7) zo) rfl ?_
   cases is with
   |true=>
    refine Cr f0 f1 f4 f6 ?_
    refine fin _ _ (.inr rfl) _ _ ae dt (fun j j1 j2=>by(repeat(first|rfl|rw[ad]|rw[ag _ _ _ _ (by omega)]))) (fun h=> ?_)
    exact h.lZ.Ha v x ((m7 h.lZ.keys).2 (hb ▸ K7)) (hb ▸ zo.1 rfl)
   |false=>
    refine Cr f0 f1 f4 f6 ?_
    refine aq (rest.eraseIdx i,some (.int .i64 v,x.d)) ⟨fun p hp=>hr p (xV.mem_iff.1 (List.mem_cons_of_mem _ hp)),fun p hp hpn=> ?_⟩ hlen (bM.bH _ (show nx<=nx+11 from ae) ae dt (fun j hj=> ?_) ?_)
    ·by_cases e:p=(v,x)
     ·subst e
      exact fun h=>Bool.false_ne_true (zo.2 h)
     ·exact hd p hp fun sa=>by
       rcases List.mem_cons.1 (xV.mem_iff.2 sa)with h|h
       ·exact e h
       ·exact hpn h
    ·have hj:j<nx+11:=hj
     by_cases e:j=nx+10
     ·exact vL
     ·exact dH
    ·exact dU
end Go.Proofs.YtlhemmpklhhgoaaGreat
namespace Go.Proofs.YtlhemmpklhhgoaaGreat
structure Srt (s:aB) (l:List TB):Prop where
 srt:l.Pairwise fun x y=>x.var<y.var
 ok:∀x∈l,(0<=x.var/\x.var<20)/\Vs s x.term
structure MS (b:List (Int×Tm)) (l:List TB):Prop where
 keys:(b.map (·.1)).Nodup
 lk:∀v,bL b v=bL (ah l) v
theorem vn(l:List TB)(hl:l.length<=1000000)(hf:∀x∈l,x.term.fits):aV Tryz.prog 60 [.sl (l.map TB.d), .sl (l.map TB.d)] (.ret [.bool true]):=by
 refine aV.aJ mix Yu aG ?_
 rw[c60]
 simp+contextual (disch:=first|omega|simp only[go_sem,false_implies]) only[go_sem,wrap64,if_pos,List.length_map,bne_self_eq_false]
 refine aF (fun k:Nat=>⟨bf [.d (.sl (l.map TB.d)), .d (.sl (l.map TB.d)), .ab, .ab, .ab, .d (.i k)],fun _=> .no,0⟩)
  (fun k=>k<=l.length) (fun k=>l.length - k) 0 (Nat.zero_le _) (bM.d0 _ ?_) (fun k hk=> ?_)
 ·exact dU
 refine zR ?_
 refine au (fun h2=> ?_) (fun h2=> ?_)
 ·simp at h2
  obtain⟨x,hx⟩:=aD h2
  have EB:=rD x.term (hf x (List.mem_of_getElem? hx)) x.term (hf x (List.mem_of_getElem? hx))
  rw[ju]at EB
  refine Qs hx ?_
  refine aX EB rfl ?_
  exact Wv
 ·exact l6
mutual
def Tm.zQ:Tm->Prop
 | .mk _ _ kids=>kids.length<=1000/\Tm.KC kids
def Tm.KC:List Tm->Prop
 |[]=>True
 |k::l=>k.zQ/\Tm.KC l
end
theorem Tm.Cc:∀l:List Tm,Tm.KC l↔∀k∈l,k.zQ
 |[]=>by simp[Tm.KC]
 |k::l=>by simp[Tm.KC,Tm.Cc l]
theorem Tm.qE (t:Tm):t.zQ↔t.kids.length<=1000/\∀k∈t.kids,k.zQ:=by cases t;simp[Tm.zQ,Tm.Cc,Tm.kids]
theorem Tm.DY:∀t:Tm,t.sz<=1000->t.zQ:=by
 refine Tm.fg fun t ih h=> ?_
 rw[Tm.qE]
 have:=lN t.kids
 have h2:=Tm.jt t
 exact NI
theorem Tm.TP {b:List (Int×Tm)}(hb:∀p∈b,p.2.zQ):∀t:Tm,t.zQ->(aZ b t).zQ:=by
 refine Tm.fg fun t ih h=> ?_
 have h':=(Tm.qE t).1 h
 rw[zc]
 split
 ·split
  ·rename_i x hx;exact hb _ (cB hx)
  ·exact h
 ·rw[Tm.qE]
  refine⟨by simp only[Tm.kids,List.length_map];exact h'.1,fun k hk=> ?_⟩
  obtain⟨y,hy,rfl⟩:=List.mem_map.1 hk
  exact ih y hy (h'.2 y hy)
theorem Tm.KF:∀t:Tm,t.zQ->t.fits:=by
 refine Tm.fg fun t ih h=> ?_
 have h':=(Tm.qE t).1 h
 rw[Tm.bF]
 exact⟨ae,fun k hk=>ih k hk (h'.2 k hk)⟩
theorem Nb{s:aB}{t:Tm}(hv:Vs s t):(cA t).length<=20:=y9 (fun n hn=>hv.range (((dm t).2 n).1 hn)) (dm t).1
theorem Cd{s:aB}:∀t:Tm,Vs s t->t.zQ->aV Tryz.prog 141 [t.d] (.ret [.sl ((cA t).map .i)]):=by
 refine Tm.fg fun t ih hv ht=> ?_
 have hw':=(Tm.qE t).1 ht
 refine aV.aJ mix Zl aG ?_
 rw[Zk]
 by_cases h1:t.op=1
 ·refine pk h1 ?_
  rw[qp,if_pos h1]
  rfl
 ·have eM:(t.op==1)=false:=by simpa using h1
  have b1:(t.op !=8)=true:=by simpa using hv.n8
  refine pk eM ?_
  rw[qp,if_neg h1]
  refine aF (fun i:Nat×List Int=>⟨bf [.ab, .ptr 0 0, .ab, .d (.sl (i.2.map .i)), .d (.i i.1)],oR t.row,1⟩)
   (fun i=>i.1<=t.kids.length/\lM t.op t.n t.kids 0 []=lM t.op t.n (t.kids.drop i.1) i.1 i.2/\G3 i.2/\∀v∈i.2,0<=v/\v<20) (fun i=>t.kids.length - i.1) (0,[]) ⟨Nat.zero_le _,rfl,List.Pairwise.nil,fun _ h=>by cases h⟩
   (bM.aaa (fun _=>False) 1 _ ae (lt1 (eQ rfl D6)) (fun j hj=>ag _ _ _ _ ae) (fun _ h=>h.elim) ?_) ?_
  ·try dsimp only
   exact CA
  rintro⟨k,out⟩ ⟨hk,J2,aav,hrg⟩
  simp only at hk J2 aav hrg
  refine bJ ?_
  refine au (fun h2=> ?_) (fun h2=> ?_)
  ·simp at h2
   obtain⟨x,hx⟩:=aD h2
   have cL:=List.mem_of_getElem? hx
   have vx:=hv.lW cL
   have hvl:=Nb vx
   have Ke:t.kids.drop k=x::t.kids.drop (k+1):=by
    obtain⟨h5,h6⟩:=List.getElem?_eq_some_iff.1 hx
    rw[List.drop_eq_getElem_cons h5,h6]
   have part:∀L:List Int,(∀v∈L,v∈cA x)->G3 (oW t.op t.n k L out)/\∀v∈oW t.op t.n k L out,0<=v/\v<20:=fun L hL=>by
    obtain⟨q1,q2⟩:=nH t.op t.n k L out aav
    refine⟨q1,fun v J0=> ?_⟩
    rcases(q2 v).1 J0 with h|h
    ·exact hrg v h
    ·exact vx.range (((dm x).2 v).1 (hL v h.1))
   refine pk hx ?_
   refine ba (ih x cL vx (hw'.2 x cL)) ?_
   refine pk hx ?_
   refine aF (fun j:Nat=>⟨bf [.ab, .ptr 0 0, .ab, .d (.sl ((oW t.op t.n k ((cA x).take j) out).map .i)), .d (.i k), .d (.sl ((cA x).map .i)), .d (.i j)],oR t.row,1⟩)
    (fun j=>j<=(cA x).length) (fun j=>(cA x).length - j) 0 (Nat.zero_le _) (bM.d1 _ (cu rfl) ae rfl ?_) (fun j hj=> ?_)
   ·exact dU
   refine bJ ?_
   refine au (fun h3=> ?_) (fun h3=> ?_)
   ·simp at h3
    obtain⟨v,J0⟩:=aD h3
    have x9:=part ((cA x).take j) (fun v hv=>List.mem_of_mem_take hv)
    have LI:=y9 x9.2 x9.1
    have hc:(t.op !=8||(k:Int)!=1||v !=t.n)=true:=by rw[b1];rfl
    refine Lg J0 b1 ?_
    refine aL cE ?_
    refine pk J0 ?_
    refine ba (aam _ v ae) ?_
    refine bJ ?_
    refine aq (j+1) h3 ae (bM.d1 _ (cu rfl) ae rfl ?_)
    rw[G5 J0,if_pos hc]
    exact dU
   ·simp at h3
    refine bJ ?_
    rw[List.take_of_length_le (by omega)]
    obtain⟨p1,p2⟩:=part (cA x) (fun v hv=>hv)
    refine aq (k+1,oW t.op t.n k (cA x) out) ⟨h2,by rw[J2,Ke];rfl,p1,p2⟩ pt (bM.d1 _ (cu rfl) ae rfl ?_)
    exact dU
  ·simp at h2
   refine bJ ?_
   rw[J2,List.drop_eq_nil_of_le (by omega)]
   rfl
end Go.Proofs.YtlhemmpklhhgoaaGreat
