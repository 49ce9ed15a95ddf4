/-
  A PART OF THE PROOF. Conditions: none.
-/
import Derived.Test.YtealblliddhgiaaGreatCp17
set_option linter.unusedSimpArgs false
set_option linter.unusedVariables false
namespace Go.Proofs.YtealblliddhgiaaGreat
theorem aG{c:Nat}{G:List Gr}{so:Nat->ae}{gone:Nat->Prop}{x x' y y':ae}(h:x=y)(h':x'=y')(hs:wF c G so gone y y'):wF c G so gone x x':=by rw[h,h'];exact hs
theorem jb{c:Nat}{G:List Gr}{so:Nat->ae}{gone:Nat->Prop}{e:Nat->V}:∀ {l:List V} {i:Nat},eA c e l i->mL c G so gone e l i
 |[],_,_=>trivial
 |v::l,i,h=>⟨h.1.elim .inl fun h=> .inr (.inl ⟨h.1,fun r hr=>h.2 r (by rw[h.1];exact hr)⟩),jb h.2⟩
theorem lL:∀l:List Tm,l.length<=jD l
 |[]=>by simp[jD]
 |k::l=>by have:=lL l;have:=Tm.A2 k;rw[cB,List.length_cons];omega
def jW:IC:=tJ.snd.snd.snd.snd.snd.fst.snd.fst.fst
theorem GF{t:Tm}(ih:∀k∈t.kids,tP k){o:Nat->ae}{nx c cid fid:Nat}{op' N:Int}{bd fr0:List (Int×Int)}{n0:Int}{e:Nat->V}{Q:fq->S->Prop}
 (hg:Good o c) (hc:nx+15<=c) (c1:cid<nx) (c2:fid<nx) (o7:cid≠fid) (oa:o nx= .row [.ptr cid 0, .d .cO]) (ot:o (nx+1)= .row t.row) (oo:o (nx+11)= .row [.d (.i op'), .d (.i N), .aW]) (os:o (nx+14)= .row [.ptr cid 0, .d .cO])
 (oc:o cid= .row [.d (.i n0), .mp fid]) (of:o fid=dh fr0) (Ee:∀v,lk [] v=lk bd v) (p0:0<=n0) (p1:n0+jD t.kids<=1000000)
 (he:eA c e [.ab, .ab, .ptr nx 0, .ptr (nx+1) 0, .ptr (nx+2) 0, .ab, .ab, .ptr (nx+11) 0, .ptr (nx+14) 0, .ab, .ab, .ab, .ab, .ab, .ab, .ab, .ab, .ab, .ab, .ab, .ab, .ab, .ab, .ab, .ab, .ab, .ab, .ab, .ab, .ab, .ab, .ab, .ab, .ab, .ab, .ab, .ab, .ab, .ab, .ab, .ab, .ab, .ab, .ab, .ab, .ab, .ab, .ab, .ab, .ab, .ab, .ab, .ab, .ab, .ab, .ab, .ab, .ab, .ab, .ab, .ab, .ab, .ab, .ab, .ab, .ab, .ab, .ab, .ab, .ab, .ab, .ab, .ab, .ab, .ab, .ab, .ab, .ab, .ab, .ab, .ab, .ab, .ab, .ab, .ab, .ab, .ab, .ab, .ab, .d (.sl (t.kids.map Tm.d)), .d (.i t.kids.length), .d (.i 0)] 0)
 (hQ:∀e' o' nx',e' 4= .ptr (nx+2) 0->e' 7= .ptr (nx+11) 0->c<=nx'->Good o' nx'->o' (nx+11)= .row [.d (.i op'), .d (.i N), .osl c 0]->o' c= .arr 0 28 3 ((bg t.kids bd bd 0 fr0 n0).1.map Tm.d)->(∀j,j<nx+11->j≠cid->j≠fid->o' j=o j)->o' cid= .row [.d (.i (bg t.kids bd bd 0 fr0 n0).2.2), .mp fid]->o' fid=dh (bg t.kids bd bd 0 fr0 n0).2.1->Q (.exit 2) ⟨e',o',nx'⟩):
 jR nx (fun Q s=>ka Tryz.prog 116 nx false jW Q s) Q ⟨e,o,c⟩:=by
 have hlen:=lL t.kids
 refine aX (fun i:Nat×List (Int×Int)×Int×List Tm=>⟨bB [.ab, .ab, .ptr nx 0, .ptr (nx+1) 0, .ptr (nx+2) 0, .ab, .ab, .ptr (nx+11) 0, .ptr (nx+14) 0, .ab, .ab, .ab, .ab, .ab, .ab, .ab, .ab, .ab, .ab, .ab, .ab, .ab, .ab, .ab, .ab, .ab, .ab, .ab, .ab, .ab, .ab, .ab, .ab, .ab, .ab, .ab, .ab, .ab, .ab, .ab, .ab, .ab, .ab, .ab, .ab, .ab, .ab, .ab, .ab, .ab, .ab, .ab, .ab, .ab, .ab, .ab, .ab, .ab, .ab, .ab, .ab, .ab, .ab, .ab, .ab, .ab, .ab, .ab, .ab, .ab, .ab, .ab, .ab, .ab, .ab, .ab, .ab, .ab, .ab, .ab, .ab, .ab, .ab, .ab, .ab, .ab, .ab, .ab, .ab, .d (.sl (t.kids.map Tm.d)), .d (.i t.kids.length), .d (.i i.1)],aq (aq (aq (aq o cid (.row [.d (.i i.2.2.1), .mp fid])) fid (dh i.2.1)) (nx+11) (.row [.d (.i op'), .d (.i N), .osl c 0])) c (.arr 0 28 3 (i.2.2.2.map Tm.d)),c+1⟩)
  (fun i=>i.1<=t.kids.length/\0<=i.2.2.1/\i.2.2.1+jD (t.kids.drop i.1)<=1000000/\i.2.2.2.length=i.1/\bg t.kids bd bd 0 fr0 n0=(i.2.2.2++(bg (t.kids.drop i.1) bd bd i.1 i.2.1 i.2.2.1).1,(bg (t.kids.drop i.1) bd bd i.1 i.2.1 i.2.2.1).2)) (fun i=>t.kids.length - i.1) (0,fr0,n0,[]) ⟨Nat.zero_le _,p0,p1,rfl,rfl⟩ (bY.iq (fun _=>False) .aW c _ (by omega) (fun j hj=> ?_) (aa _ _ _) (.inl ⟨rfl,rfl,by decide⟩) (fun j hj=> ?_) (fun _ h=>h.elim) (jb he)) ?_
 ·by_cases e1:j=nx+11
  ·subst e1
   exact aG oo (by(repeat(first|rfl|rw[aa]|rw[ad _ _ _ _ (by omega)]))) (cV rfl (bU (bU (gz 0 rfl rfl rfl cU))))
  ·by_cases e2:j=fid
   ·subst e2
    exact aG of (by(repeat(first|rfl|rw[aa]|rw[ad _ _ _ _ (by omega)]))) (aE rfl (by simp[ae.refs]))
   ·by_cases e3:j=cid
    ·subst e3
     exact aG oc (by(repeat(first|rfl|rw[aa]|rw[ad _ _ _ _ (by omega)]))) (aE rfl (by simp[ae.refs,V.ag,V.refs];omega))
    ·exact aG rfl (by(repeat(first|rfl|rw[aa]|rw[ad _ _ _ _ (by omega)]))) (aE rfl (fun r hr=>hg.refs j r hr))
 ·(repeat(first|rfl|rw[aa]|rw[ad _ _ _ _ (by omega)]))
  exact hg.fresh j (by omega)
 rintro⟨k,fr,n,ir⟩ ⟨hk,q0,q1,q2,q3⟩
 simp only at hk q0 q1 q2 q3
 have y1:cid≠c:=by omega
 have y2:∀k,cid≠c+k:=fun k=>by omega
 have y3:fid≠c:=by omega
 have y4:∀k,fid≠c+k:=fun k=>by omega
 have y5:cid≠nx+11:=by omega
 have y6:fid≠nx+11:=by omega
 have y7:∀k,k<15->nx+k≠c:=fun k hk=>by omega
 have y8:∀k j,k<15->nx+k≠c+j:=fun k j hk=>by omega
 have y9:∀k,cid≠nx+k:=fun k=>by omega
 have tj:∀k,fid≠nx+k:=fun k=>by omega
 have tk:nx≠cid:=by omega
 have tl:nx≠fid:=by omega
 have Ke:fid≠cid:=fun e=>o7 e.symm
 simp only[jW,tJ,IC.snd,IC.fst]
 simp+contextual (disch:=first|omega|simp only[go_sem,false_implies]) only[go_sem,wrap64,if_pos,oa,ot,oo,os,oc,of,y5,y6,y9,tj,y1,y2,y3,y4,y7,y8,tk,tl,Nat.add_assoc,Nat.left_eq_add,Nat.add_eq_left,Nat.add_left_cancel_iff,List.length_map]
 refine ay (fun h2=> ?_) (fun h2=> ?_)
 ·simp at h2
  obtain⟨x,hx⟩:=a7 h2
  have kU:=List.mem_of_getElem? hx
  have wN:t.kids.drop k=x::t.kids.drop (k+1):=by
   obtain⟨h5,h6⟩:=List.getElem?_eq_some_iff.1 hx
   rw[List.drop_eq_getElem_cons h5,h6]
  rw[wN,cB]at q1
  cases ek:((k:Int)==1)with
  |false=>
   have GG: ¬k=1:=by simp at ek;omega
   simp+contextual (disch:=first|omega|simp only[go_sem,false_implies]) only[go_sem,wrap64,if_pos,oa,ot,oo,os,oc,of,y5,y6,y9,tj,y1,y2,y3,y4,y7,y8,tk,tl,Nat.add_assoc,Nat.left_eq_add,Nat.add_eq_left,Nat.add_left_cancel_iff,List.length_map,hx,ek]
   refine dV (by simp;omega) (th (ih x kU) (n:=n) (fr:=fr) (bd:=bd) (nx:=c+10) (cid:=cid) (fid:=fid) ?_ ?_ Ee q0 (by omega) (by omega) (by omega)) ?_
   ·(repeat(first|rfl|rw[aa]|rw[ad _ _ _ _ (by omega)]))
   ·(repeat(first|rfl|rw[aa]|rw[ad _ _ _ _ (by omega)]))
   simp+contextual (disch:=first|omega|simp only[go_sem,false_implies]) only[go_sem,wrap64,if_pos,oa,ot,oo,os,oc,of,y5,y6,y9,tj,y1,y2,y3,y4,y7,y8,tk,tl,Nat.add_assoc,Nat.left_eq_add,Nat.add_eq_left,Nat.add_left_cancel_iff,List.length_map]
   have Bf:(if k=1 then bd else bd)=bd:=by split<;>rfl
   have ml:=iu x bd fr n
   refine aK (cK (ids:=[cid,fid,nx,nx+11,c,c+5,nx+14]) (nx:=c+10) (by simp;omega) (by simp;omega) [([3],[]),([3],[]),([2],[]),([5],[]),([0,1],[0,1]),([],[12]),([4,12],[4]),([3],[]),([3,4],[3])] (by decide)) ?_
   simp+contextual (disch:=first|omega|simp only[go_sem,false_implies]) only[go_sem,wrap64,if_pos,Nat.add_assoc,Nat.left_eq_add,Nat.add_eq_left,Nat.add_left_cancel_iff]
   refine az (k+1,(bL x bd fr n).2.1,(bL x bd fr n).2.2,ir++[(bL x bd fr n).1]) ⟨h2,by dsimp only;omega,by dsimp only;omega,by dsimp only;simp[q2],by dsimp only;rw[q3,wN];simp only[bg,Bf,List.append_assoc];rfl⟩ (by dsimp only;omega) (bY.iq (fun j=>j=c) (.osl c 1) c _ (by omega) (fun j hj=> ?_) (aa _ _ _) (.inr ⟨c,1,rfl,rfl,by(repeat(first|rfl|rw[aa]|rw[ad _ _ _ _ (by omega)]));rw[List.map_append];rfl⟩) (fun j hj=> ?_) (fun j h h2=>by omega) ?_)
   ·by_cases e1:j=nx+11
    ·subst e1
     exact aG (y:= .row [.d (.i op'), .d (.i N), .osl c 1]) (by(repeat(first|rfl|rw[aa]|rw[ad _ _ _ _ (by omega)]))) (by(repeat(first|rfl|rw[aa]|rw[ad _ _ _ _ (by omega)]))) (cV rfl (bU (bU (gz 0 rfl rfl rfl cU))))
    ·by_cases e2:j=fid
     ·subst e2
      exact aG (y:=dh (bL x bd fr n).2.1) (by(repeat(first|rfl|rw[aa]|rw[ad _ _ _ _ (by omega)]))) (by(repeat(first|rfl|rw[aa]|rw[ad _ _ _ _ (by omega)]))) (aE rfl (by simp[ae.refs]))
     ·by_cases e3:j=cid
      ·subst e3
       exact aG (y:= .row [.d (.i (bL x bd fr n).2.2), .mp fid]) (by(repeat(first|rfl|rw[aa]|rw[ad _ _ _ _ (by omega)]))) (by(repeat(first|rfl|rw[aa]|rw[ad _ _ _ _ (by omega)]))) (aE rfl (by simp[ae.refs,V.ag,V.refs];omega))
      ·exact aG (y:=o j) (by(repeat(first|rfl|rw[aa]|rw[ad _ _ _ _ (by omega)]))) (by(repeat(first|rfl|rw[aa]|rw[ad _ _ _ _ (by omega)]))) (aE rfl (fun r hr=>hg.refs j r hr))
   ·(repeat(first|rfl|rw[aa]|rw[ad _ _ _ _ (by omega)]))
    exact hg.fresh j (by omega)
   ·(repeat(first|exact bT|refine bF ?_|refine bq rfl ?_|refine bq (aT (aS (by omega))) ?_|refine dn 0 rfl rfl rfl ?_|refine dm rfl (by simp[V.refs,V.ag]<;>first|omega|assumption) ?_|refine dp rfl (by simp[V.ids]<;>omega) ?_))
  |true=>
   have GG:k=1:=by simp at ek;omega
   simp+contextual (disch:=first|omega|simp only[go_sem,false_implies]) only[go_sem,wrap64,if_pos,oa,ot,oo,os,oc,of,y5,y6,y9,tj,y1,y2,y3,y4,y7,y8,tk,tl,Nat.add_assoc,Nat.left_eq_add,Nat.add_eq_left,Nat.add_left_cancel_iff,List.length_map,hx,ek]
   refine dV (by simp;omega) (th (ih x kU) (n:=n) (fr:=fr) (bd:=bd) (nx:=c+10) (cid:=cid) (fid:=fid) ?_ ?_ Ee q0 (by omega) (by omega) (by omega)) ?_
   ·(repeat(first|rfl|rw[aa]|rw[ad _ _ _ _ (by omega)]))
   ·(repeat(first|rfl|rw[aa]|rw[ad _ _ _ _ (by omega)]))
   simp+contextual (disch:=first|omega|simp only[go_sem,false_implies]) only[go_sem,wrap64,if_pos,oa,ot,oo,os,oc,of,y5,y6,y9,tj,y1,y2,y3,y4,y7,y8,tk,tl,Nat.add_assoc,Nat.left_eq_add,Nat.add_eq_left,Nat.add_left_cancel_iff,List.length_map]
   have Bf:(if k=1 then bd else bd)=bd:=by split<;>rfl
   have ml:=iu x bd fr n
   refine aK (cK (ids:=[cid,fid,nx,nx+11,c,c+5,nx+14]) (nx:=c+10) (by simp;omega) (by simp;omega) [([3],[]),([3],[]),([6],[]),([5],[]),([0,1],[0,1]),([],[12]),([4,12],[4]),([3],[]),([3,4],[3])] (by decide)) ?_
   simp+contextual (disch:=first|omega|simp only[go_sem,false_implies]) only[go_sem,wrap64,if_pos,Nat.add_assoc,Nat.left_eq_add,Nat.add_eq_left,Nat.add_left_cancel_iff]
   refine az (k+1,(bL x bd fr n).2.1,(bL x bd fr n).2.2,ir++[(bL x bd fr n).1]) ⟨h2,by dsimp only;omega,by dsimp only;omega,by dsimp only;simp[q2],by dsimp only;rw[q3,wN];simp only[bg,Bf,List.append_assoc];rfl⟩ (by dsimp only;omega) (bY.iq (fun j=>j=c) (.osl c 1) c _ (by omega) (fun j hj=> ?_) (aa _ _ _) (.inr ⟨c,1,rfl,rfl,by(repeat(first|rfl|rw[aa]|rw[ad _ _ _ _ (by omega)]));rw[List.map_append];rfl⟩) (fun j hj=> ?_) (fun j h h2=>by omega) ?_)
   ·by_cases e1:j=nx+11
    ·subst e1
     exact aG (y:= .row [.d (.i op'), .d (.i N), .osl c 1]) (by(repeat(first|rfl|rw[aa]|rw[ad _ _ _ _ (by omega)]))) (by(repeat(first|rfl|rw[aa]|rw[ad _ _ _ _ (by omega)]))) (cV rfl (bU (bU (gz 0 rfl rfl rfl cU))))
    ·by_cases e2:j=fid
     ·subst e2
      exact aG (y:=dh (bL x bd fr n).2.1) (by(repeat(first|rfl|rw[aa]|rw[ad _ _ _ _ (by omega)]))) (by(repeat(first|rfl|rw[aa]|rw[ad _ _ _ _ (by omega)]))) (aE rfl (by simp[ae.refs]))
     ·by_cases e3:j=cid
      ·subst e3
       exact aG (y:= .row [.d (.i (bL x bd fr n).2.2), .mp fid]) (by(repeat(first|rfl|rw[aa]|rw[ad _ _ _ _ (by omega)]))) (by(repeat(first|rfl|rw[aa]|rw[ad _ _ _ _ (by omega)]))) (aE rfl (by simp[ae.refs,V.ag,V.refs];omega))
      ·exact aG (y:=o j) (by(repeat(first|rfl|rw[aa]|rw[ad _ _ _ _ (by omega)]))) (by(repeat(first|rfl|rw[aa]|rw[ad _ _ _ _ (by omega)]))) (aE rfl (fun r hr=>hg.refs j r hr))
   ·(repeat(first|rfl|rw[aa]|rw[ad _ _ _ _ (by omega)]))
    exact hg.fresh j (by omega)
   ·(repeat(first|exact bT|refine bF ?_|refine bq rfl ?_|refine bq (aT (aS (by omega))) ?_|refine dn 0 rfl rfl rfl ?_|refine dm rfl (by simp[V.refs,V.ag]<;>first|omega|assumption) ?_|refine dp rfl (by simp[V.ids]<;>omega) ?_))
 ·simp at h2
  simp+contextual (disch:=first|omega|simp only[go_sem,false_implies]) only[go_sem,wrap64,if_pos,and_self]
  have rM:t.kids.drop k=[]:=List.drop_eq_nil_of_le h2
  rw[rM]at q3
  simp only[bg,List.append_nil]at q3
  rw[q3]at hQ
  refine hQ _ _ _ rfl rfl ?_ ?_ ?_ ?_ (fun j g1 g2 g3=> ?_) ?_ ?_
  ·omega
  ·exact(by repeat(first|exact hg.mono (by omega)|exact Good.nil|refine Good.aq ?_ (by omega) rfl|refine Good.aq ?_ (by omega) (dR _ _ _ (by omega))|refine Good.aq ?_ (by omega) (by simp[ae.refs,V.ag,V.refs]<;>omega)))
  ·(repeat(first|rfl|rw[aa]|rw[ad _ _ _ _ (by omega)]))
  ·(repeat(first|rfl|rw[aa]|rw[ad _ _ _ _ (by omega)]))
  ·(repeat(first|rfl|rw[aa]|rw[ad _ _ _ _ (by omega)]))
  ·(repeat(first|rfl|rw[aa]|rw[ad _ _ _ _ (by omega)]))
  ·(repeat(first|rfl|rw[aa]|rw[ad _ _ _ _ (by omega)]))
theorem GH{t:Tm}(ih:∀k∈t.kids,tP k){o:Nat->ae}{nx c cid fid:Nat}{b:Nat}{mB:List (Int×Int)}{op' N:Int}{bd fr0:List (Int×Int)}{n0:Int}{e:Nat->V}{Q:fq->S->Prop}
 (hg:Good o c) (hc:nx+15<=c) (c1:cid<nx) (c2:fid<nx) (o7:cid≠fid) (oa:o nx= .row [.ptr cid 0, .mp b]) (ot:o (nx+1)= .row t.row) (oo:o (nx+11)= .row [.d (.i op'), .d (.i N), .aW]) (os:o (nx+14)= .row [.ptr cid 0, .mp b])
 (oc:o cid= .row [.d (.i n0), .mp fid]) (of:o fid=dh fr0) (Ee:∀v,lk mB v=lk bd v) (ob:o b=jF mB) (kb:ni mB) (b1:b≠cid) (b2:b≠fid) (b3:b<nx) (p0:0<=n0) (p1:n0+jD t.kids<=1000000)
 (he:eA c e [.ab, .ab, .ptr nx 0, .ptr (nx+1) 0, .ptr (nx+2) 0, .ab, .ab, .ptr (nx+11) 0, .ptr (nx+14) 0, .ab, .ab, .ab, .ab, .ab, .ab, .ab, .ab, .ab, .ab, .ab, .ab, .ab, .ab, .ab, .ab, .ab, .ab, .ab, .ab, .ab, .ab, .ab, .ab, .ab, .ab, .ab, .ab, .ab, .ab, .ab, .ab, .ab, .ab, .ab, .ab, .ab, .ab, .ab, .ab, .ab, .ab, .ab, .ab, .ab, .ab, .ab, .ab, .ab, .ab, .ab, .ab, .ab, .ab, .ab, .ab, .ab, .ab, .ab, .ab, .ab, .ab, .ab, .ab, .ab, .ab, .ab, .ab, .ab, .ab, .ab, .ab, .ab, .ab, .ab, .ab, .ab, .ab, .ab, .ab, .d (.sl (t.kids.map Tm.d)), .d (.i t.kids.length), .d (.i 0)] 0)
 (hQ:∀e' o' nx',e' 4= .ptr (nx+2) 0->e' 7= .ptr (nx+11) 0->c<=nx'->Good o' nx'->o' (nx+11)= .row [.d (.i op'), .d (.i N), .osl c 0]->o' c= .arr 0 28 3 ((bg t.kids bd bd 0 fr0 n0).1.map Tm.d)->(∀j,j<nx+11->j≠cid->j≠fid->o' j=o j)->o' cid= .row [.d (.i (bg t.kids bd bd 0 fr0 n0).2.2), .mp fid]->o' fid=dh (bg t.kids bd bd 0 fr0 n0).2.1->Q (.exit 2) ⟨e',o',nx'⟩):
 jR nx (fun Q s=>ka Tryz.prog 116 nx false jW Q s) Q ⟨e,o,c⟩:=by
 have hlen:=lL t.kids
 refine aX (fun i:Nat×List (Int×Int)×Int×List Tm=>⟨bB [.ab, .ab, .ptr nx 0, .ptr (nx+1) 0, .ptr (nx+2) 0, .ab, .ab, .ptr (nx+11) 0, .ptr (nx+14) 0, .ab, .ab, .ab, .ab, .ab, .ab, .ab, .ab, .ab, .ab, .ab, .ab, .ab, .ab, .ab, .ab, .ab, .ab, .ab, .ab, .ab, .ab, .ab, .ab, .ab, .ab, .ab, .ab, .ab, .ab, .ab, .ab, .ab, .ab, .ab, .ab, .ab, .ab, .ab, .ab, .ab, .ab, .ab, .ab, .ab, .ab, .ab, .ab, .ab, .ab, .ab, .ab, .ab, .ab, .ab, .ab, .ab, .ab, .ab, .ab, .ab, .ab, .ab, .ab, .ab, .ab, .ab, .ab, .ab, .ab, .ab, .ab, .ab, .ab, .ab, .ab, .ab, .ab, .ab, .ab, .d (.sl (t.kids.map Tm.d)), .d (.i t.kids.length), .d (.i i.1)],aq (aq (aq (aq o cid (.row [.d (.i i.2.2.1), .mp fid])) fid (dh i.2.1)) (nx+11) (.row [.d (.i op'), .d (.i N), .osl c 0])) c (.arr 0 28 3 (i.2.2.2.map Tm.d)),c+1⟩)
  (fun i=>i.1<=t.kids.length/\0<=i.2.2.1/\i.2.2.1+jD (t.kids.drop i.1)<=1000000/\i.2.2.2.length=i.1/\bg t.kids bd bd 0 fr0 n0=(i.2.2.2++(bg (t.kids.drop i.1) bd bd i.1 i.2.1 i.2.2.1).1,(bg (t.kids.drop i.1) bd bd i.1 i.2.1 i.2.2.1).2)) (fun i=>t.kids.length - i.1) (0,fr0,n0,[]) ⟨Nat.zero_le _,p0,p1,rfl,rfl⟩ (bY.iq (fun _=>False) .aW c _ (by omega) (fun j hj=> ?_) (aa _ _ _) (.inl ⟨rfl,rfl,by decide⟩) (fun j hj=> ?_) (fun _ h=>h.elim) (jb he)) ?_
 ·by_cases e1:j=nx+11
  ·subst e1
   exact aG oo (by(repeat(first|rfl|rw[aa]|rw[ad _ _ _ _ (by omega)]))) (cV rfl (bU (bU (gz 0 rfl rfl rfl cU))))
  ·by_cases e2:j=fid
   ·subst e2
    exact aG of (by(repeat(first|rfl|rw[aa]|rw[ad _ _ _ _ (by omega)]))) (aE rfl (by simp[ae.refs]))
   ·by_cases e3:j=cid
    ·subst e3
     exact aG oc (by(repeat(first|rfl|rw[aa]|rw[ad _ _ _ _ (by omega)]))) (aE rfl (by simp[ae.refs,V.ag,V.refs];omega))
    ·exact aG rfl (by(repeat(first|rfl|rw[aa]|rw[ad _ _ _ _ (by omega)]))) (aE rfl (fun r hr=>hg.refs j r hr))
 ·(repeat(first|rfl|rw[aa]|rw[ad _ _ _ _ (by omega)]))
  exact hg.fresh j (by omega)
 rintro⟨k,fr,n,ir⟩ ⟨hk,q0,q1,q2,q3⟩
 simp only at hk q0 q1 q2 q3
 have y1:cid≠c:=by omega
 have y2:∀k,cid≠c+k:=fun k=>by omega
 have y3:fid≠c:=by omega
 have y4:∀k,fid≠c+k:=fun k=>by omega
 have y5:cid≠nx+11:=by omega
 have y6:fid≠nx+11:=by omega
 have y7:∀k,k<15->nx+k≠c:=fun k hk=>by omega
 have y8:∀k j,k<15->nx+k≠c+j:=fun k j hk=>by omega
 have y9:∀k,cid≠nx+k:=fun k=>by omega
 have tj:∀k,fid≠nx+k:=fun k=>by omega
 have tk:nx≠cid:=by omega
 have tl:nx≠fid:=by omega
 have Ke:fid≠cid:=fun e=>o7 e.symm
 have z1:b≠c:=by omega
 have z2:∀k,b≠c+k:=fun k=>by omega
 have z3:∀k,b≠nx+k:=fun k=>by omega
 have z4:nx≠b:=by omega
 have z5:∀k,nx+k≠b:=fun k=>by omega
 have z6:c≠b:=by omega
 simp only[jW,tJ,IC.snd,IC.fst]
 simp+contextual (disch:=first|omega|simp only[go_sem,false_implies]) only[go_sem,wrap64,if_pos,oa,ot,oo,os,oc,of,y5,y6,y9,tj,y1,y2,y3,y4,y7,y8,tk,tl,Nat.add_assoc,Nat.left_eq_add,Nat.add_eq_left,Nat.add_left_cancel_iff,List.length_map,z1,z2,z3,z4,z5,z6]
 refine ay (fun h2=> ?_) (fun h2=> ?_)
 ·simp at h2
  obtain⟨x,hx⟩:=a7 h2
  have kU:=List.mem_of_getElem? hx
  have wN:t.kids.drop k=x::t.kids.drop (k+1):=by
   obtain⟨h5,h6⟩:=List.getElem?_eq_some_iff.1 hx
   rw[List.drop_eq_getElem_cons h5,h6]
  rw[wN,cB]at q1
  cases ek:((k:Int)==1)with
  |false=>
   have GG: ¬k=1:=by simp at ek;omega
   simp+contextual (disch:=first|omega|simp only[go_sem,false_implies]) only[go_sem,wrap64,if_pos,oa,ot,oo,os,oc,of,y5,y6,y9,tj,y1,y2,y3,y4,y7,y8,tk,tl,Nat.add_assoc,Nat.left_eq_add,Nat.add_eq_left,Nat.add_left_cancel_iff,List.length_map,z1,z2,z3,z4,z5,z6,hx,ek]
   refine dV (by simp;omega) (mO (ih x kU) (n:=n) (fr:=fr) (bd:=bd) (mB:=mB) (b:=b) (nx:=c+10) (cid:=cid) (fid:=fid) ?_ ?_ (.inr ?_) b1 b2 kb Ee q0 (by omega) (by omega) (by omega) (by omega)) ?_
   ·(repeat(first|rfl|rw[aa]|rw[ad _ _ _ _ (by omega)]))
   ·(repeat(first|rfl|rw[aa]|rw[ad _ _ _ _ (by omega)]))
   ·(repeat(first|rfl|rw[aa]|rw[ad _ _ _ _ (by omega)]))
    exact ob
   simp+contextual (disch:=first|omega|simp only[go_sem,false_implies]) only[go_sem,wrap64,if_pos,oa,ot,oo,os,oc,of,y5,y6,y9,tj,y1,y2,y3,y4,y7,y8,tk,tl,Nat.add_assoc,Nat.left_eq_add,Nat.add_eq_left,Nat.add_left_cancel_iff,List.length_map,z1,z2,z3,z4,z5,z6]
   have Bf:(if k=1 then bd else bd)=bd:=by split<;>rfl
   have ml:=iu x bd fr n
   refine aK (cK (ids:=[cid,fid,nx,nx+11,c,c+5,nx+14,b]) (nx:=c+10) (by simp;omega) (by simp;omega) [([3],[]),([3],[]),([2],[]),([5],[]),([0,1,7],[0,1,7]),([],[13]),([4,13],[4]),([3],[]),([3,4],[3])] (by decide)) ?_
   simp+contextual (disch:=first|omega|simp only[go_sem,false_implies]) only[go_sem,wrap64,if_pos,Nat.add_assoc,Nat.left_eq_add,Nat.add_eq_left,Nat.add_left_cancel_iff]
   refine az (k+1,(bL x bd fr n).2.1,(bL x bd fr n).2.2,ir++[(bL x bd fr n).1]) ⟨h2,by dsimp only;omega,by dsimp only;omega,by dsimp only;simp[q2],by dsimp only;rw[q3,wN];simp only[bg,Bf,List.append_assoc];rfl⟩ (by dsimp only;omega) (bY.iq (fun j=>j=c) (.osl c 1) c _ (by omega) (fun j hj=> ?_) (aa _ _ _) (.inr ⟨c,1,rfl,rfl,by(repeat(first|rfl|rw[aa]|rw[ad _ _ _ _ (by omega)]));rw[List.map_append];rfl⟩) (fun j hj=> ?_) (fun j h h2=>by omega) ?_)
   ·by_cases e1:j=nx+11
    ·subst e1
     exact aG (y:= .row [.d (.i op'), .d (.i N), .osl c 1]) (by(repeat(first|rfl|rw[aa]|rw[ad _ _ _ _ (by omega)]))) (by(repeat(first|rfl|rw[aa]|rw[ad _ _ _ _ (by omega)]))) (cV rfl (bU (bU (gz 0 rfl rfl rfl cU))))
    ·by_cases e2:j=fid
     ·subst e2
      exact aG (y:=dh (bL x bd fr n).2.1) (by(repeat(first|rfl|rw[aa]|rw[ad _ _ _ _ (by omega)]))) (by(repeat(first|rfl|rw[aa]|rw[ad _ _ _ _ (by omega)]))) (aE rfl (by simp[ae.refs]))
     ·by_cases e3:j=cid
      ·subst e3
       exact aG (y:= .row [.d (.i (bL x bd fr n).2.2), .mp fid]) (by(repeat(first|rfl|rw[aa]|rw[ad _ _ _ _ (by omega)]))) (by(repeat(first|rfl|rw[aa]|rw[ad _ _ _ _ (by omega)]))) (aE rfl (by simp[ae.refs,V.ag,V.refs];omega))
      ·by_cases e5:j=b
       ·subst e5
        exact aG (y:=jF mB) (by(repeat(first|rfl|rw[aa]|rw[ad _ _ _ _ (by omega)]))) (by(repeat(first|rfl|rw[aa]|rw[ad _ _ _ _ (by omega)]));exact ob) (aE rfl (by simp[ae.refs]))
       ·exact aG (y:=o j) (by(repeat(first|rfl|rw[aa]|rw[ad _ _ _ _ (by omega)]))) (by(repeat(first|rfl|rw[aa]|rw[ad _ _ _ _ (by omega)]))) (aE rfl (fun r hr=>hg.refs j r hr))
   ·(repeat(first|rfl|rw[aa]|rw[ad _ _ _ _ (by omega)]))
    exact hg.fresh j (by omega)
   ·(repeat(first|exact bT|refine bF ?_|refine bq rfl ?_|refine bq (aT (aS (by omega))) ?_|refine dn 0 rfl rfl rfl ?_|refine dm rfl (by simp[V.refs,V.ag]<;>first|omega|assumption) ?_|refine dp rfl (by simp[V.ids]<;>omega) ?_))
  |true=>
   have GG:k=1:=by simp at ek;omega
   simp+contextual (disch:=first|omega|simp only[go_sem,false_implies]) only[go_sem,wrap64,if_pos,oa,ot,oo,os,oc,of,y5,y6,y9,tj,y1,y2,y3,y4,y7,y8,tk,tl,Nat.add_assoc,Nat.left_eq_add,Nat.add_eq_left,Nat.add_left_cancel_iff,List.length_map,z1,z2,z3,z4,z5,z6,hx,ek]
   refine dV (by simp;omega) (mO (ih x kU) (n:=n) (fr:=fr) (bd:=bd) (mB:=mB) (b:=b) (nx:=c+10) (cid:=cid) (fid:=fid) ?_ ?_ (.inr ?_) b1 b2 kb Ee q0 (by omega) (by omega) (by omega) (by omega)) ?_
   ·(repeat(first|rfl|rw[aa]|rw[ad _ _ _ _ (by omega)]))
   ·(repeat(first|rfl|rw[aa]|rw[ad _ _ _ _ (by omega)]))
   ·(repeat(first|rfl|rw[aa]|rw[ad _ _ _ _ (by omega)]))
    exact ob
   simp+contextual (disch:=first|omega|simp only[go_sem,false_implies]) only[go_sem,wrap64,if_pos,oa,ot,oo,os,oc,of,y5,y6,y9,tj,y1,y2,y3,y4,y7,y8,tk,tl,Nat.add_assoc,Nat.left_eq_add,Nat.add_eq_left,Nat.add_left_cancel_iff,List.length_map,z1,z2,z3,z4,z5,z6]
   have Bf:(if k=1 then bd else bd)=bd:=by split<;>rfl
   have ml:=iu x bd fr n
   refine aK (cK (ids:=[cid,fid,nx,nx+11,c,c+5,nx+14,b]) (nx:=c+10) (by simp;omega) (by simp;omega) [([3],[]),([3],[]),([6],[]),([5],[]),([0,1,7],[0,1,7]),([],[13]),([4,13],[4]),([3],[]),([3,4],[3])] (by decide)) ?_
   simp+contextual (disch:=first|omega|simp only[go_sem,false_implies]) only[go_sem,wrap64,if_pos,Nat.add_assoc,Nat.left_eq_add,Nat.add_eq_left,Nat.add_left_cancel_iff]
   refine az (k+1,(bL x bd fr n).2.1,(bL x bd fr n).2.2,ir++[(bL x bd fr n).1]) ⟨h2,by dsimp only;omega,by dsimp only;omega,by dsimp only;simp[q2],by dsimp only;rw[q3,wN];simp only[bg,Bf,List.append_assoc];rfl⟩ (by dsimp only;omega) (bY.iq (fun j=>j=c) (.osl c 1) c _ (by omega) (fun j hj=> ?_) (aa _ _ _) (.inr ⟨c,1,rfl,rfl,by(repeat(first|rfl|rw[aa]|rw[ad _ _ _ _ (by omega)]));rw[List.map_append];rfl⟩) (fun j hj=> ?_) (fun j h h2=>by omega) ?_)
   ·by_cases e1:j=nx+11
    ·subst e1
     exact aG (y:= .row [.d (.i op'), .d (.i N), .osl c 1]) (by(repeat(first|rfl|rw[aa]|rw[ad _ _ _ _ (by omega)]))) (by(repeat(first|rfl|rw[aa]|rw[ad _ _ _ _ (by omega)]))) (cV rfl (bU (bU (gz 0 rfl rfl rfl cU))))
    ·by_cases e2:j=fid
     ·subst e2
      exact aG (y:=dh (bL x bd fr n).2.1) (by(repeat(first|rfl|rw[aa]|rw[ad _ _ _ _ (by omega)]))) (by(repeat(first|rfl|rw[aa]|rw[ad _ _ _ _ (by omega)]))) (aE rfl (by simp[ae.refs]))
     ·by_cases e3:j=cid
      ·subst e3
       exact aG (y:= .row [.d (.i (bL x bd fr n).2.2), .mp fid]) (by(repeat(first|rfl|rw[aa]|rw[ad _ _ _ _ (by omega)]))) (by(repeat(first|rfl|rw[aa]|rw[ad _ _ _ _ (by omega)]))) (aE rfl (by simp[ae.refs,V.ag,V.refs];omega))
      ·by_cases e5:j=b
       ·subst e5
        exact aG (y:=jF mB) (by(repeat(first|rfl|rw[aa]|rw[ad _ _ _ _ (by omega)]))) (by(repeat(first|rfl|rw[aa]|rw[ad _ _ _ _ (by omega)]));exact ob) (aE rfl (by simp[ae.refs]))
       ·exact aG (y:=o j) (by(repeat(first|rfl|rw[aa]|rw[ad _ _ _ _ (by omega)]))) (by(repeat(first|rfl|rw[aa]|rw[ad _ _ _ _ (by omega)]))) (aE rfl (fun r hr=>hg.refs j r hr))
   ·(repeat(first|rfl|rw[aa]|rw[ad _ _ _ _ (by omega)]))
    exact hg.fresh j (by omega)
   ·(repeat(first|exact bT|refine bF ?_|refine bq rfl ?_|refine bq (aT (aS (by omega))) ?_|refine dn 0 rfl rfl rfl ?_|refine dm rfl (by simp[V.refs,V.ag]<;>first|omega|assumption) ?_|refine dp rfl (by simp[V.ids]<;>omega) ?_))
 ·simp at h2
  simp+contextual (disch:=first|omega|simp only[go_sem,false_implies]) only[go_sem,wrap64,if_pos,and_self]
  have rM:t.kids.drop k=[]:=List.drop_eq_nil_of_le h2
  rw[rM]at q3
  simp only[bg,List.append_nil]at q3
  rw[q3]at hQ
  refine hQ _ _ _ rfl rfl ?_ ?_ ?_ ?_ (fun j g1 g2 g3=> ?_) ?_ ?_
  ·omega
  ·exact(by repeat(first|exact hg.mono (by omega)|exact Good.nil|refine Good.aq ?_ (by omega) rfl|refine Good.aq ?_ (by omega) (dR _ _ _ (by omega))|refine Good.aq ?_ (by omega) (by simp[ae.refs,V.ag,V.refs]<;>omega)))
  ·(repeat(first|rfl|rw[aa]|rw[ad _ _ _ _ (by omega)]))
  ·(repeat(first|rfl|rw[aa]|rw[ad _ _ _ _ (by omega)]))
  ·(repeat(first|rfl|rw[aa]|rw[ad _ _ _ _ (by omega)]))
  ·(repeat(first|rfl|rw[aa]|rw[ad _ _ _ _ (by omega)]))
  ·(repeat(first|rfl|rw[aa]|rw[ad _ _ _ _ (by omega)]))
theorem GI{t:Tm}(ih:∀k∈t.kids,tP k){o:Nat->ae}{nx c cid fid:Nat}{ib:Nat}{mI inn:List (Int×Int)}{op' N:Int}{bd fr0:List (Int×Int)}{n0:Int}{e:Nat->V}{Q:fq->S->Prop}
 (hg:Good o c) (hc:nx+15<=c) (c1:cid<nx) (c2:fid<nx) (o7:cid≠fid) (oa:o nx= .row [.ptr cid 0, .d .cO]) (ot:o (nx+1)= .row t.row) (oo:o (nx+11)= .row [.d (.i op'), .d (.i N), .aW]) (os:o (nx+14)= .row [.ptr cid 0, .mp ib])
 (oc:o cid= .row [.d (.i n0), .mp fid]) (of:o fid=dh fr0) (Ee:∀v,lk [] v=lk bd v) (oi:o ib=dh mI) (ki:ni mI) (VQ:∀v,lk mI v=lk inn v) (i1:nx+15<=ib) (i2:ib<c) (p0:0<=n0) (p1:n0+jD t.kids<=1000000)
 (he:eA c e [.ab, .ab, .ptr nx 0, .ptr (nx+1) 0, .ptr (nx+2) 0, .ab, .ab, .ptr (nx+11) 0, .ptr (nx+14) 0, .ab, .ab, .ab, .ab, .ab, .ab, .ab, .ab, .ab, .ab, .ab, .ab, .ab, .ab, .ab, .ab, .ab, .ab, .ab, .ab, .ab, .ab, .ab, .ab, .ab, .ab, .ab, .ab, .ab, .ab, .ab, .ab, .ab, .ab, .ab, .ab, .ab, .ab, .ab, .ab, .ab, .ab, .ab, .ab, .ab, .ab, .ab, .ab, .ab, .ab, .ab, .ab, .ab, .ab, .ab, .ab, .ab, .ab, .ab, .ab, .ab, .ab, .ab, .ab, .ab, .ab, .ab, .ab, .ab, .ab, .ab, .ab, .ab, .ab, .ab, .ab, .ab, .ab, .ab, .ab, .d (.sl (t.kids.map Tm.d)), .d (.i t.kids.length), .d (.i 0)] 0)
 (hQ:∀e' o' nx',e' 4= .ptr (nx+2) 0->e' 7= .ptr (nx+11) 0->c<=nx'->Good o' nx'->o' (nx+11)= .row [.d (.i op'), .d (.i N), .osl c 0]->o' c= .arr 0 28 3 ((bg t.kids bd inn 0 fr0 n0).1.map Tm.d)->(∀j,j<nx+11->j≠cid->j≠fid->o' j=o j)->o' cid= .row [.d (.i (bg t.kids bd inn 0 fr0 n0).2.2), .mp fid]->o' fid=dh (bg t.kids bd inn 0 fr0 n0).2.1->Q (.exit 2) ⟨e',o',nx'⟩):
 jR nx (fun Q s=>ka Tryz.prog 116 nx false jW Q s) Q ⟨e,o,c⟩:=by
 have hlen:=lL t.kids
 have iN:∀k,k<15->ib≠nx+k:=fun k hk=>by omega
 have iC:ib≠cid:=by omega
 have iF:ib≠fid:=by omega
 have iS:∀k,ib≠c+k:=fun k=>by omega
 have GJ:ib≠c:=by omega
 refine aX (fun i:Nat×List (Int×Int)×Int×List Tm=>⟨bB [.ab, .ab, .ptr nx 0, .ptr (nx+1) 0, .ptr (nx+2) 0, .ab, .ab, .ptr (nx+11) 0, .ptr (nx+14) 0, .ab, .ab, .ab, .ab, .ab, .ab, .ab, .ab, .ab, .ab, .ab, .ab, .ab, .ab, .ab, .ab, .ab, .ab, .ab, .ab, .ab, .ab, .ab, .ab, .ab, .ab, .ab, .ab, .ab, .ab, .ab, .ab, .ab, .ab, .ab, .ab, .ab, .ab, .ab, .ab, .ab, .ab, .ab, .ab, .ab, .ab, .ab, .ab, .ab, .ab, .ab, .ab, .ab, .ab, .ab, .ab, .ab, .ab, .ab, .ab, .ab, .ab, .ab, .ab, .ab, .ab, .ab, .ab, .ab, .ab, .ab, .ab, .ab, .ab, .ab, .ab, .ab, .ab, .ab, .ab, .d (.sl (t.kids.map Tm.d)), .d (.i t.kids.length), .d (.i i.1)],aq (aq (aq (aq (aq o ib (if 2<=i.1 then jF mI else dh mI)) cid (.row [.d (.i i.2.2.1), .mp fid])) fid (dh i.2.1)) (nx+11) (.row [.d (.i op'), .d (.i N), .osl c 0])) c (.arr 0 28 3 (i.2.2.2.map Tm.d)),c+1⟩)
  (fun i=>i.1<=t.kids.length/\0<=i.2.2.1/\i.2.2.1+jD (t.kids.drop i.1)<=1000000/\i.2.2.2.length=i.1/\bg t.kids bd inn 0 fr0 n0=(i.2.2.2++(bg (t.kids.drop i.1) bd inn i.1 i.2.1 i.2.2.1).1,(bg (t.kids.drop i.1) bd inn i.1 i.2.1 i.2.2.1).2)) (fun i=>t.kids.length - i.1) (0,fr0,n0,[]) ⟨Nat.zero_le _,p0,p1,rfl,rfl⟩ (bY.iq (fun _=>False) .aW c _ (by omega) (fun j hj=> ?_) (aa _ _ _) (.inl ⟨rfl,rfl,by decide⟩) (fun j hj=> ?_) (fun _ h=>h.elim) (jb he)) ?_
 ·by_cases e1:j=nx+11
  ·subst e1
   exact aG oo (by(repeat(first|rfl|rw[aa]|rw[ad _ _ _ _ (by omega)]))) (cV rfl (bU (bU (gz 0 rfl rfl rfl cU))))
  ·by_cases e2:j=fid
   ·subst e2
    exact aG of (by(repeat(first|rfl|rw[aa]|rw[ad _ _ _ _ (by omega)]))) (aE rfl (by simp[ae.refs]))
   ·by_cases e3:j=cid
    ·subst e3
     exact aG oc (by(repeat(first|rfl|rw[aa]|rw[ad _ _ _ _ (by omega)]))) (aE rfl (by simp[ae.refs,V.ag,V.refs];omega))
    ·by_cases e4:j=ib
     ·subst e4
      exact aG oi (by(repeat(first|rfl|rw[aa]|rw[ad _ _ _ _ (by omega)]))) (aE rfl (by simp[ae.refs]))
     ·exact aG rfl (by(repeat(first|rfl|rw[aa]|rw[ad _ _ _ _ (by omega)]))) (aE rfl (fun r hr=>hg.refs j r hr))
 ·(repeat(first|rfl|rw[aa]|rw[ad _ _ _ _ (by omega)]))
  exact hg.fresh j (by omega)
 rintro⟨k,fr,n,ir⟩ ⟨hk,q0,q1,q2,q3⟩
 simp only at hk q0 q1 q2 q3
 have y1:cid≠c:=by omega
 have y2:∀k,cid≠c+k:=fun k=>by omega
 have y3:fid≠c:=by omega
 have y4:∀k,fid≠c+k:=fun k=>by omega
 have y5:cid≠nx+11:=by omega
 have y6:fid≠nx+11:=by omega
 have y7:∀k,k<15->nx+k≠c:=fun k hk=>by omega
 have y8:∀k j,k<15->nx+k≠c+j:=fun k j hk=>by omega
 have y9:∀k,cid≠nx+k:=fun k=>by omega
 have tj:∀k,fid≠nx+k:=fun k=>by omega
 have tk:nx≠cid:=by omega
 have tl:nx≠fid:=by omega
 have Ke:fid≠cid:=fun e=>o7 e.symm
 have x1:nx≠ib:=by omega
 have x2:∀k,k<15->nx+k≠ib:=fun k hk=>by omega
 have x3:c≠ib:=by omega
 simp only[jW,tJ,IC.snd,IC.fst]
 simp+contextual (disch:=first|omega|simp only[go_sem,false_implies]) only[go_sem,wrap64,if_pos,oa,ot,oo,os,oc,of,y5,y6,y9,tj,y1,y2,y3,y4,y7,y8,tk,tl,Nat.add_assoc,Nat.left_eq_add,Nat.add_eq_left,Nat.add_left_cancel_iff,List.length_map,iN,iC,iF,iS,GJ,x1,x2,x3]
 refine ay (fun h2=> ?_) (fun h2=> ?_)
 ·simp at h2
  obtain⟨x,hx⟩:=a7 h2
  have kU:=List.mem_of_getElem? hx
  have wN:t.kids.drop k=x::t.kids.drop (k+1):=by
   obtain⟨h5,h6⟩:=List.getElem?_eq_some_iff.1 hx
   rw[List.drop_eq_getElem_cons h5,h6]
  rw[wN,cB]at q1
  cases ek:((k:Int)==1)with
  |false=>
   have GG: ¬k=1:=by simp at ek;omega
   have VR:(if 2<=k+1 then jF mI else dh mI)=(if 2<=k then jF mI else dh mI):=by by_cases h:2<=k<;>simp[h]<;>omega
   simp+contextual (disch:=first|omega|simp only[go_sem,false_implies]) only[go_sem,wrap64,if_pos,oa,ot,oo,os,oc,of,y5,y6,y9,tj,y1,y2,y3,y4,y7,y8,tk,tl,Nat.add_assoc,Nat.left_eq_add,Nat.add_eq_left,Nat.add_left_cancel_iff,List.length_map,iN,iC,iF,iS,GJ,x1,x2,x3,hx,ek]
   refine dV (by simp;omega) (th (ih x kU) (n:=n) (fr:=fr) (bd:=bd) (nx:=c+10) (cid:=cid) (fid:=fid) ?_ ?_ Ee q0 (by omega) (by omega) (by omega)) ?_
   ·(repeat(first|rfl|rw[aa]|rw[ad _ _ _ _ (by omega)]))
   ·(repeat(first|rfl|rw[aa]|rw[ad _ _ _ _ (by omega)]))
   simp+contextual (disch:=first|omega|simp only[go_sem,false_implies]) only[go_sem,wrap64,if_pos,oa,ot,oo,os,oc,of,y5,y6,y9,tj,y1,y2,y3,y4,y7,y8,tk,tl,Nat.add_assoc,Nat.left_eq_add,Nat.add_eq_left,Nat.add_left_cancel_iff,List.length_map,iN,iC,iF,iS,GJ,x1,x2,x3]
   have Bf:(if k=1 then inn else bd)=bd:=by rw[if_neg GG]
   have ml:=iu x bd fr n
   refine aK (cK (ids:=[cid,fid,nx,nx+11,c,c+5,nx+14]) (nx:=c+10) (by simp;omega) (by simp;omega) [([3],[]),([3],[]),([2],[]),([5],[]),([0,1],[0,1]),([],[12]),([4,12],[4]),([3],[]),([3,4],[3])] (by decide)) ?_
   simp+contextual (disch:=first|omega|simp only[go_sem,false_implies]) only[go_sem,wrap64,if_pos,Nat.add_assoc,Nat.left_eq_add,Nat.add_eq_left,Nat.add_left_cancel_iff]
   refine az (k+1,(bL x bd fr n).2.1,(bL x bd fr n).2.2,ir++[(bL x bd fr n).1]) ⟨h2,by dsimp only;omega,by dsimp only;omega,by dsimp only;simp[q2],by dsimp only;rw[q3,wN];simp only[bg,Bf,List.append_assoc];rfl⟩ (by dsimp only;omega) (bY.iq (fun j=>j=c) (.osl c 1) c _ (by omega) (fun j hj=> ?_) (aa _ _ _) (.inr ⟨c,1,rfl,rfl,by(repeat(first|rfl|rw[aa]|rw[ad _ _ _ _ (by omega)]));rw[List.map_append];rfl⟩) (fun j hj=> ?_) (fun j h h2=>by omega) ?_)
   ·by_cases e1:j=nx+11
    ·subst e1
     exact aG (y:= .row [.d (.i op'), .d (.i N), .osl c 1]) (by(repeat(first|rfl|rw[aa]|rw[ad _ _ _ _ (by omega)]))) (by(repeat(first|rfl|rw[aa]|rw[ad _ _ _ _ (by omega)]))) (cV rfl (bU (bU (gz 0 rfl rfl rfl cU))))
    ·by_cases e2:j=fid
     ·subst e2
      exact aG (y:=dh (bL x bd fr n).2.1) (by(repeat(first|rfl|rw[aa]|rw[ad _ _ _ _ (by omega)]))) (by(repeat(first|rfl|rw[aa]|rw[ad _ _ _ _ (by omega)]))) (aE rfl (by simp[ae.refs]))
     ·by_cases e3:j=cid
      ·subst e3
       exact aG (y:= .row [.d (.i (bL x bd fr n).2.2), .mp fid]) (by(repeat(first|rfl|rw[aa]|rw[ad _ _ _ _ (by omega)]))) (by(repeat(first|rfl|rw[aa]|rw[ad _ _ _ _ (by omega)]))) (aE rfl (by simp[ae.refs,V.ag,V.refs];omega))
      ·by_cases e4:j=ib
       ·subst e4
        exact aG (y:=if 2<=k then jF mI else dh mI) (by(repeat(first|rfl|rw[aa]|rw[ad _ _ _ _ (by omega)]))) (by(repeat(first|rfl|rw[aa]|rw[ad _ _ _ _ (by omega)]));rw[VR]) (aE rfl (by split<;>simp[ae.refs]))
       ·exact aG (y:=o j) (by(repeat(first|rfl|rw[aa]|rw[ad _ _ _ _ (by omega)]))) (by(repeat(first|rfl|rw[aa]|rw[ad _ _ _ _ (by omega)]))) (aE rfl (fun r hr=>hg.refs j r hr))
   ·(repeat(first|rfl|rw[aa]|rw[ad _ _ _ _ (by omega)]))
    exact hg.fresh j (by omega)
   ·(repeat(first|exact bT|refine bF ?_|refine bq rfl ?_|refine bq (aT (aS (by omega))) ?_|refine dn 0 rfl rfl rfl ?_|refine dm rfl (by simp[V.refs,V.ag]<;>first|omega|assumption) ?_|refine dp rfl (by simp[V.ids]<;>omega) ?_))
  |true=>
   have GG:k=1:=by simp at ek;omega
   simp+contextual (disch:=first|omega|simp only[go_sem,false_implies]) only[go_sem,wrap64,if_pos,oa,ot,oo,os,oc,of,y5,y6,y9,tj,y1,y2,y3,y4,y7,y8,tk,tl,Nat.add_assoc,Nat.left_eq_add,Nat.add_eq_left,Nat.add_left_cancel_iff,List.length_map,iN,iC,iF,iS,GJ,x1,x2,x3,hx,ek]
   refine dV (by simp;omega) (mO (ih x kU) (n:=n) (fr:=fr) (bd:=inn) (mB:=mI) (b:=ib) (nx:=c+10) (cid:=cid) (fid:=fid) ?_ ?_ (.inl ?_) iC iF ki VQ q0 (by omega) (by omega) (by omega) (by omega)) ?_
   ·(repeat(first|rfl|rw[aa]|rw[ad _ _ _ _ (by omega)]))
   ·(repeat(first|rfl|rw[aa]|rw[ad _ _ _ _ (by omega)]))
   ·(repeat(first|rfl|rw[aa]|rw[ad _ _ _ _ (by omega)]))
    rw[if_neg (by omega)]
   simp+contextual (disch:=first|omega|simp only[go_sem,false_implies]) only[go_sem,wrap64,if_pos,oa,ot,oo,os,oc,of,y5,y6,y9,tj,y1,y2,y3,y4,y7,y8,tk,tl,Nat.add_assoc,Nat.left_eq_add,Nat.add_eq_left,Nat.add_left_cancel_iff,List.length_map,iN,iC,iF,iS,GJ,x1,x2,x3]
   have Bf:(if k=1 then inn else bd)=inn:=by rw[if_pos GG]
   have ml:=iu x inn fr n
   refine aK (cK (ids:=[cid,fid,nx,nx+11,c,c+5,nx+14,ib]) (nx:=c+10) (by simp;omega) (by simp;omega) [([3],[]),([3],[]),([6],[]),([5],[]),([0,1,7],[0,1,7]),([],[13]),([4,13],[4]),([3],[]),([3,4],[3])] (by decide)) ?_
   simp+contextual (disch:=first|omega|simp only[go_sem,false_implies]) only[go_sem,wrap64,if_pos,Nat.add_assoc,Nat.left_eq_add,Nat.add_eq_left,Nat.add_left_cancel_iff]
   refine az (k+1,(bL x inn fr n).2.1,(bL x inn fr n).2.2,ir++[(bL x inn fr n).1]) ⟨h2,by dsimp only;omega,by dsimp only;omega,by dsimp only;simp[q2],by dsimp only;rw[q3,wN];simp only[bg,Bf,List.append_assoc];rfl⟩ (by dsimp only;omega) (bY.iq (fun j=>j=c) (.osl c 1) c _ (by omega) (fun j hj=> ?_) (aa _ _ _) (.inr ⟨c,1,rfl,rfl,by(repeat(first|rfl|rw[aa]|rw[ad _ _ _ _ (by omega)]));rw[List.map_append];rfl⟩) (fun j hj=> ?_) (fun j h h2=>by omega) ?_)
   ·by_cases e1:j=nx+11
    ·subst e1
     exact aG (y:= .row [.d (.i op'), .d (.i N), .osl c 1]) (by(repeat(first|rfl|rw[aa]|rw[ad _ _ _ _ (by omega)]))) (by(repeat(first|rfl|rw[aa]|rw[ad _ _ _ _ (by omega)]))) (cV rfl (bU (bU (gz 0 rfl rfl rfl cU))))
    ·by_cases e2:j=fid
     ·subst e2
      exact aG (y:=dh (bL x inn fr n).2.1) (by(repeat(first|rfl|rw[aa]|rw[ad _ _ _ _ (by omega)]))) (by(repeat(first|rfl|rw[aa]|rw[ad _ _ _ _ (by omega)]))) (aE rfl (by simp[ae.refs]))
     ·by_cases e3:j=cid
      ·subst e3
       exact aG (y:= .row [.d (.i (bL x inn fr n).2.2), .mp fid]) (by(repeat(first|rfl|rw[aa]|rw[ad _ _ _ _ (by omega)]))) (by(repeat(first|rfl|rw[aa]|rw[ad _ _ _ _ (by omega)]))) (aE rfl (by simp[ae.refs,V.ag,V.refs];omega))
      ·by_cases e4:j=ib
       ·subst e4
        exact aG (y:=jF mI) (by(repeat(first|rfl|rw[aa]|rw[ad _ _ _ _ (by omega)]))) (by(repeat(first|rfl|rw[aa]|rw[ad _ _ _ _ (by omega)]));rw[if_pos (by omega)]) (aE rfl (by simp[ae.refs]))
       ·exact aG (y:=o j) (by(repeat(first|rfl|rw[aa]|rw[ad _ _ _ _ (by omega)]))) (by(repeat(first|rfl|rw[aa]|rw[ad _ _ _ _ (by omega)]))) (aE rfl (fun r hr=>hg.refs j r hr))
   ·(repeat(first|rfl|rw[aa]|rw[ad _ _ _ _ (by omega)]))
    exact hg.fresh j (by omega)
   ·(repeat(first|exact bT|refine bF ?_|refine bq rfl ?_|refine bq (aT (aS (by omega))) ?_|refine dn 0 rfl rfl rfl ?_|refine dm rfl (by simp[V.refs,V.ag]<;>first|omega|assumption) ?_|refine dp rfl (by simp[V.ids]<;>omega) ?_))
 ·simp at h2
  simp+contextual (disch:=first|omega|simp only[go_sem,false_implies]) only[go_sem,wrap64,if_pos,and_self]
  have rM:t.kids.drop k=[]:=List.drop_eq_nil_of_le h2
  rw[rM]at q3
  simp only[bg,List.append_nil]at q3
  rw[q3]at hQ
  refine hQ _ _ _ rfl rfl ?_ ?_ ?_ ?_ (fun j g1 g2 g3=> ?_) ?_ ?_
  ·omega
  ·exact(by by_cases h:2<=k<;>(simp only[h,if_true,if_false];exact(by repeat(first|exact hg.mono (by omega)|exact Good.nil|refine Good.aq ?_ (by omega) rfl|refine Good.aq ?_ (by omega) (dR _ _ _ (by omega))|refine Good.aq ?_ (by omega) (by simp[ae.refs,V.ag,V.refs]<;>omega)))))
  ·(repeat(first|rfl|rw[aa]|rw[ad _ _ _ _ (by omega)]))
  ·(repeat(first|rfl|rw[aa]|rw[ad _ _ _ _ (by omega)]))
  ·(repeat(first|rfl|rw[aa]|rw[ad _ _ _ _ (by omega)]))
  ·(repeat(first|rfl|rw[aa]|rw[ad _ _ _ _ (by omega)]))
  ·(repeat(first|rfl|rw[aa]|rw[ad _ _ _ _ (by omega)]))
set_option maxHeartbeats 1000000 in
theorem GK{t:Tm}(ih:∀k∈t.kids,tP k){o:Nat->ae}{nx c cid fid:Nat}{b:Nat}{mB:List (Int×Int)}{ib:Nat}{mI inn:List (Int×Int)}{op' N:Int}{bd fr0:List (Int×Int)}{n0:Int}{e:Nat->V}{Q:fq->S->Prop}
 (hg:Good o c) (hc:nx+15<=c) (c1:cid<nx) (c2:fid<nx) (o7:cid≠fid) (oa:o nx= .row [.ptr cid 0, .mp b]) (ot:o (nx+1)= .row t.row) (oo:o (nx+11)= .row [.d (.i op'), .d (.i N), .aW]) (os:o (nx+14)= .row [.ptr cid 0, .mp ib])
 (oc:o cid= .row [.d (.i n0), .mp fid]) (of:o fid=dh fr0) (Ee:∀v,lk mB v=lk bd v) (ob:o b=jF mB) (kb:ni mB) (b1:b≠cid) (b2:b≠fid) (b3:b<nx) (oi:o ib=dh mI) (ki:ni mI) (VQ:∀v,lk mI v=lk inn v) (i1:nx+15<=ib) (i2:ib<c) (p0:0<=n0) (p1:n0+jD t.kids<=1000000)
 (he:eA c e [.ab, .ab, .ptr nx 0, .ptr (nx+1) 0, .ptr (nx+2) 0, .ab, .ab, .ptr (nx+11) 0, .ptr (nx+14) 0, .ab, .ab, .ab, .ab, .ab, .ab, .ab, .ab, .ab, .ab, .ab, .ab, .ab, .ab, .ab, .ab, .ab, .ab, .ab, .ab, .ab, .ab, .ab, .ab, .ab, .ab, .ab, .ab, .ab, .ab, .ab, .ab, .ab, .ab, .ab, .ab, .ab, .ab, .ab, .ab, .ab, .ab, .ab, .ab, .ab, .ab, .ab, .ab, .ab, .ab, .ab, .ab, .ab, .ab, .ab, .ab, .ab, .ab, .ab, .ab, .ab, .ab, .ab, .ab, .ab, .ab, .ab, .ab, .ab, .ab, .ab, .ab, .ab, .ab, .ab, .ab, .ab, .ab, .ab, .ab, .d (.sl (t.kids.map Tm.d)), .d (.i t.kids.length), .d (.i 0)] 0)
 (hQ:∀e' o' nx',e' 4= .ptr (nx+2) 0->e' 7= .ptr (nx+11) 0->c<=nx'->Good o' nx'->o' (nx+11)= .row [.d (.i op'), .d (.i N), .osl c 0]->o' c= .arr 0 28 3 ((bg t.kids bd inn 0 fr0 n0).1.map Tm.d)->(∀j,j<nx+11->j≠cid->j≠fid->o' j=o j)->o' cid= .row [.d (.i (bg t.kids bd inn 0 fr0 n0).2.2), .mp fid]->o' fid=dh (bg t.kids bd inn 0 fr0 n0).2.1->Q (.exit 2) ⟨e',o',nx'⟩):
 jR nx (fun Q s=>ka Tryz.prog 116 nx false jW Q s) Q ⟨e,o,c⟩:=by
 have hlen:=lL t.kids
 have iN:∀k,k<15->ib≠nx+k:=fun k hk=>by omega
 have iC:ib≠cid:=by omega
 have iF:ib≠fid:=by omega
 have iS:∀k,ib≠c+k:=fun k=>by omega
 have GJ:ib≠c:=by omega
 have bI:b≠ib:=by omega
 have iB:ib≠b:=by omega
 refine aX (fun i:Nat×List (Int×Int)×Int×List Tm=>⟨bB [.ab, .ab, .ptr nx 0, .ptr (nx+1) 0, .ptr (nx+2) 0, .ab, .ab, .ptr (nx+11) 0, .ptr (nx+14) 0, .ab, .ab, .ab, .ab, .ab, .ab, .ab, .ab, .ab, .ab, .ab, .ab, .ab, .ab, .ab, .ab, .ab, .ab, .ab, .ab, .ab, .ab, .ab, .ab, .ab, .ab, .ab, .ab, .ab, .ab, .ab, .ab, .ab, .ab, .ab, .ab, .ab, .ab, .ab, .ab, .ab, .ab, .ab, .ab, .ab, .ab, .ab, .ab, .ab, .ab, .ab, .ab, .ab, .ab, .ab, .ab, .ab, .ab, .ab, .ab, .ab, .ab, .ab, .ab, .ab, .ab, .ab, .ab, .ab, .ab, .ab, .ab, .ab, .ab, .ab, .ab, .ab, .ab, .ab, .ab, .d (.sl (t.kids.map Tm.d)), .d (.i t.kids.length), .d (.i i.1)],aq (aq (aq (aq (aq o ib (if 2<=i.1 then jF mI else dh mI)) cid (.row [.d (.i i.2.2.1), .mp fid])) fid (dh i.2.1)) (nx+11) (.row [.d (.i op'), .d (.i N), .osl c 0])) c (.arr 0 28 3 (i.2.2.2.map Tm.d)),c+1⟩)
  (fun i=>i.1<=t.kids.length/\0<=i.2.2.1/\i.2.2.1+jD (t.kids.drop i.1)<=1000000/\i.2.2.2.length=i.1/\bg t.kids bd inn 0 fr0 n0=(i.2.2.2++(bg (t.kids.drop i.1) bd inn i.1 i.2.1 i.2.2.1).1,(bg (t.kids.drop i.1) bd inn i.1 i.2.1 i.2.2.1).2)) (fun i=>t.kids.length - i.1) (0,fr0,n0,[]) ⟨Nat.zero_le _,p0,p1,rfl,rfl⟩ (bY.iq (fun _=>False) .aW c _ (by omega) (fun j hj=> ?_) (aa _ _ _) (.inl ⟨rfl,rfl,by decide⟩) (fun j hj=> ?_) (fun _ h=>h.elim) (jb he)) ?_
 ·by_cases e1:j=nx+11
  ·subst e1
   exact aG oo (by(repeat(first|rfl|rw[aa]|rw[ad _ _ _ _ (by omega)]))) (cV rfl (bU (bU (gz 0 rfl rfl rfl cU))))
  ·by_cases e2:j=fid
   ·subst e2
    exact aG of (by(repeat(first|rfl|rw[aa]|rw[ad _ _ _ _ (by omega)]))) (aE rfl (by simp[ae.refs]))
   ·by_cases e3:j=cid
    ·subst e3
     exact aG oc (by(repeat(first|rfl|rw[aa]|rw[ad _ _ _ _ (by omega)]))) (aE rfl (by simp[ae.refs,V.ag,V.refs];omega))
    ·by_cases e4:j=ib
     ·subst e4
      exact aG oi (by(repeat(first|rfl|rw[aa]|rw[ad _ _ _ _ (by omega)]))) (aE rfl (by simp[ae.refs]))
     ·exact aG rfl (by(repeat(first|rfl|rw[aa]|rw[ad _ _ _ _ (by omega)]))) (aE rfl (fun r hr=>hg.refs j r hr))
 ·(repeat(first|rfl|rw[aa]|rw[ad _ _ _ _ (by omega)]))
  exact hg.fresh j (by omega)
 rintro⟨k,fr,n,ir⟩ ⟨hk,q0,q1,q2,q3⟩
 simp only at hk q0 q1 q2 q3
 have y1:cid≠c:=by omega
 have y2:∀k,cid≠c+k:=fun k=>by omega
 have y3:fid≠c:=by omega
 have y4:∀k,fid≠c+k:=fun k=>by omega
 have y5:cid≠nx+11:=by omega
 have y6:fid≠nx+11:=by omega
 have y7:∀k,k<15->nx+k≠c:=fun k hk=>by omega
 have y8:∀k j,k<15->nx+k≠c+j:=fun k j hk=>by omega
 have y9:∀k,cid≠nx+k:=fun k=>by omega
 have tj:∀k,fid≠nx+k:=fun k=>by omega
 have tk:nx≠cid:=by omega
 have tl:nx≠fid:=by omega
 have Ke:fid≠cid:=fun e=>o7 e.symm
 have z1:b≠c:=by omega
 have z2:∀k,b≠c+k:=fun k=>by omega
 have z3:∀k,b≠nx+k:=fun k=>by omega
 have z4:nx≠b:=by omega
 have z5:∀k,nx+k≠b:=fun k=>by omega
 have z6:c≠b:=by omega
 have x1:nx≠ib:=by omega
 have x2:∀k,k<15->nx+k≠ib:=fun k hk=>by omega
 have x3:c≠ib:=by omega
 simp only[jW,tJ,IC.snd,IC.fst]
 simp+contextual (disch:=first|omega|simp only[go_sem,false_implies]) only[go_sem,wrap64,if_pos,oa,ot,oo,os,oc,of,y5,y6,y9,tj,y1,y2,y3,y4,y7,y8,tk,tl,Nat.add_assoc,Nat.left_eq_add,Nat.add_eq_left,Nat.add_left_cancel_iff,List.length_map,z1,z2,z3,z4,z5,z6,iN,iC,iF,iS,GJ,x1,x2,x3]
 refine ay (fun h2=> ?_) (fun h2=> ?_)
 ·simp at h2
  obtain⟨x,hx⟩:=a7 h2
  have kU:=List.mem_of_getElem? hx
  have wN:t.kids.drop k=x::t.kids.drop (k+1):=by
   obtain⟨h5,h6⟩:=List.getElem?_eq_some_iff.1 hx
   rw[List.drop_eq_getElem_cons h5,h6]
  rw[wN,cB]at q1
  cases ek:((k:Int)==1)with
  |false=>
   have GG: ¬k=1:=by simp at ek;omega
   have VR:(if 2<=k+1 then jF mI else dh mI)=(if 2<=k then jF mI else dh mI):=by by_cases h:2<=k<;>simp[h]<;>omega
   simp+contextual (disch:=first|omega|simp only[go_sem,false_implies]) only[go_sem,wrap64,if_pos,oa,ot,oo,os,oc,of,y5,y6,y9,tj,y1,y2,y3,y4,y7,y8,tk,tl,Nat.add_assoc,Nat.left_eq_add,Nat.add_eq_left,Nat.add_left_cancel_iff,List.length_map,z1,z2,z3,z4,z5,z6,iN,iC,iF,iS,GJ,x1,x2,x3,hx,ek]
   refine dV (by simp;omega) (mO (ih x kU) (n:=n) (fr:=fr) (bd:=bd) (mB:=mB) (b:=b) (nx:=c+10) (cid:=cid) (fid:=fid) ?_ ?_ (.inr ?_) b1 b2 kb Ee q0 (by omega) (by omega) (by omega) (by omega)) ?_
   ·(repeat(first|rfl|rw[aa]|rw[ad _ _ _ _ (by omega)]))
   ·(repeat(first|rfl|rw[aa]|rw[ad _ _ _ _ (by omega)]))
   ·(repeat(first|rfl|rw[aa]|rw[ad _ _ _ _ (by omega)]))
    exact ob
   simp+contextual (disch:=first|omega|simp only[go_sem,false_implies]) only[go_sem,wrap64,if_pos,oa,ot,oo,os,oc,of,y5,y6,y9,tj,y1,y2,y3,y4,y7,y8,tk,tl,Nat.add_assoc,Nat.left_eq_add,Nat.add_eq_left,Nat.add_left_cancel_iff,List.length_map,z1,z2,z3,z4,z5,z6,iN,iC,iF,iS,GJ,x1,x2,x3]
   have Bf:(if k=1 then inn else bd)=bd:=by rw[if_neg GG]
   have ml:=iu x bd fr n
   refine aK (cK (ids:=[cid,fid,nx,nx+11,c,c+5,nx+14,b]) (nx:=c+10) (by simp;omega) (by simp;omega) [([3],[]),([3],[]),([2],[]),([5],[]),([0,1,7],[0,1,7]),([],[13]),([4,13],[4]),([3],[]),([3,4],[3])] (by decide)) ?_
   simp+contextual (disch:=first|omega|simp only[go_sem,false_implies]) only[go_sem,wrap64,if_pos,Nat.add_assoc,Nat.left_eq_add,Nat.add_eq_left,Nat.add_left_cancel_iff]
   refine az (k+1,(bL x bd fr n).2.1,(bL x bd fr n).2.2,ir++[(bL x bd fr n).1]) ⟨h2,by dsimp only;omega,by dsimp only;omega,by dsimp only;simp[q2],by dsimp only;rw[q3,wN];simp only[bg,Bf,List.append_assoc];rfl⟩ (by dsimp only;omega) (bY.iq (fun j=>j=c) (.osl c 1) c _ (by omega) (fun j hj=> ?_) (aa _ _ _) (.inr ⟨c,1,rfl,rfl,by(repeat(first|rfl|rw[aa]|rw[ad _ _ _ _ (by omega)]));rw[List.map_append];rfl⟩) (fun j hj=> ?_) (fun j h h2=>by omega) ?_)
   ·by_cases e1:j=nx+11
    ·subst e1
     exact aG (y:= .row [.d (.i op'), .d (.i N), .osl c 1]) (by(repeat(first|rfl|rw[aa]|rw[ad _ _ _ _ (by omega)]))) (by(repeat(first|rfl|rw[aa]|rw[ad _ _ _ _ (by omega)]))) (cV rfl (bU (bU (gz 0 rfl rfl rfl cU))))
    ·by_cases e2:j=fid
     ·subst e2
      exact aG (y:=dh (bL x bd fr n).2.1) (by(repeat(first|rfl|rw[aa]|rw[ad _ _ _ _ (by omega)]))) (by(repeat(first|rfl|rw[aa]|rw[ad _ _ _ _ (by omega)]))) (aE rfl (by simp[ae.refs]))
     ·by_cases e3:j=cid
      ·subst e3
       exact aG (y:= .row [.d (.i (bL x bd fr n).2.2), .mp fid]) (by(repeat(first|rfl|rw[aa]|rw[ad _ _ _ _ (by omega)]))) (by(repeat(first|rfl|rw[aa]|rw[ad _ _ _ _ (by omega)]))) (aE rfl (by simp[ae.refs,V.ag,V.refs];omega))
      ·by_cases e4:j=ib
       ·subst e4
        exact aG (y:=if 2<=k then jF mI else dh mI) (by(repeat(first|rfl|rw[aa]|rw[ad _ _ _ _ (by omega)]))) (by(repeat(first|rfl|rw[aa]|rw[ad _ _ _ _ (by omega)]));rw[VR]) (aE rfl (by split<;>simp[ae.refs]))
       ·by_cases e5:j=b
        ·subst e5
         exact aG (y:=jF mB) (by(repeat(first|rfl|rw[aa]|rw[ad _ _ _ _ (by omega)]))) (by(repeat(first|rfl|rw[aa]|rw[ad _ _ _ _ (by omega)]));exact ob) (aE rfl (by simp[ae.refs]))
        ·exact aG (y:=o j) (by(repeat(first|rfl|rw[aa]|rw[ad _ _ _ _ (by omega)]))) (by(repeat(first|rfl|rw[aa]|rw[ad _ _ _ _ (by omega)]))) (aE rfl (fun r hr=>hg.refs j r hr))
   ·(repeat(first|rfl|rw[aa]|rw[ad _ _ _ _ (by omega)]))
    exact hg.fresh j (by omega)
   ·(repeat(first|exact bT|refine bF ?_|refine bq rfl ?_|refine bq (aT (aS (by omega))) ?_|refine dn 0 rfl rfl rfl ?_|refine dm rfl (by simp[V.refs,V.ag]<;>first|omega|assumption) ?_|refine dp rfl (by simp[V.ids]<;>omega) ?_))
  |true=>
   have GG:k=1:=by simp at ek;omega
   simp+contextual (disch:=first|omega|simp only[go_sem,false_implies]) only[go_sem,wrap64,if_pos,oa,ot,oo,os,oc,of,y5,y6,y9,tj,y1,y2,y3,y4,y7,y8,tk,tl,Nat.add_assoc,Nat.left_eq_add,Nat.add_eq_left,Nat.add_left_cancel_iff,List.length_map,z1,z2,z3,z4,z5,z6,iN,iC,iF,iS,GJ,x1,x2,x3,hx,ek]
   refine dV (by simp;omega) (mO (ih x kU) (n:=n) (fr:=fr) (bd:=inn) (mB:=mI) (b:=ib) (nx:=c+10) (cid:=cid) (fid:=fid) ?_ ?_ (.inl ?_) iC iF ki VQ q0 (by omega) (by omega) (by omega) (by omega)) ?_
   ·(repeat(first|rfl|rw[aa]|rw[ad _ _ _ _ (by omega)]))
   ·(repeat(first|rfl|rw[aa]|rw[ad _ _ _ _ (by omega)]))
   ·(repeat(first|rfl|rw[aa]|rw[ad _ _ _ _ (by omega)]))
    rw[if_neg (by omega)]
   simp+contextual (disch:=first|omega|simp only[go_sem,false_implies]) only[go_sem,wrap64,if_pos,oa,ot,oo,os,oc,of,y5,y6,y9,tj,y1,y2,y3,y4,y7,y8,tk,tl,Nat.add_assoc,Nat.left_eq_add,Nat.add_eq_left,Nat.add_left_cancel_iff,List.length_map,z1,z2,z3,z4,z5,z6,iN,iC,iF,iS,GJ,x1,x2,x3]
   have Bf:(if k=1 then inn else bd)=inn:=by rw[if_pos GG]
   have ml:=iu x inn fr n
   refine aK (cK (ids:=[cid,fid,nx,nx+11,c,c+5,nx+14,ib]) (nx:=c+10) (by simp;omega) (by simp;omega) [([3],[]),([3],[]),([6],[]),([5],[]),([0,1,7],[0,1,7]),([],[13]),([4,13],[4]),([3],[]),([3,4],[3])] (by decide)) ?_
   simp+contextual (disch:=first|omega|simp only[go_sem,false_implies]) only[go_sem,wrap64,if_pos,Nat.add_assoc,Nat.left_eq_add,Nat.add_eq_left,Nat.add_left_cancel_iff]
   refine az (k+1,(bL x inn fr n).2.1,(bL x inn fr n).2.2,ir++[(bL x inn fr n).1]) ⟨h2,by dsimp only;omega,by dsimp only;omega,by dsimp only;simp[q2],by dsimp only;rw[q3,wN];simp only[bg,Bf,List.append_assoc];rfl⟩ (by dsimp only;omega) (bY.iq (fun j=>j=c) (.osl c 1) c _ (by omega) (fun j hj=> ?_) (aa _ _ _) (.inr ⟨c,1,rfl,rfl,by(repeat(first|rfl|rw[aa]|rw[ad _ _ _ _ (by omega)]));rw[List.map_append];rfl⟩) (fun j hj=> ?_) (fun j h h2=>by omega) ?_)
   ·by_cases e1:j=nx+11
    ·subst e1
     exact aG (y:= .row [.d (.i op'), .d (.i N), .osl c 1]) (by(repeat(first|rfl|rw[aa]|rw[ad _ _ _ _ (by omega)]))) (by(repeat(first|rfl|rw[aa]|rw[ad _ _ _ _ (by omega)]))) (cV rfl (bU (bU (gz 0 rfl rfl rfl cU))))
    ·by_cases e2:j=fid
     ·subst e2
      exact aG (y:=dh (bL x inn fr n).2.1) (by(repeat(first|rfl|rw[aa]|rw[ad _ _ _ _ (by omega)]))) (by(repeat(first|rfl|rw[aa]|rw[ad _ _ _ _ (by omega)]))) (aE rfl (by simp[ae.refs]))
     ·by_cases e3:j=cid
      ·subst e3
       exact aG (y:= .row [.d (.i (bL x inn fr n).2.2), .mp fid]) (by(repeat(first|rfl|rw[aa]|rw[ad _ _ _ _ (by omega)]))) (by(repeat(first|rfl|rw[aa]|rw[ad _ _ _ _ (by omega)]))) (aE rfl (by simp[ae.refs,V.ag,V.refs];omega))
      ·by_cases e4:j=ib
       ·subst e4
        exact aG (y:=jF mI) (by(repeat(first|rfl|rw[aa]|rw[ad _ _ _ _ (by omega)]))) (by(repeat(first|rfl|rw[aa]|rw[ad _ _ _ _ (by omega)]));rw[if_pos (by omega)]) (aE rfl (by simp[ae.refs]))
       ·exact aG (y:=o j) (by(repeat(first|rfl|rw[aa]|rw[ad _ _ _ _ (by omega)]))) (by(repeat(first|rfl|rw[aa]|rw[ad _ _ _ _ (by omega)]))) (aE rfl (fun r hr=>hg.refs j r hr))
   ·(repeat(first|rfl|rw[aa]|rw[ad _ _ _ _ (by omega)]))
    exact hg.fresh j (by omega)
   ·(repeat(first|exact bT|refine bF ?_|refine bq rfl ?_|refine bq (aT (aS (by omega))) ?_|refine dn 0 rfl rfl rfl ?_|refine dm rfl (by simp[V.refs,V.ag]<;>first|omega|assumption) ?_|refine dp rfl (by simp[V.ids]<;>omega) ?_))
 ·simp at h2
  simp+contextual (disch:=first|omega|simp only[go_sem,false_implies]) only[go_sem,wrap64,if_pos,and_self]
  have rM:t.kids.drop k=[]:=List.drop_eq_nil_of_le h2
  rw[rM]at q3
  simp only[bg,List.append_nil]at q3
  rw[q3]at hQ
  refine hQ _ _ _ rfl rfl ?_ ?_ ?_ ?_ (fun j g1 g2 g3=> ?_) ?_ ?_
  ·omega
  ·exact(by by_cases h:2<=k<;>(simp only[h,if_true,if_false];exact(by repeat(first|exact hg.mono (by omega)|exact Good.nil|refine Good.aq ?_ (by omega) rfl|refine Good.aq ?_ (by omega) (dR _ _ _ (by omega))|refine Good.aq ?_ (by omega) (by simp[ae.refs,V.ag,V.refs]<;>omega)))))
  ·(repeat(first|rfl|rw[aa]|rw[ad _ _ _ _ (by omega)]))
  ·(repeat(first|rfl|rw[aa]|rw[ad _ _ _ _ (by omega)]))
  ·(repeat(first|rfl|rw[aa]|rw[ad _ _ _ _ (by omega)]))
  ·(repeat(first|rfl|rw[aa]|rw[ad _ _ _ _ (by omega)]))
  ·(repeat(first|rfl|rw[aa]|rw[ad _ _ _ _ (by omega)]))
end Go.Proofs.YtealblliddhgiaaGreat
namespace Go.Proofs.YtealblliddhgiaaGreat
theorem Tm.tn {t k:Tm}(hk:k∈t.kids):k.sz+1<=t.sz:=by
 have:=Tm.u4 hk
 rw[Tm.sY,Tm.sY]at this
 omega
theorem Tm.qe:∀t:Tm,t.b7<=t.sz:=by
 refine Tm.jC fun t ih=> ?_
 have h:Tm.dO t.kids<=t.sz - 1:=(rn _ _).2 fun k hk=>by have:=ih k hk;have:=Tm.tn hk;omega
 have:=Tm.A2 t
 rw[Tm.dq]
 omega
theorem Tm.lM:∀t:Tm,t.sz<=1000000->t.fits:=by
 refine Tm.jC fun t ih h=> ?_
 rw[Tm.dy]
 refine⟨?_,fun k hk=>ih k hk (by have:=Tm.tn hk;omega)⟩
 have:=lL t.kids
 rw[Tm.fi]at h
 omega
theorem Cp:∀t:Tm,(rp t).length<=t.sz:=by
 refine Tm.jC fun t ih=> ?_
 have hl:∀l:List Tm,(∀k∈l,k∈t.kids)->(tO l).length<=jD l:=by
  intro l
  induction l with
  |nil=>intro _;simp[tO,jD]
  |cons k l tL=>
   intro h
   have:=ih k (h k (by simp))
   have:=tL fun x hx=>h x (by simp[hx])
   simp only[tO,List.length_append,cB]
   omega
 have:=hl t.kids fun _ h=>h
 rw[te,Tm.fi,List.length_append]
 split<;>simp<;>omega
def tQ(b:List (Int×Tm)):List (Int×D):=b.map fun p=>(p.1,p.2.d)
@[reducible] def wV (b:List (Int×Tm)):D:=NN (tQ b)
theorem tp:∀ (m:List (Int×Tm)) (v:Int) (i:Nat),(match fy v (tQ m) i with|some (_,x)=>some x|none=>none)=(jE m v).map Tm.d
 |[],_,_=>rfl
 |p::m,v,i=>by
  have ih:=tp m v (i+1)
  simp only[tQ,List.map_cons,fy,jE]at ih|-
  by_cases h:v=p.1
  ·subst h;simp
  ·have h2: ¬p.1=v:=fun e=>h e.symm
   simp only[beq_iff_eq,h,h2,if_false]
   exact ih
theorem tR{m:List (Int×Tm)}{v:Int}{x:Tm}(h:jE m v=some x):∃j,fy v (tQ m) 0=some (j,x.d):=by
 have:=tp m v 0
 rw[h]at this
 cases h2:fy v (tQ m) 0 with
 |none=>rw[h2]at this;cases this
 |some p=>obtain⟨j,y⟩:=p;rw[h2]at this;simp at this;subst this;exact⟨j,rfl⟩
theorem nA{m:List (Int×Tm)}{v:Int}(h:jE m v=none):fy v (tQ m) 0=none:=by
 have:=tp m v 0
 rw[h]at this
 cases h2:fy v (tQ m) 0 with
 |none=>rfl
 |some p=>rw[h2]at this;cases this
theorem Kg(o:Nat->ae)(b:List (Int×Tm))(v:Int):gZ Tryz.prog o 78 (.d (wV b)) (.d (.int .i64 v)) true=some (match jE b v with|some x=> .bW [.d x.d, .d (.bool true)]|none=> .bW [.agg [.d (.i 0), .d (.i 0), .aW], .d (.bool false)],[],[]):=by
 cases h:jE b v with
 |none=>
  simp+contextual (disch:=first|omega|simp only[go_sem,false_implies]) only[go_sem,wrap64,if_pos,jS,nA h]
 |some x=>
  obtain⟨j,hj⟩:=tR h
  simp+contextual (disch:=first|omega|simp only[go_sem,false_implies]) only[go_sem,wrap64,if_pos,jS,hj]
structure Iz (b:List (Int×Tm)):Prop where
 keys:(b.map (·.1)).Nodup
 len:b.length<=1000
 sz:∀p∈b,p.2.sz<=1000
 cp:∀p∈b,cq Tryz.prog 53 [wV [],p.2.d] (.ret [p.2.d])
def Eg(t:Tm):Prop:=∀b,Iz b->cq Tryz.prog 53 [wV b,t.d] (.ret [(bA t.b7 b t).d])
def Cq:IC:=PW.snd.snd.snd.snd.fst.snd.fst.fst
def GL(b:List (Int×Tm))(k:Tm):Tm:=bA k.b7 b k
theorem Cr{t:Tm}{b:List (Int×Tm)}(hz:t.sz<=1000)(ih:∀k∈t.kids,Eg k)(hb:Iz b){o:Nat->ae}{c r:Nat}{op' N:Int}{e:Nat->V}{Q:fq->S->Prop}
 (hg:Good o c) (hc:r<c) (Z7:1<c) (oo:o r= .row [.d (.i op'), .d (.i N), .aW])
 (he:eA c e [.d (wV b), .ab, .ab, .ptr 0 0, .ptr 1 0, .ab, .ab, .ptr r 0, .ab, .ab, .ab, .ab, .ab, .ab, .ab, .ab, .ab, .ab, .ab, .ab, .ab, .ab, .ab, .ab, .ab, .ab, .ab, .ab, .ab, .ab, .ab, .ab, .ab, .ab, .ab, .ab, .ab, .ab, .d (.sl (t.kids.map Tm.d)), .d (.i t.kids.length), .d (.i 0)] 0)
 (hQ:∀e' o' nx',e' 4= .ptr 1 0->e' 7= .ptr r 0->c<=nx'->Good o' nx'->o' r= .row [.d (.i op'), .d (.i N), .osl c 0]->o' c= .arr 0 28 3 ((t.kids.map (GL b)).map Tm.d)->(∀j,j<c->j≠r->o' j=o j)->Q (.exit 0) ⟨e',o',nx'⟩):
 jR 0 (fun Q s=>ka Tryz.prog 54 0 false Cq Q s) Q ⟨e,o,c⟩:=by
 have hlen:=lL t.kids
 have ej:jD t.kids<=1000:=by rw[Tm.fi]at hz;omega
 refine aX (fun i:Nat=>⟨bB [.d (wV b), .ab, .ab, .ptr 0 0, .ptr 1 0, .ab, .ab, .ptr r 0, .ab, .ab, .ab, .ab, .ab, .ab, .ab, .ab, .ab, .ab, .ab, .ab, .ab, .ab, .ab, .ab, .ab, .ab, .ab, .ab, .ab, .ab, .ab, .ab, .ab, .ab, .ab, .ab, .ab, .ab, .d (.sl (t.kids.map Tm.d)), .d (.i t.kids.length), .d (.i i)],aq (aq o r (.row [.d (.i op'), .d (.i N), .osl c 0])) c (.arr 0 28 3 (((t.kids.take i).map (GL b)).map Tm.d)),c+1⟩)
  (fun i=>i<=t.kids.length) (fun i=>t.kids.length - i) 0 (Nat.zero_le _) (bY.iq (ty:=28) (sz:=3) (es:=[]) (fun _=>False) .aW c _ (by omega) (fun j hj=> ?_) (by rw[aa];simp) (.inl ⟨rfl,rfl,by decide⟩) (fun j hj=> ?_) (fun _ h=>h.elim) (jb he)) ?_
 ·by_cases e1:j=r
  ·subst e1
   exact aG oo (by(repeat(first|rfl|rw[aa]|rw[ad _ _ _ _ (by omega)]))) (cV rfl (bU (bU (gz 0 rfl rfl rfl cU))))
  ·exact aG rfl (by(repeat(first|rfl|rw[aa]|rw[ad _ _ _ _ (by omega)]))) (aE rfl (fun r hr=>hg.refs j r hr))
 ·(repeat(first|rfl|rw[aa]|rw[ad _ _ _ _ (by omega)]))
  exact hg.fresh j (by omega)
 rintro k hk
 have hk:k<=t.kids.length:=hk
 have y1:r≠c:=by omega
 have y2:∀k,r≠c+k:=fun k=>by omega
 simp only[Cq,PW,IC.snd,IC.fst]
 simp+contextual (disch:=first|omega|simp only[go_sem,false_implies]) only[go_sem,wrap64,if_pos,oo,y1,y2,Nat.add_assoc,Nat.left_eq_add,Nat.add_eq_left,Nat.add_left_cancel_iff,List.length_map]
 refine ay (fun h2=> ?_) (fun h2=> ?_)
 ·simp at h2
  obtain⟨x,hx⟩:=a7 h2
  have kU:=List.mem_of_getElem? hx
  simp+contextual (disch:=first|omega|simp only[go_sem,false_implies]) only[go_sem,wrap64,if_pos,oo,y1,y2,Nat.add_assoc,Nat.left_eq_add,Nat.add_eq_left,Nat.add_left_cancel_iff,List.length_map,hx]
  refine eS (rs:=[(GL b x).d]) (ih x kU b hb) ?_
  have e0:(t.kids.take k).length=k:=by rw[List.length_take];omega
  simp+contextual (disch:=first|omega|simp only[go_sem,false_implies]) only[go_sem,wrap64,if_pos,oo,y1,y2,Nat.add_assoc,Nat.left_eq_add,Nat.add_eq_left,Nat.add_left_cancel_iff,List.length_map,e0]
  refine aK (cK (ids:=[r,c,c+4]) (nx:=c+10) (by simp;omega) (by simp;omega) [([0],[]),([0],[]),([],[]),([2],[]),([],[]),([],[4]),([1,4],[1]),([0],[]),([0,1],[0])] (by decide)) ?_
  simp+contextual (disch:=first|omega|simp only[go_sem,false_implies]) only[go_sem,wrap64,if_pos,Nat.add_assoc,Nat.left_eq_add,Nat.add_eq_left,Nat.add_left_cancel_iff]
  have Kh:t.kids.take (k+1)=t.kids.take k++[x]:=by rw[List.take_add_one,hx];rfl
  refine az (k+1) h2 (by omega) (bY.iq (fun j=>j=c) (.osl c 1) c _ (by omega) (fun j hj=> ?_) (aa _ _ _) (.inr ⟨c,1,rfl,rfl,by(repeat(first|rfl|rw[aa]|rw[ad _ _ _ _ (by omega)]));rw[Kh,List.map_append,List.map_append];rfl⟩) (fun j hj=> ?_) (fun j h h2=>by omega) ?_)
  ·by_cases e1:j=r
   ·subst e1
    exact aG (y:= .row [.d (.i op'), .d (.i N), .osl c 1]) (by(repeat(first|rfl|rw[aa]|rw[ad _ _ _ _ (by omega)]))) (by(repeat(first|rfl|rw[aa]|rw[ad _ _ _ _ (by omega)]))) (cV rfl (bU (bU (gz 0 rfl rfl rfl cU))))
   ·exact aG (y:=o j) (by(repeat(first|rfl|rw[aa]|rw[ad _ _ _ _ (by omega)]))) (by(repeat(first|rfl|rw[aa]|rw[ad _ _ _ _ (by omega)]))) (aE rfl (fun r hr=>hg.refs j r hr))
  ·(repeat(first|rfl|rw[aa]|rw[ad _ _ _ _ (by omega)]))
   exact hg.fresh j (by omega)
  ·(repeat(first|exact bT|refine bF ?_|refine bq rfl ?_|refine bq (aT (aS (by omega))) ?_|refine dn 0 rfl rfl rfl ?_|refine dm rfl (by simp[V.refs,V.ag]<;>first|omega|assumption) ?_|refine dp rfl (by simp[V.ids]<;>omega) ?_))
 ·simp at h2
  simp+contextual (disch:=first|omega|simp only[go_sem,false_implies]) only[go_sem,wrap64,if_pos,and_self]
  have IL:k=t.kids.length:=by omega
  subst IL
  refine hQ _ _ _ rfl rfl ?_ ?_ ?_ ?_ (fun j g1 g2=> ?_)
  ·omega
  ·exact(by repeat(first|exact hg.mono (by omega)|exact Good.nil|refine Good.aq ?_ (by omega) rfl|refine Good.aq ?_ (by omega) (dR _ _ _ (by omega))|refine Good.aq ?_ (by omega) (by simp[ae.refs,V.ag,V.refs]<;>omega)))
  ·(repeat(first|rfl|rw[aa]|rw[ad _ _ _ _ (by omega)]))
  ·(repeat(first|rfl|rw[aa]|rw[ad _ _ _ _ (by omega)]))
   rw[List.take_length]
  ·(repeat(first|rfl|rw[aa]|rw[ad _ _ _ _ (by omega)]))
end Go.Proofs.YtealblliddhgiaaGreat
namespace Go.Proofs.YtealblliddhgiaaGreat
theorem vc{t:Tm}{b:List (Int×Tm)}(hw:t.wf)(h8:t.op≠8)(h1:t.op=1->jE b t.n=none):Tm.mk t.op t.n (t.kids.map (GL b))=bA t.b7 b t:=by
 have gX:=(Tm.gC t).1 hw
 have hh:t.b7=Tm.dO t.kids+1:=by rw[Tm.dq];omega
 have hk:t.kids.map (GL b)=t.kids.map (bA (Tm.dO t.kids) b):=List.map_congr_left fun k hk=>dQ _ _ k b (gX.2.2 k hk) (Nat.le_refl _) (Tm.sC hk)
 rw[hk,hh]
 simp only[bA]
 by_cases e:t.op=1
 ·rw[if_pos e,h1 e]
  have:=gX.1 e
  rw[this]
  have h2:=Tm.eta t
  rw[this]at h2
  exact h2
 ·rw[if_neg e,if_neg h8]
theorem GM{t x:Tm}{b:List (Int×Tm)}(h1:t.op=1)(hl:jE b t.n=some x):bA t.b7 b t=x:=by
 have hh:t.b7=Tm.dO t.kids+1:=by rw[Tm.dq];omega
 rw[hh]
 simp only[bA]
 rw[if_pos h1,hl]
theorem GN{t:Tm}(hw:t.wf)(hz:t.sz<=1000)(ih:∀k∈t.kids,Eg k)(RP:t.op=8->∀b,Iz b->cq Tryz.prog 91 [wV b,t.d] (.ret [(bA t.b7 b t).d])):Eg t:=by
 intro b hb
 refine cq.bt mix PX (by simp) ?_
 rw[PW]
 cases hl:jE b t.n with
 |some x=>
  simp+contextual (disch:=first|omega|simp only[go_sem,false_implies]) only[go_sem,wrap64,if_pos,Kg,hl]
  refine ay (fun h1=> ?_) (fun h1=> ?_)
  ·have lX:t.op=1:=by simpa using h1
   rw[GM lX hl]
   simp+contextual (disch:=first|omega|simp only[go_sem,false_implies]) only[go_sem,wrap64,if_pos,and_self]
   refine bN (hb.cp _ (jU hl)) ?_
   simp+contextual (disch:=first|omega|simp only[go_sem,false_implies]) only[go_sem,wrap64,if_pos,and_self]
  ·have lX:t.op≠1:=by simpa using h1
   simp+contextual (disch:=first|omega|simp only[go_sem,false_implies]) only[go_sem,wrap64,if_pos,and_self]
   refine ay (fun h8=> ?_) (fun h8=> ?_)
   ·have My:t.op=8:=by simpa using h8
    simp+contextual (disch:=first|omega|simp only[go_sem,false_implies]) only[go_sem,wrap64,if_pos,and_self]
    refine bN (RP My b hb) ?_
    simp+contextual (disch:=first|omega|simp only[go_sem,false_implies]) only[go_sem,wrap64,if_pos,and_self]
   ·have My:t.op≠8:=by simpa using h8
    simp+contextual (disch:=first|omega|simp only[go_sem,false_implies]) only[go_sem,wrap64,if_pos,and_self]
    rw[<- vc hw My (fun e=>absurd e lX)]
    refine Cr (b:=b) (c:=32) (r:=26) (op':=t.op) (N:=t.n) hz ih hb (by repeat(first|exact hg.mono (by omega)|exact Good.nil|refine Good.aq ?_ (by omega) rfl|refine Good.aq ?_ (by omega) (dR _ _ _ (by omega))|refine Good.aq ?_ (by omega) (by simp[ae.refs,V.ag,V.refs]<;>omega))) (by decide) (by decide) (by(repeat(first|rfl|rw[aa]|rw[ad _ _ _ _ (by omega)]))) ?_ fun e' o' nx' e4 e7 g1 g2 g3 g4 g5=> ?_
    ·(repeat(first|exact aw|refine ao ?_|refine ah rfl ?_|refine ah (aT (aS (by omega))) ?_|refine aF rfl (by simp[V.refs,V.ag]<;>first|omega|assumption) ?_))
    have q1:o' 1= .row [.d (.i 0), .d (.i 0), .aW]:=by rw[g5 1 (by decide) (by decide)];(repeat(first|rfl|rw[aa]|rw[ad _ _ _ _ (by omega)]))
    simp+contextual (disch:=first|omega|simp only[go_sem,false_implies]) only[go_sem,wrap64,if_pos,e4,e7,g3,g4,q1]
    rw[Tm.sB]
 |none=>
  simp+contextual (disch:=first|omega|simp only[go_sem,false_implies]) only[go_sem,wrap64,if_pos,Kg,hl]
  refine ay (fun h8=> ?_) (fun h8=> ?_)
  ·have My:t.op=8:=by simpa using h8
   simp+contextual (disch:=first|omega|simp only[go_sem,false_implies]) only[go_sem,wrap64,if_pos,and_self]
   refine bN (RP My b hb) ?_
   simp+contextual (disch:=first|omega|simp only[go_sem,false_implies]) only[go_sem,wrap64,if_pos,and_self]
  ·have My:t.op≠8:=by simpa using h8
   simp+contextual (disch:=first|omega|simp only[go_sem,false_implies]) only[go_sem,wrap64,if_pos,and_self]
   rw[<- vc hw My (fun _=>hl)]
   refine Cr (b:=b) (c:=32) (r:=26) (op':=t.op) (N:=t.n) hz ih hb (by repeat(first|exact hg.mono (by omega)|exact Good.nil|refine Good.aq ?_ (by omega) rfl|refine Good.aq ?_ (by omega) (dR _ _ _ (by omega))|refine Good.aq ?_ (by omega) (by simp[ae.refs,V.ag,V.refs]<;>omega))) (by decide) (by decide) (by(repeat(first|rfl|rw[aa]|rw[ad _ _ _ _ (by omega)]))) ?_ fun e' o' nx' e4 e7 g1 g2 g3 g4 g5=> ?_
   ·(repeat(first|exact aw|refine ao ?_|refine ah rfl ?_|refine ah (aT (aS (by omega))) ?_|refine aF rfl (by simp[V.refs,V.ag]<;>first|omega|assumption) ?_))
   have q1:o' 1= .row [.d (.i 0), .d (.i 0), .aW]:=by rw[g5 1 (by decide) (by decide)];(repeat(first|rfl|rw[aa]|rw[ad _ _ _ _ (by omega)]))
   simp+contextual (disch:=first|omega|simp only[go_sem,false_implies]) only[go_sem,wrap64,if_pos,e4,e7,g3,g4,q1]
   rw[Tm.sB]
end Go.Proofs.YtealblliddhgiaaGreat
namespace Go.Proofs.YtealblliddhgiaaGreat
theorem ve{K:V->List (Nat×ae)->Prop}{id:Nat}{m:List (Int×Tm)}(h0:m=[]->K (.bW [.d (.bool false)]) [])
 (h1:∀ (i:Nat) k x,m[i]? =some (k,x)->K (.bW [.d (.bool true), .d (.int .i64 k), .d x.d]) [(id, .kg (enc (D.int .i64) (tQ (m.eraseIdx i))) (some (.int .i64 k,x.d)))]):uL K id (enc (D.int .i64) (tQ m)):=by
 refine p6 _ (fun h=>h0 ?_) fun i k x h=> ?_
 ·cases m with
  |nil=>rfl
  |cons x l=>simp[tQ]at h
 ·unfold tQ at h|-
  rw[List.getElem?_map]at h
  cases hm:m[i]? with
  |none=>rw[hm]at h;cases h
  |some p=>
   rw[hm]at h
   simp at h
   obtain⟨rfl,rfl⟩:=h
   have:=h1 i p.1 p.2 (by rw[hm])
   rw[fh]
   exact this
@[reducible] def pt (m:List (Int×Tm)):ae:= .map 3 28 (enc (D.int .i64) (tQ m))
theorem pv{m:List (Int×Tm)}{v:Int}{x:Tm}(h:jE m v=none):wK v x.d (tQ m)=tQ (m++[(v,x)]):=by
 unfold wK
 rw[nA h]
 simp[tQ]
theorem wW(t:Tm)(v:Int):(aQ t).contains v=hO v t:=by
 rw[Bool.eq_iff_iff,List.contains_iff_mem]
 exact(bQ t).2 v
def Ki:IC:=JR.snd.snd.snd.snd.snd.fst.snd.fst.fst
theorem GO(l:List (Int×Tm))(p:Int×Tm)(body:Tm)(n:Int):kP (l++[p]) body n=(kP l body n||(hO p.1 body&&hO n p.2)):=by simp[kP]
theorem zl(l:List (Int×Tm))(p:Int×Tm)(n:Int):cu (l++[p]) n=if p.1=n then cu l n else cu l n++[p]:=by
 unfold cu
 rw[List.filter_append]
 by_cases h:p.1=n
 ·simp[h]
 ·simp[h]
theorem RQ{t body:Tm}{b:List (Int×Tm)}(hb:Iz b){o:Nat->ae}{e:Nat->V}{Q:fq->S->Prop}
 (hg:Good o 29) (o0:o 0= .row t.row) (om:o 15=pt []) (oi:o 28= .kg (enc (D.int .i64) (tQ b)) none)
 (he:eA 29 e [.d (wV b), .ab, .ab, .ptr 0 0, .ptr 1 0, .ptr 13 0, .mp 15, .ptr 20 0, .d (NN (eI (aQ body))), .d (.bool false), .ab, .ab, .ab, .ab, .ab, .ab, .ab, .ab, .ab, .ab, .ab, .ab, .ab, .ab, .ab, .ab, .ab, .ab, .ab, .ab, .ab, .ab, .ab, .ab, .ptr 28 0] 0)
 (hQ:∀e' o' nx' ir,e' 0= .d (wV b)->e' 3= .ptr 0 0->e' 4= .ptr 1 0->e' 5= .ptr 13 0->e' 6= .mp 15->e' 7= .ptr 20 0->e' 9= .d (.bool (kP (cu b t.n) body t.n))->29<=nx'->Good o' nx'->(∀j,j<29->j≠15->j≠28->o' j=o j)->o' 15=pt (cu ir t.n)->ir.Perm b->Q (.exit 0) ⟨e',o',nx'⟩):
 jR 0 (fun Q s=>ka Tryz.prog 102 0 false Ki Q s) Q ⟨e,o,29⟩:=by
 refine aX (fun i:List (Int×Tm)×List (Int×Tm)×Option (D×D)=>⟨bB [.d (wV b), .ab, .ab, .ptr 0 0, .ptr 1 0, .ptr 13 0, .mp 15, .ptr 20 0, .d (NN (eI (aQ body))), .d (.bool (kP (cu i.2.1 t.n) body t.n)), .ab, .ab, .ab, .ab, .ab, .ab, .ab, .ab, .ab, .ab, .ab, .ab, .ab, .ab, .ab, .ab, .ab, .ab, .ab, .ab, .ab, .ab, .ab, .ab, .ptr 28 0],aq (aq o 15 (pt (cu i.2.1 t.n))) 28 (.kg (enc (D.int .i64) (tQ i.1)) i.2.2),29⟩)
  (fun i=>(i.2.1++i.1).Perm b) (fun i=>i.1.length) (b,[],none) (List.Perm.refl _) ?_ ?_
 ·dsimp only
  refine bY.cT _ (by decide) (Nat.le_refl _) ?_ (fun j hj=> ?_) he
  ·exact(by repeat(first|exact hg.mono (by omega)|exact Good.nil|refine Good.aq ?_ (by omega) rfl|refine Good.aq ?_ (by omega) (dR _ _ _ (by omega))|refine Good.aq ?_ (by omega) (by simp[ae.refs,V.ag,V.refs]<;>omega)))
  ·by_cases e1:j=28
   ·subst e1;rw[aa];exact oi
   ·rw[ad _ _ _ _ e1]
    by_cases e2:j=15
    ·subst e2;rw[aa];exact om
    ·rw[ad _ _ _ _ e2]
 rintro⟨rest,ir,last⟩ hp
 replace hp:(ir++rest).Perm b:=hp
 dsimp only
 simp only[Ki,JR,IC.snd,IC.fst]
 simp+contextual (disch:=first|omega|simp only[go_sem,false_implies]) only[go_sem,wrap64,if_pos,o0]
 refine ve (fun hr=> ?_) fun i k x hm=> ?_
 ·subst hr
  simp+contextual (disch:=first|omega|simp only[go_sem,false_implies]) only[go_sem,wrap64,if_pos,and_self]
  have Et:ir.Perm b:=by simpa using hp
  have hc:kP (cu ir t.n) body t.n=kP (cu b t.n) body t.n:=zj _ (Et.filter _)
  refine hQ _ _ _ ir ?_ ?_ ?_ ?_ ?_ ?_ ?_ ?_ ?_ (fun j g1 g2 g3=> ?_) ?_ Et
  ·rfl
  ·rfl
  ·rfl
  ·rfl
  ·rfl
  ·rfl
  ·rw[<- hc];rfl
  ·omega
  ·exact(by repeat(first|exact hg.mono (by omega)|exact Good.nil|refine Good.aq ?_ (by omega) rfl|refine Good.aq ?_ (by omega) (dR _ _ _ (by omega))|refine Good.aq ?_ (by omega) (by simp[ae.refs,V.ag,V.refs]<;>omega)))
  ·(repeat(first|rfl|rw[aa]|rw[ad _ _ _ _ (by omega)]))
  ·(repeat(first|rfl|rw[aa]|rw[ad _ _ _ _ (by omega)]))
 ·have EJ:(ir++[(k,x)]++rest.eraseIdx i).Perm b:=by
   rw[List.append_assoc]
   exact(List.Perm.append_left _ (n6 hm)).trans hp
  have Od:(k,x)∈b:=EJ.mem_iff.1 (by simp)
  have Zx:x.sz<=1000:=hb.sz _ Od
  have vf:jE (cu ir t.n) k=none:=by
   rw[pq]
   intro h3
   have h4:k∈ir.map (·.1):=by
    obtain⟨p,h5,h6⟩:=List.mem_map.1 h3
    exact List.mem_map.2 ⟨p,(List.mem_filter.1 h5).1,h6⟩
   have h5:=(EJ.map (·.1)).nodup_iff.2 hb.keys
   rw[List.map_append,List.map_append,List.nodup_append,List.nodup_append]at h5
   exact h5.1.2.2 k h4 k (by simp) rfl
  have hlen:(rest.eraseIdx i).length<rest.length:=by
   obtain⟨hi,_⟩:=List.getElem?_eq_some_iff.1 hm
   rw[List.length_eraseIdx];simp[hi];omega
  simp+contextual (disch:=first|omega|simp only[go_sem,false_implies]) only[go_sem,wrap64,if_pos,o0]
  refine ay (fun h2=> ?_) (fun h2=> ?_)
  ·have w9:k≠t.n:=by simpa using h2
   have mf:cu (ir++[(k,x)]) t.n=cu ir t.n++[(k,x)]:=by rw[zl,if_neg w9]
   have VS:kP (cu (ir++[(k,x)]) t.n) body t.n=(kP (cu ir t.n) body t.n||(hO k body&&hO t.n x)):=by rw[mf,GO]
   have VT:∀ (e':Nat->V) (o':Nat->ae) (n':Nat) (c:Bool),c=kP (cu (ir++[(k,x)]) t.n) body t.n->Good o' n'->29<=n'->(∀j,j<29->j≠15->j≠28->o' j=o j)->o' 15=pt (cu (ir++[(k,x)]) t.n)->o' 28= .kg (enc (D.int .i64) (tQ (rest.eraseIdx i))) (some (.int .i64 k,x.d))->
    eA 29 e' [.d (wV b), .ab, .ab, .ptr 0 0, .ptr 1 0, .ptr 13 0, .mp 15, .ptr 20 0, .d (NN (eI (aQ body))), .d (.bool c), .ab, .ab, .ab, .ab, .ab, .ab, .ab, .ab, .ab, .ab, .ab, .ab, .ab, .ab, .ab, .ab, .ab, .ab, .ab, .ab, .ab, .ab, .ab, .ab, .ptr 28 0] 0->
    yj 0 (fun i=>⟨bB [.d (wV b), .ab, .ab, .ptr 0 0, .ptr 1 0, .ptr 13 0, .mp 15, .ptr 20 0, .d (NN (eI (aQ body))), .d (.bool (kP (cu i.2.1 t.n) body t.n)), .ab, .ab, .ab, .ab, .ab, .ab, .ab, .ab, .ab, .ab, .ab, .ab, .ab, .ab, .ab, .ab, .ab, .ab, .ab, .ab, .ab, .ab, .ab, .ab, .ptr 28 0],aq (aq o 15 (pt (cu i.2.1 t.n))) 28 (.kg (enc (D.int .i64) (tQ i.1)) i.2.2),29⟩) (fun i:List (Int×Tm)×List (Int×Tm)×Option (D×D)=>(i.2.1++i.1).Perm b) (fun i=>i.1.length) (rest,ir,last) ⟨e',o',n'⟩:=by
    intro e' o' n' c hc Gq hn hold Zy Zz fm
    subst hc
    refine az (rest.eraseIdx i,ir++[(k,x)],some (.int .i64 k,x.d)) EJ hlen (bY.cT _ (by decide) hn ?_ (fun j hj=> ?_) fm)
    ·dsimp only;exact(by repeat(first|exact hg.mono (by omega)|exact Good.nil|refine Good.aq ?_ (by omega) rfl|refine Good.aq ?_ (by omega) (dR _ _ _ (by omega))|refine Good.aq ?_ (by omega) (by simp[ae.refs,V.ag,V.refs]<;>omega)))
    ·dsimp only
     by_cases e1:j=28
     ·subst e1;rw[aa];exact Zz
     ·rw[ad _ _ _ _ e1]
      by_cases e2:j=15
      ·subst e2;rw[aa];exact Zy
      ·rw[ad _ _ _ _ e2];exact hold j hj e2 e1
   cases hc:kP (cu ir t.n) body t.n with
   |true=>
    simp+contextual (disch:=first|omega|simp only[go_sem,false_implies]) only[go_sem,wrap64,if_pos,o0,pv vf,hc,jS,wW]
    refine aK (by decide) ?_
    simp+contextual (disch:=first|omega|simp only[go_sem,false_implies]) only[go_sem,wrap64,if_pos,and_self]
    refine VT _ _ _ true (by rw[VS,hc];rfl) (by repeat(first|exact hg.mono (by omega)|exact Good.nil|refine Good.aq ?_ (by omega) rfl|refine Good.aq ?_ (by omega) (dR _ _ _ (by omega))|refine Good.aq ?_ (by omega) (by simp[ae.refs,V.ag,V.refs]<;>omega))) (by omega) (fun j g1 g2 g3=>by(repeat(first|rfl|rw[aa]|rw[ad _ _ _ _ (by omega)]))) (by rw[mf];(repeat(first|rfl|rw[aa]|rw[ad _ _ _ _ (by omega)]))) (by(repeat(first|rfl|rw[aa]|rw[ad _ _ _ _ (by omega)]))) ?_
    (repeat(first|exact aw|refine ao ?_|refine ah rfl ?_|refine ah (aT (aS (by omega))) ?_|refine aF rfl (by simp[V.refs,V.ag]<;>first|omega|assumption) ?_))
   |false=>
    cases hf:hO k body with
    |false=>
     simp+contextual (disch:=first|omega|simp only[go_sem,false_implies]) only[go_sem,wrap64,if_pos,o0,pv vf,hc,hf,jS,wW]
     refine aK (by decide) ?_
     simp+contextual (disch:=first|omega|simp only[go_sem,false_implies]) only[go_sem,wrap64,if_pos,and_self]
     refine VT _ _ _ false (by rw[VS,hc,hf];rfl) (by repeat(first|exact hg.mono (by omega)|exact Good.nil|refine Good.aq ?_ (by omega) rfl|refine Good.aq ?_ (by omega) (dR _ _ _ (by omega))|refine Good.aq ?_ (by omega) (by simp[ae.refs,V.ag,V.refs]<;>omega))) (by omega) (fun j g1 g2 g3=>by(repeat(first|rfl|rw[aa]|rw[ad _ _ _ _ (by omega)]))) (by rw[mf];(repeat(first|rfl|rw[aa]|rw[ad _ _ _ _ (by omega)]))) (by(repeat(first|rfl|rw[aa]|rw[ad _ _ _ _ (by omega)]))) ?_
     (repeat(first|exact aw|refine ao ?_|refine ah rfl ?_|refine ah (aT (aS (by omega))) ?_|refine aF rfl (by simp[V.refs,V.ag]<;>first|omega|assumption) ?_))
    |true=>
     simp+contextual (disch:=first|omega|simp only[go_sem,false_implies]) only[go_sem,wrap64,if_pos,o0,pv vf,hc,hf,jS,wW]
     refine eS (zh x (Tm.lM x (by omega))) ?_
     simp+contextual (disch:=first|omega|simp only[go_sem,false_implies]) only[go_sem,wrap64,if_pos,o0,hf,jS,wW]
     refine aK (by decide) ?_
     simp+contextual (disch:=first|omega|simp only[go_sem,false_implies]) only[go_sem,wrap64,if_pos,and_self]
     refine VT _ _ _ (hO t.n x) (by rw[VS,hc,hf];simp) (by repeat(first|exact hg.mono (by omega)|exact Good.nil|refine Good.aq ?_ (by omega) rfl|refine Good.aq ?_ (by omega) (dR _ _ _ (by omega))|refine Good.aq ?_ (by omega) (by simp[ae.refs,V.ag,V.refs]<;>omega))) (by omega) (fun j g1 g2 g3=>by(repeat(first|rfl|rw[aa]|rw[ad _ _ _ _ (by omega)]))) (by rw[mf];(repeat(first|rfl|rw[aa]|rw[ad _ _ _ _ (by omega)]))) (by(repeat(first|rfl|rw[aa]|rw[ad _ _ _ _ (by omega)]))) ?_
     (repeat(first|exact aw|refine ao ?_|refine ah rfl ?_|refine ah (aT (aS (by omega))) ?_|refine aF rfl (by simp[V.refs,V.ag]<;>first|omega|assumption) ?_))
  ·have w9:k=t.n:=by simpa using h2
   have mf:cu (ir++[(k,x)]) t.n=cu ir t.n:=by rw[zl,if_pos w9]
   simp+contextual (disch:=first|omega|simp only[go_sem,false_implies]) only[go_sem,wrap64,if_pos,o0]
   refine az (rest.eraseIdx i,ir++[(k,x)],some (.int .i64 k,x.d)) EJ hlen (bY.cT _ (by decide) (by omega) ?_ (fun j hj=> ?_) ?_)
   ·dsimp only;exact(by repeat(first|exact hg.mono (by omega)|exact Good.nil|refine Good.aq ?_ (by omega) rfl|refine Good.aq ?_ (by omega) (dR _ _ _ (by omega))|refine Good.aq ?_ (by omega) (by simp[ae.refs,V.ag,V.refs]<;>omega)))
   ·dsimp only
    rw[mf]
    by_cases e1:j=28
    ·subst e1;(repeat(first|rfl|rw[aa]|rw[ad _ _ _ _ (by omega)]))
    ·by_cases e2:j=15
     ·subst e2;(repeat(first|rfl|rw[aa]|rw[ad _ _ _ _ (by omega)]))
     ·(repeat(first|rfl|rw[aa]|rw[ad _ _ _ _ (by omega)]))
   ·dsimp only
    rw[mf]
    (repeat(first|exact aw|refine ao ?_|refine ah rfl ?_|refine ah (aT (aS (by omega))) ?_|refine aF rfl (by simp[V.refs,V.ag]<;>first|omega|assumption) ?_))
end Go.Proofs.YtealblliddhgiaaGreat
