/-
  A PART OF THE PROOF. Conditions: none.
-/
import Derived.Test.YtealblliddhgiaaGreatVr17
set_option linter.unusedSimpArgs false
set_option linter.unusedVariables false
namespace Go.Proofs.YtealblliddhgiaaGreat
theorem aD{c:Nat}{G:List Gr}{so:Nat->ae}{gone:Nat->Prop}{x x' y y':ae}(h:x=y)(h':x'=y')(hs:yo c G so gone y y'):yo c G so gone x x':=by rw[h,h'];exact hs
theorem iW{c:Nat}{G:List Gr}{so:Nat->ae}{gone:Nat->Prop}{e:Nat->V}:∀ {l:List V} {i:Nat},eg c e l i->mC c G so gone e l i
 |[],_,_=>trivial
 |v::l,i,h=>⟨h.1.elim .inl fun h=> .inr (.inl ⟨h.1,fun r hr=>h.2 r (by rw[h.1];exact hr)⟩),iW h.2⟩
theorem lF:∀l:List Tm,l.length<=jK l
 |[]=>by simp[jK]
 |k::l=>by have:=lF l;have:=Tm.AB k;rw[cE,List.length_cons];omega
def jP:IC:=tH.snd.snd.snd.snd.snd.fst.snd.fst.fst
theorem F1{t:Tm}(ih:∀k∈t.kids,tN k){o:Nat->ae}{nx c cid fid:Nat}{op' N:Int}{bd fr0:List (Int×Int)}{n0:Int}{e:Nat->V}{Q:e9->S->Prop}
 (hg:Good o c) (hc:nx+15<=c) (c1:cid<nx) (c2:fid<nx) (oR:cid≠fid) (oa:o nx= .row [.ptr cid 0, .d .cI]) (ot:o (nx+1)= .row t.row) (oo:o (nx+11)= .row [.d (.i op'), .d (.i N), .aX]) (os:o (nx+14)= .row [.ptr cid 0, .d .cI])
 (oc:o cid= .row [.d (.i n0), .mp fid]) (of:o fid=de fr0) (DG:∀v,lk [] v=lk bd v) (p0:0<=n0) (p1:n0+jK t.kids<=1000000)
 (he:eg c e [.aa, .aa, .ptr nx 0, .ptr (nx+1) 0, .ptr (nx+2) 0, .aa, .aa, .ptr (nx+11) 0, .ptr (nx+14) 0, .aa, .aa, .aa, .aa, .aa, .aa, .aa, .aa, .aa, .aa, .aa, .aa, .aa, .aa, .aa, .aa, .aa, .aa, .aa, .aa, .aa, .aa, .aa, .aa, .aa, .aa, .aa, .aa, .aa, .aa, .aa, .aa, .aa, .aa, .aa, .aa, .aa, .aa, .aa, .aa, .aa, .aa, .aa, .aa, .aa, .aa, .aa, .aa, .aa, .aa, .aa, .aa, .aa, .aa, .aa, .aa, .aa, .aa, .aa, .aa, .aa, .aa, .aa, .aa, .aa, .aa, .aa, .aa, .aa, .aa, .aa, .aa, .aa, .aa, .aa, .aa, .aa, .aa, .aa, .aa, .d (.sl (t.kids.map Tm.d)), .d (.i t.kids.length), .d (.i 0)] 0)
 (hQ:∀e' o' nx',e' 4= .ptr (nx+2) 0->e' 7= .ptr (nx+11) 0->c<=nx'->Good o' nx'->o' (nx+11)= .row [.d (.i op'), .d (.i N), .osl c 0]->o' c= .arr 0 28 3 ((aM t.kids bd bd 0 fr0 n0).1.map Tm.d)->(∀j,j<nx+11->j≠cid->j≠fid->o' j=o j)->o' cid= .row [.d (.i (aM t.kids bd bd 0 fr0 n0).2.2), .mp fid]->o' fid=de (aM t.kids bd bd 0 fr0 n0).2.1->Q (.exit 2) ⟨e',o',nx'⟩):
 jI nx (fun Q s=>jZ Tryz.prog 116 nx false jP Q s) Q ⟨e,o,c⟩:=by
 have hlen:=lF t.kids
 refine bn (fun i:Nat×List (Int×Int)×Int×List Tm=>⟨bF [.aa, .aa, .ptr nx 0, .ptr (nx+1) 0, .ptr (nx+2) 0, .aa, .aa, .ptr (nx+11) 0, .ptr (nx+14) 0, .aa, .aa, .aa, .aa, .aa, .aa, .aa, .aa, .aa, .aa, .aa, .aa, .aa, .aa, .aa, .aa, .aa, .aa, .aa, .aa, .aa, .aa, .aa, .aa, .aa, .aa, .aa, .aa, .aa, .aa, .aa, .aa, .aa, .aa, .aa, .aa, .aa, .aa, .aa, .aa, .aa, .aa, .aa, .aa, .aa, .aa, .aa, .aa, .aa, .aa, .aa, .aa, .aa, .aa, .aa, .aa, .aa, .aa, .aa, .aa, .aa, .aa, .aa, .aa, .aa, .aa, .aa, .aa, .aa, .aa, .aa, .aa, .aa, .aa, .aa, .aa, .aa, .aa, .aa, .aa, .d (.sl (t.kids.map Tm.d)), .d (.i t.kids.length), .d (.i i.1)],ao (ao (ao (ao o cid (.row [.d (.i i.2.2.1), .mp fid])) fid (de i.2.1)) (nx+11) (.row [.d (.i op'), .d (.i N), .osl c 0])) c (.arr 0 28 3 (i.2.2.2.map Tm.d)),c+1⟩)
  (fun i=>i.1<=t.kids.length/\0<=i.2.2.1/\i.2.2.1+jK (t.kids.drop i.1)<=1000000/\i.2.2.2.length=i.1/\aM t.kids bd bd 0 fr0 n0=(i.2.2.2++(aM (t.kids.drop i.1) bd bd i.1 i.2.1 i.2.2.1).1,(aM (t.kids.drop i.1) bd bd i.1 i.2.1 i.2.2.1).2)) (fun i=>t.kids.length - i.1) (0,fr0,n0,[]) ⟨Nat.zero_le _,p0,p1,rfl,rfl⟩ (cq.mY (fun _=>False) .aX c _ (by omega) (fun j hj=> ?_) (ab _ _ _) (.inl ⟨rfl,rfl,by decide⟩) (fun j hj=> ?_) (fun _ h=>h.elim) (iW he)) ?_
 ·by_cases e1:j=nx+11
  ·subst e1
   exact aD oo (by(repeat(first|rfl|rw[ab]|rw[ad _ _ _ _ (by omega)]))) (bW rfl (bq (bq (gr 0 rfl rfl rfl bV))))
  ·by_cases e2:j=fid
   ·subst e2
    exact aD of (by(repeat(first|rfl|rw[ab]|rw[ad _ _ _ _ (by omega)]))) (aG rfl (by simp[ae.refs]))
   ·by_cases e3:j=cid
    ·subst e3
     exact aD oc (by(repeat(first|rfl|rw[ab]|rw[ad _ _ _ _ (by omega)]))) (aG rfl (by simp[ae.refs,V.ag,V.refs];omega))
    ·exact aD rfl (by(repeat(first|rfl|rw[ab]|rw[ad _ _ _ _ (by omega)]))) (aG rfl (fun r hr=>hg.refs j r hr))
 ·(repeat(first|rfl|rw[ab]|rw[ad _ _ _ _ (by omega)]))
  exact hg.fresh j (by omega)
 rintro⟨k,fr,n,jQ⟩ ⟨hk,q0,q1,q2,q3⟩
 simp only at hk q0 q1 q2 q3
 have y1:cid≠c:=by omega
 have y2:∀k,cid≠c+k:=fun k=>by omega
 have y3:fid≠c:=by omega
 have y4:∀k,fid≠c+k:=fun k=>by omega
 have y5:cid≠nx+11:=by omega
 have y6:fid≠nx+11:=by omega
 have y7:∀k,k<15->nx+k≠c:=fun k hk=>by omega
 have y8:∀k j,k<15->nx+k≠c+j:=fun k j hk=>by omega
 have y9:∀k,cid≠nx+k:=fun k=>by omega
 have s5:∀k,fid≠nx+k:=fun k=>by omega
 have s6:nx≠cid:=by omega
 have s7:nx≠fid:=by omega
 have JB:fid≠cid:=fun e=>oR e.symm
 simp only[jP,tH,IC.snd,IC.fst]
 simp+contextual (disch:=first|omega|simp only[go_sem,false_implies]) only[go_sem,wrap64,if_pos,oa,ot,oo,os,oc,of,y5,y6,y9,s5,y1,y2,y3,y4,y7,y8,s6,s7,Nat.add_assoc,Nat.left_eq_add,Nat.add_eq_left,Nat.add_left_cancel_iff,List.length_map]
 refine ax (fun h2=> ?_) (fun h2=> ?_)
 ·simp at h2
  obtain⟨x,hx⟩:=bH h2
  have lM:=List.mem_of_getElem? hx
  have yI:t.kids.drop k=x::t.kids.drop (k+1):=by
   obtain⟨h5,h6⟩:=List.getElem?_eq_some_iff.1 hx
   rw[List.drop_eq_getElem_cons h5,h6]
  rw[yI,cE]at q1
  cases ek:((k:Int)==1)with
  |false=>
   have F2: ¬k=1:=by simp at ek;omega
   simp+contextual (disch:=first|omega|simp only[go_sem,false_implies]) only[go_sem,wrap64,if_pos,oa,ot,oo,os,oc,of,y5,y6,y9,s5,y1,y2,y3,y4,y7,y8,s6,s7,Nat.add_assoc,Nat.left_eq_add,Nat.add_eq_left,Nat.add_left_cancel_iff,List.length_map,hx,ek]
   refine dL (by simp;omega) (sZ (ih x lM) (n:=n) (fr:=fr) (bd:=bd) (nx:=c+10) (cid:=cid) (fid:=fid) ?_ ?_ DG q0 (by omega) (by omega) (by omega)) ?_
   ·(repeat(first|rfl|rw[ab]|rw[ad _ _ _ _ (by omega)]))
   ·(repeat(first|rfl|rw[ab]|rw[ad _ _ _ _ (by omega)]))
   simp+contextual (disch:=first|omega|simp only[go_sem,false_implies]) only[go_sem,wrap64,if_pos,oa,ot,oo,os,oc,of,y5,y6,y9,s5,y1,y2,y3,y4,y7,y8,s6,s7,Nat.add_assoc,Nat.left_eq_add,Nat.add_eq_left,Nat.add_left_cancel_iff,List.length_map]
   have AR:(if k=1 then bd else bd)=bd:=by split<;>rfl
   have ni:=cZ x bd fr n
   refine aP (cD (ids:=[cid,fid,nx,nx+11,c,c+5,nx+14]) (nx:=c+10) (by simp;omega) (by simp;omega) [([3],[]),([3],[]),([2],[]),([5],[]),([0,1],[0,1]),([],[12]),([4,12],[4]),([3],[]),([3,4],[3])] (by decide)) ?_
   simp+contextual (disch:=first|omega|simp only[go_sem,false_implies]) only[go_sem,wrap64,if_pos,Nat.add_assoc,Nat.left_eq_add,Nat.add_eq_left,Nat.add_left_cancel_iff]
   refine aE (k+1,(aQ x bd fr n).2.1,(aQ x bd fr n).2.2,jQ++[(aQ x bd fr n).1]) ⟨h2,by dsimp only;omega,by dsimp only;omega,by dsimp only;simp[q2],by dsimp only;rw[q3,yI];simp only[aM,AR,List.append_assoc];rfl⟩ (by dsimp only;omega) (cq.mY (fun j=>j=c) (.osl c 1) c _ (by omega) (fun j hj=> ?_) (ab _ _ _) (.inr ⟨c,1,rfl,rfl,by(repeat(first|rfl|rw[ab]|rw[ad _ _ _ _ (by omega)]));rw[List.map_append];rfl⟩) (fun j hj=> ?_) (fun j h h2=>by omega) ?_)
   ·by_cases e1:j=nx+11
    ·subst e1
     exact aD (y:= .row [.d (.i op'), .d (.i N), .osl c 1]) (by(repeat(first|rfl|rw[ab]|rw[ad _ _ _ _ (by omega)]))) (by(repeat(first|rfl|rw[ab]|rw[ad _ _ _ _ (by omega)]))) (bW rfl (bq (bq (gr 0 rfl rfl rfl bV))))
    ·by_cases e2:j=fid
     ·subst e2
      exact aD (y:=de (aQ x bd fr n).2.1) (by(repeat(first|rfl|rw[ab]|rw[ad _ _ _ _ (by omega)]))) (by(repeat(first|rfl|rw[ab]|rw[ad _ _ _ _ (by omega)]))) (aG rfl (by simp[ae.refs]))
     ·by_cases e3:j=cid
      ·subst e3
       exact aD (y:= .row [.d (.i (aQ x bd fr n).2.2), .mp fid]) (by(repeat(first|rfl|rw[ab]|rw[ad _ _ _ _ (by omega)]))) (by(repeat(first|rfl|rw[ab]|rw[ad _ _ _ _ (by omega)]))) (aG rfl (by simp[ae.refs,V.ag,V.refs];omega))
      ·exact aD (y:=o j) (by(repeat(first|rfl|rw[ab]|rw[ad _ _ _ _ (by omega)]))) (by(repeat(first|rfl|rw[ab]|rw[ad _ _ _ _ (by omega)]))) (aG rfl (fun r hr=>hg.refs j r hr))
   ·(repeat(first|rfl|rw[ab]|rw[ad _ _ _ _ (by omega)]))
    exact hg.fresh j (by omega)
   ·(repeat(first|exact ei|refine dk ?_|refine cR rfl ?_|refine cR (aV (aU (by omega))) ?_|refine ir 0 rfl rfl rfl ?_|refine iq rfl (by simp[V.refs,V.ag]<;>first|omega|assumption) ?_|refine iu rfl (by simp[V.ids]<;>omega) ?_))
  |true=>
   have F2:k=1:=by simp at ek;omega
   simp+contextual (disch:=first|omega|simp only[go_sem,false_implies]) only[go_sem,wrap64,if_pos,oa,ot,oo,os,oc,of,y5,y6,y9,s5,y1,y2,y3,y4,y7,y8,s6,s7,Nat.add_assoc,Nat.left_eq_add,Nat.add_eq_left,Nat.add_left_cancel_iff,List.length_map,hx,ek]
   refine dL (by simp;omega) (sZ (ih x lM) (n:=n) (fr:=fr) (bd:=bd) (nx:=c+10) (cid:=cid) (fid:=fid) ?_ ?_ DG q0 (by omega) (by omega) (by omega)) ?_
   ·(repeat(first|rfl|rw[ab]|rw[ad _ _ _ _ (by omega)]))
   ·(repeat(first|rfl|rw[ab]|rw[ad _ _ _ _ (by omega)]))
   simp+contextual (disch:=first|omega|simp only[go_sem,false_implies]) only[go_sem,wrap64,if_pos,oa,ot,oo,os,oc,of,y5,y6,y9,s5,y1,y2,y3,y4,y7,y8,s6,s7,Nat.add_assoc,Nat.left_eq_add,Nat.add_eq_left,Nat.add_left_cancel_iff,List.length_map]
   have AR:(if k=1 then bd else bd)=bd:=by split<;>rfl
   have ni:=cZ x bd fr n
   refine aP (cD (ids:=[cid,fid,nx,nx+11,c,c+5,nx+14]) (nx:=c+10) (by simp;omega) (by simp;omega) [([3],[]),([3],[]),([6],[]),([5],[]),([0,1],[0,1]),([],[12]),([4,12],[4]),([3],[]),([3,4],[3])] (by decide)) ?_
   simp+contextual (disch:=first|omega|simp only[go_sem,false_implies]) only[go_sem,wrap64,if_pos,Nat.add_assoc,Nat.left_eq_add,Nat.add_eq_left,Nat.add_left_cancel_iff]
   refine aE (k+1,(aQ x bd fr n).2.1,(aQ x bd fr n).2.2,jQ++[(aQ x bd fr n).1]) ⟨h2,by dsimp only;omega,by dsimp only;omega,by dsimp only;simp[q2],by dsimp only;rw[q3,yI];simp only[aM,AR,List.append_assoc];rfl⟩ (by dsimp only;omega) (cq.mY (fun j=>j=c) (.osl c 1) c _ (by omega) (fun j hj=> ?_) (ab _ _ _) (.inr ⟨c,1,rfl,rfl,by(repeat(first|rfl|rw[ab]|rw[ad _ _ _ _ (by omega)]));rw[List.map_append];rfl⟩) (fun j hj=> ?_) (fun j h h2=>by omega) ?_)
   ·by_cases e1:j=nx+11
    ·subst e1
     exact aD (y:= .row [.d (.i op'), .d (.i N), .osl c 1]) (by(repeat(first|rfl|rw[ab]|rw[ad _ _ _ _ (by omega)]))) (by(repeat(first|rfl|rw[ab]|rw[ad _ _ _ _ (by omega)]))) (bW rfl (bq (bq (gr 0 rfl rfl rfl bV))))
    ·by_cases e2:j=fid
     ·subst e2
      exact aD (y:=de (aQ x bd fr n).2.1) (by(repeat(first|rfl|rw[ab]|rw[ad _ _ _ _ (by omega)]))) (by(repeat(first|rfl|rw[ab]|rw[ad _ _ _ _ (by omega)]))) (aG rfl (by simp[ae.refs]))
     ·by_cases e3:j=cid
      ·subst e3
       exact aD (y:= .row [.d (.i (aQ x bd fr n).2.2), .mp fid]) (by(repeat(first|rfl|rw[ab]|rw[ad _ _ _ _ (by omega)]))) (by(repeat(first|rfl|rw[ab]|rw[ad _ _ _ _ (by omega)]))) (aG rfl (by simp[ae.refs,V.ag,V.refs];omega))
      ·exact aD (y:=o j) (by(repeat(first|rfl|rw[ab]|rw[ad _ _ _ _ (by omega)]))) (by(repeat(first|rfl|rw[ab]|rw[ad _ _ _ _ (by omega)]))) (aG rfl (fun r hr=>hg.refs j r hr))
   ·(repeat(first|rfl|rw[ab]|rw[ad _ _ _ _ (by omega)]))
    exact hg.fresh j (by omega)
   ·(repeat(first|exact ei|refine dk ?_|refine cR rfl ?_|refine cR (aV (aU (by omega))) ?_|refine ir 0 rfl rfl rfl ?_|refine iq rfl (by simp[V.refs,V.ag]<;>first|omega|assumption) ?_|refine iu rfl (by simp[V.ids]<;>omega) ?_))
 ·simp at h2
  simp+contextual (disch:=first|omega|simp only[go_sem,false_implies]) only[go_sem,wrap64,if_pos,and_self]
  have vl:t.kids.drop k=[]:=List.drop_eq_nil_of_le h2
  rw[vl]at q3
  simp only[aM,List.append_nil]at q3
  rw[q3]at hQ
  refine hQ _ _ _ rfl rfl ?_ ?_ ?_ ?_ (fun j g1 g2 g3=> ?_) ?_ ?_
  ·omega
  ·exact(by repeat(first|exact hg.mono (by omega)|exact Good.nil|refine Good.ao ?_ (by omega) rfl|refine Good.ao ?_ (by omega) (dK _ _ _ (by omega))|refine Good.ao ?_ (by omega) (by simp[ae.refs,V.ag,V.refs]<;>omega)))
  ·(repeat(first|rfl|rw[ab]|rw[ad _ _ _ _ (by omega)]))
  ·(repeat(first|rfl|rw[ab]|rw[ad _ _ _ _ (by omega)]))
  ·(repeat(first|rfl|rw[ab]|rw[ad _ _ _ _ (by omega)]))
  ·(repeat(first|rfl|rw[ab]|rw[ad _ _ _ _ (by omega)]))
  ·(repeat(first|rfl|rw[ab]|rw[ad _ _ _ _ (by omega)]))
theorem F3{t:Tm}(ih:∀k∈t.kids,tN k){o:Nat->ae}{nx c cid fid:Nat}{b:Nat}{mB:List (Int×Int)}{op' N:Int}{bd fr0:List (Int×Int)}{n0:Int}{e:Nat->V}{Q:e9->S->Prop}
 (hg:Good o c) (hc:nx+15<=c) (c1:cid<nx) (c2:fid<nx) (oR:cid≠fid) (oa:o nx= .row [.ptr cid 0, .mp b]) (ot:o (nx+1)= .row t.row) (oo:o (nx+11)= .row [.d (.i op'), .d (.i N), .aX]) (os:o (nx+14)= .row [.ptr cid 0, .mp b])
 (oc:o cid= .row [.d (.i n0), .mp fid]) (of:o fid=de fr0) (DG:∀v,lk mB v=lk bd v) (ob:o b=jv mB) (kb:m6 mB) (b1:b≠cid) (b2:b≠fid) (b3:b<nx) (p0:0<=n0) (p1:n0+jK t.kids<=1000000)
 (he:eg c e [.aa, .aa, .ptr nx 0, .ptr (nx+1) 0, .ptr (nx+2) 0, .aa, .aa, .ptr (nx+11) 0, .ptr (nx+14) 0, .aa, .aa, .aa, .aa, .aa, .aa, .aa, .aa, .aa, .aa, .aa, .aa, .aa, .aa, .aa, .aa, .aa, .aa, .aa, .aa, .aa, .aa, .aa, .aa, .aa, .aa, .aa, .aa, .aa, .aa, .aa, .aa, .aa, .aa, .aa, .aa, .aa, .aa, .aa, .aa, .aa, .aa, .aa, .aa, .aa, .aa, .aa, .aa, .aa, .aa, .aa, .aa, .aa, .aa, .aa, .aa, .aa, .aa, .aa, .aa, .aa, .aa, .aa, .aa, .aa, .aa, .aa, .aa, .aa, .aa, .aa, .aa, .aa, .aa, .aa, .aa, .aa, .aa, .aa, .aa, .d (.sl (t.kids.map Tm.d)), .d (.i t.kids.length), .d (.i 0)] 0)
 (hQ:∀e' o' nx',e' 4= .ptr (nx+2) 0->e' 7= .ptr (nx+11) 0->c<=nx'->Good o' nx'->o' (nx+11)= .row [.d (.i op'), .d (.i N), .osl c 0]->o' c= .arr 0 28 3 ((aM t.kids bd bd 0 fr0 n0).1.map Tm.d)->(∀j,j<nx+11->j≠cid->j≠fid->o' j=o j)->o' cid= .row [.d (.i (aM t.kids bd bd 0 fr0 n0).2.2), .mp fid]->o' fid=de (aM t.kids bd bd 0 fr0 n0).2.1->Q (.exit 2) ⟨e',o',nx'⟩):
 jI nx (fun Q s=>jZ Tryz.prog 116 nx false jP Q s) Q ⟨e,o,c⟩:=by
 have hlen:=lF t.kids
 refine bn (fun i:Nat×List (Int×Int)×Int×List Tm=>⟨bF [.aa, .aa, .ptr nx 0, .ptr (nx+1) 0, .ptr (nx+2) 0, .aa, .aa, .ptr (nx+11) 0, .ptr (nx+14) 0, .aa, .aa, .aa, .aa, .aa, .aa, .aa, .aa, .aa, .aa, .aa, .aa, .aa, .aa, .aa, .aa, .aa, .aa, .aa, .aa, .aa, .aa, .aa, .aa, .aa, .aa, .aa, .aa, .aa, .aa, .aa, .aa, .aa, .aa, .aa, .aa, .aa, .aa, .aa, .aa, .aa, .aa, .aa, .aa, .aa, .aa, .aa, .aa, .aa, .aa, .aa, .aa, .aa, .aa, .aa, .aa, .aa, .aa, .aa, .aa, .aa, .aa, .aa, .aa, .aa, .aa, .aa, .aa, .aa, .aa, .aa, .aa, .aa, .aa, .aa, .aa, .aa, .aa, .aa, .aa, .d (.sl (t.kids.map Tm.d)), .d (.i t.kids.length), .d (.i i.1)],ao (ao (ao (ao o cid (.row [.d (.i i.2.2.1), .mp fid])) fid (de i.2.1)) (nx+11) (.row [.d (.i op'), .d (.i N), .osl c 0])) c (.arr 0 28 3 (i.2.2.2.map Tm.d)),c+1⟩)
  (fun i=>i.1<=t.kids.length/\0<=i.2.2.1/\i.2.2.1+jK (t.kids.drop i.1)<=1000000/\i.2.2.2.length=i.1/\aM t.kids bd bd 0 fr0 n0=(i.2.2.2++(aM (t.kids.drop i.1) bd bd i.1 i.2.1 i.2.2.1).1,(aM (t.kids.drop i.1) bd bd i.1 i.2.1 i.2.2.1).2)) (fun i=>t.kids.length - i.1) (0,fr0,n0,[]) ⟨Nat.zero_le _,p0,p1,rfl,rfl⟩ (cq.mY (fun _=>False) .aX c _ (by omega) (fun j hj=> ?_) (ab _ _ _) (.inl ⟨rfl,rfl,by decide⟩) (fun j hj=> ?_) (fun _ h=>h.elim) (iW he)) ?_
 ·by_cases e1:j=nx+11
  ·subst e1
   exact aD oo (by(repeat(first|rfl|rw[ab]|rw[ad _ _ _ _ (by omega)]))) (bW rfl (bq (bq (gr 0 rfl rfl rfl bV))))
  ·by_cases e2:j=fid
   ·subst e2
    exact aD of (by(repeat(first|rfl|rw[ab]|rw[ad _ _ _ _ (by omega)]))) (aG rfl (by simp[ae.refs]))
   ·by_cases e3:j=cid
    ·subst e3
     exact aD oc (by(repeat(first|rfl|rw[ab]|rw[ad _ _ _ _ (by omega)]))) (aG rfl (by simp[ae.refs,V.ag,V.refs];omega))
    ·exact aD rfl (by(repeat(first|rfl|rw[ab]|rw[ad _ _ _ _ (by omega)]))) (aG rfl (fun r hr=>hg.refs j r hr))
 ·(repeat(first|rfl|rw[ab]|rw[ad _ _ _ _ (by omega)]))
  exact hg.fresh j (by omega)
 rintro⟨k,fr,n,jQ⟩ ⟨hk,q0,q1,q2,q3⟩
 simp only at hk q0 q1 q2 q3
 have y1:cid≠c:=by omega
 have y2:∀k,cid≠c+k:=fun k=>by omega
 have y3:fid≠c:=by omega
 have y4:∀k,fid≠c+k:=fun k=>by omega
 have y5:cid≠nx+11:=by omega
 have y6:fid≠nx+11:=by omega
 have y7:∀k,k<15->nx+k≠c:=fun k hk=>by omega
 have y8:∀k j,k<15->nx+k≠c+j:=fun k j hk=>by omega
 have y9:∀k,cid≠nx+k:=fun k=>by omega
 have s5:∀k,fid≠nx+k:=fun k=>by omega
 have s6:nx≠cid:=by omega
 have s7:nx≠fid:=by omega
 have JB:fid≠cid:=fun e=>oR e.symm
 have z1:b≠c:=by omega
 have z2:∀k,b≠c+k:=fun k=>by omega
 have z3:∀k,b≠nx+k:=fun k=>by omega
 have z4:nx≠b:=by omega
 have z5:∀k,nx+k≠b:=fun k=>by omega
 have z6:c≠b:=by omega
 simp only[jP,tH,IC.snd,IC.fst]
 simp+contextual (disch:=first|omega|simp only[go_sem,false_implies]) only[go_sem,wrap64,if_pos,oa,ot,oo,os,oc,of,y5,y6,y9,s5,y1,y2,y3,y4,y7,y8,s6,s7,Nat.add_assoc,Nat.left_eq_add,Nat.add_eq_left,Nat.add_left_cancel_iff,List.length_map,z1,z2,z3,z4,z5,z6]
 refine ax (fun h2=> ?_) (fun h2=> ?_)
 ·simp at h2
  obtain⟨x,hx⟩:=bH h2
  have lM:=List.mem_of_getElem? hx
  have yI:t.kids.drop k=x::t.kids.drop (k+1):=by
   obtain⟨h5,h6⟩:=List.getElem?_eq_some_iff.1 hx
   rw[List.drop_eq_getElem_cons h5,h6]
  rw[yI,cE]at q1
  cases ek:((k:Int)==1)with
  |false=>
   have F2: ¬k=1:=by simp at ek;omega
   simp+contextual (disch:=first|omega|simp only[go_sem,false_implies]) only[go_sem,wrap64,if_pos,oa,ot,oo,os,oc,of,y5,y6,y9,s5,y1,y2,y3,y4,y7,y8,s6,s7,Nat.add_assoc,Nat.left_eq_add,Nat.add_eq_left,Nat.add_left_cancel_iff,List.length_map,z1,z2,z3,z4,z5,z6,hx,ek]
   refine dL (by simp;omega) (mG (ih x lM) (n:=n) (fr:=fr) (bd:=bd) (mB:=mB) (b:=b) (nx:=c+10) (cid:=cid) (fid:=fid) ?_ ?_ (.inr ?_) b1 b2 kb DG q0 (by omega) (by omega) (by omega) (by omega)) ?_
   ·(repeat(first|rfl|rw[ab]|rw[ad _ _ _ _ (by omega)]))
   ·(repeat(first|rfl|rw[ab]|rw[ad _ _ _ _ (by omega)]))
   ·(repeat(first|rfl|rw[ab]|rw[ad _ _ _ _ (by omega)]))
    exact ob
   simp+contextual (disch:=first|omega|simp only[go_sem,false_implies]) only[go_sem,wrap64,if_pos,oa,ot,oo,os,oc,of,y5,y6,y9,s5,y1,y2,y3,y4,y7,y8,s6,s7,Nat.add_assoc,Nat.left_eq_add,Nat.add_eq_left,Nat.add_left_cancel_iff,List.length_map,z1,z2,z3,z4,z5,z6]
   have AR:(if k=1 then bd else bd)=bd:=by split<;>rfl
   have ni:=cZ x bd fr n
   refine aP (cD (ids:=[cid,fid,nx,nx+11,c,c+5,nx+14,b]) (nx:=c+10) (by simp;omega) (by simp;omega) [([3],[]),([3],[]),([2],[]),([5],[]),([0,1,7],[0,1,7]),([],[13]),([4,13],[4]),([3],[]),([3,4],[3])] (by decide)) ?_
   simp+contextual (disch:=first|omega|simp only[go_sem,false_implies]) only[go_sem,wrap64,if_pos,Nat.add_assoc,Nat.left_eq_add,Nat.add_eq_left,Nat.add_left_cancel_iff]
   refine aE (k+1,(aQ x bd fr n).2.1,(aQ x bd fr n).2.2,jQ++[(aQ x bd fr n).1]) ⟨h2,by dsimp only;omega,by dsimp only;omega,by dsimp only;simp[q2],by dsimp only;rw[q3,yI];simp only[aM,AR,List.append_assoc];rfl⟩ (by dsimp only;omega) (cq.mY (fun j=>j=c) (.osl c 1) c _ (by omega) (fun j hj=> ?_) (ab _ _ _) (.inr ⟨c,1,rfl,rfl,by(repeat(first|rfl|rw[ab]|rw[ad _ _ _ _ (by omega)]));rw[List.map_append];rfl⟩) (fun j hj=> ?_) (fun j h h2=>by omega) ?_)
   ·by_cases e1:j=nx+11
    ·subst e1
     exact aD (y:= .row [.d (.i op'), .d (.i N), .osl c 1]) (by(repeat(first|rfl|rw[ab]|rw[ad _ _ _ _ (by omega)]))) (by(repeat(first|rfl|rw[ab]|rw[ad _ _ _ _ (by omega)]))) (bW rfl (bq (bq (gr 0 rfl rfl rfl bV))))
    ·by_cases e2:j=fid
     ·subst e2
      exact aD (y:=de (aQ x bd fr n).2.1) (by(repeat(first|rfl|rw[ab]|rw[ad _ _ _ _ (by omega)]))) (by(repeat(first|rfl|rw[ab]|rw[ad _ _ _ _ (by omega)]))) (aG rfl (by simp[ae.refs]))
     ·by_cases e3:j=cid
      ·subst e3
       exact aD (y:= .row [.d (.i (aQ x bd fr n).2.2), .mp fid]) (by(repeat(first|rfl|rw[ab]|rw[ad _ _ _ _ (by omega)]))) (by(repeat(first|rfl|rw[ab]|rw[ad _ _ _ _ (by omega)]))) (aG rfl (by simp[ae.refs,V.ag,V.refs];omega))
      ·by_cases e5:j=b
       ·subst e5
        exact aD (y:=jv mB) (by(repeat(first|rfl|rw[ab]|rw[ad _ _ _ _ (by omega)]))) (by(repeat(first|rfl|rw[ab]|rw[ad _ _ _ _ (by omega)]));exact ob) (aG rfl (by simp[ae.refs]))
       ·exact aD (y:=o j) (by(repeat(first|rfl|rw[ab]|rw[ad _ _ _ _ (by omega)]))) (by(repeat(first|rfl|rw[ab]|rw[ad _ _ _ _ (by omega)]))) (aG rfl (fun r hr=>hg.refs j r hr))
   ·(repeat(first|rfl|rw[ab]|rw[ad _ _ _ _ (by omega)]))
    exact hg.fresh j (by omega)
   ·(repeat(first|exact ei|refine dk ?_|refine cR rfl ?_|refine cR (aV (aU (by omega))) ?_|refine ir 0 rfl rfl rfl ?_|refine iq rfl (by simp[V.refs,V.ag]<;>first|omega|assumption) ?_|refine iu rfl (by simp[V.ids]<;>omega) ?_))
  |true=>
   have F2:k=1:=by simp at ek;omega
   simp+contextual (disch:=first|omega|simp only[go_sem,false_implies]) only[go_sem,wrap64,if_pos,oa,ot,oo,os,oc,of,y5,y6,y9,s5,y1,y2,y3,y4,y7,y8,s6,s7,Nat.add_assoc,Nat.left_eq_add,Nat.add_eq_left,Nat.add_left_cancel_iff,List.length_map,z1,z2,z3,z4,z5,z6,hx,ek]
   refine dL (by simp;omega) (mG (ih x lM) (n:=n) (fr:=fr) (bd:=bd) (mB:=mB) (b:=b) (nx:=c+10) (cid:=cid) (fid:=fid) ?_ ?_ (.inr ?_) b1 b2 kb DG q0 (by omega) (by omega) (by omega) (by omega)) ?_
   ·(repeat(first|rfl|rw[ab]|rw[ad _ _ _ _ (by omega)]))
   ·(repeat(first|rfl|rw[ab]|rw[ad _ _ _ _ (by omega)]))
   ·(repeat(first|rfl|rw[ab]|rw[ad _ _ _ _ (by omega)]))
    exact ob
   simp+contextual (disch:=first|omega|simp only[go_sem,false_implies]) only[go_sem,wrap64,if_pos,oa,ot,oo,os,oc,of,y5,y6,y9,s5,y1,y2,y3,y4,y7,y8,s6,s7,Nat.add_assoc,Nat.left_eq_add,Nat.add_eq_left,Nat.add_left_cancel_iff,List.length_map,z1,z2,z3,z4,z5,z6]
   have AR:(if k=1 then bd else bd)=bd:=by split<;>rfl
   have ni:=cZ x bd fr n
   refine aP (cD (ids:=[cid,fid,nx,nx+11,c,c+5,nx+14,b]) (nx:=c+10) (by simp;omega) (by simp;omega) [([3],[]),([3],[]),([6],[]),([5],[]),([0,1,7],[0,1,7]),([],[13]),([4,13],[4]),([3],[]),([3,4],[3])] (by decide)) ?_
   simp+contextual (disch:=first|omega|simp only[go_sem,false_implies]) only[go_sem,wrap64,if_pos,Nat.add_assoc,Nat.left_eq_add,Nat.add_eq_left,Nat.add_left_cancel_iff]
   refine aE (k+1,(aQ x bd fr n).2.1,(aQ x bd fr n).2.2,jQ++[(aQ x bd fr n).1]) ⟨h2,by dsimp only;omega,by dsimp only;omega,by dsimp only;simp[q2],by dsimp only;rw[q3,yI];simp only[aM,AR,List.append_assoc];rfl⟩ (by dsimp only;omega) (cq.mY (fun j=>j=c) (.osl c 1) c _ (by omega) (fun j hj=> ?_) (ab _ _ _) (.inr ⟨c,1,rfl,rfl,by(repeat(first|rfl|rw[ab]|rw[ad _ _ _ _ (by omega)]));rw[List.map_append];rfl⟩) (fun j hj=> ?_) (fun j h h2=>by omega) ?_)
   ·by_cases e1:j=nx+11
    ·subst e1
     exact aD (y:= .row [.d (.i op'), .d (.i N), .osl c 1]) (by(repeat(first|rfl|rw[ab]|rw[ad _ _ _ _ (by omega)]))) (by(repeat(first|rfl|rw[ab]|rw[ad _ _ _ _ (by omega)]))) (bW rfl (bq (bq (gr 0 rfl rfl rfl bV))))
    ·by_cases e2:j=fid
     ·subst e2
      exact aD (y:=de (aQ x bd fr n).2.1) (by(repeat(first|rfl|rw[ab]|rw[ad _ _ _ _ (by omega)]))) (by(repeat(first|rfl|rw[ab]|rw[ad _ _ _ _ (by omega)]))) (aG rfl (by simp[ae.refs]))
     ·by_cases e3:j=cid
      ·subst e3
       exact aD (y:= .row [.d (.i (aQ x bd fr n).2.2), .mp fid]) (by(repeat(first|rfl|rw[ab]|rw[ad _ _ _ _ (by omega)]))) (by(repeat(first|rfl|rw[ab]|rw[ad _ _ _ _ (by omega)]))) (aG rfl (by simp[ae.refs,V.ag,V.refs];omega))
      ·by_cases e5:j=b
       ·subst e5
        exact aD (y:=jv mB) (by(repeat(first|rfl|rw[ab]|rw[ad _ _ _ _ (by omega)]))) (by(repeat(first|rfl|rw[ab]|rw[ad _ _ _ _ (by omega)]));exact ob) (aG rfl (by simp[ae.refs]))
       ·exact aD (y:=o j) (by(repeat(first|rfl|rw[ab]|rw[ad _ _ _ _ (by omega)]))) (by(repeat(first|rfl|rw[ab]|rw[ad _ _ _ _ (by omega)]))) (aG rfl (fun r hr=>hg.refs j r hr))
   ·(repeat(first|rfl|rw[ab]|rw[ad _ _ _ _ (by omega)]))
    exact hg.fresh j (by omega)
   ·(repeat(first|exact ei|refine dk ?_|refine cR rfl ?_|refine cR (aV (aU (by omega))) ?_|refine ir 0 rfl rfl rfl ?_|refine iq rfl (by simp[V.refs,V.ag]<;>first|omega|assumption) ?_|refine iu rfl (by simp[V.ids]<;>omega) ?_))
 ·simp at h2
  simp+contextual (disch:=first|omega|simp only[go_sem,false_implies]) only[go_sem,wrap64,if_pos,and_self]
  have vl:t.kids.drop k=[]:=List.drop_eq_nil_of_le h2
  rw[vl]at q3
  simp only[aM,List.append_nil]at q3
  rw[q3]at hQ
  refine hQ _ _ _ rfl rfl ?_ ?_ ?_ ?_ (fun j g1 g2 g3=> ?_) ?_ ?_
  ·omega
  ·exact(by repeat(first|exact hg.mono (by omega)|exact Good.nil|refine Good.ao ?_ (by omega) rfl|refine Good.ao ?_ (by omega) (dK _ _ _ (by omega))|refine Good.ao ?_ (by omega) (by simp[ae.refs,V.ag,V.refs]<;>omega)))
  ·(repeat(first|rfl|rw[ab]|rw[ad _ _ _ _ (by omega)]))
  ·(repeat(first|rfl|rw[ab]|rw[ad _ _ _ _ (by omega)]))
  ·(repeat(first|rfl|rw[ab]|rw[ad _ _ _ _ (by omega)]))
  ·(repeat(first|rfl|rw[ab]|rw[ad _ _ _ _ (by omega)]))
  ·(repeat(first|rfl|rw[ab]|rw[ad _ _ _ _ (by omega)]))
theorem F4{t:Tm}(ih:∀k∈t.kids,tN k){o:Nat->ae}{nx c cid fid:Nat}{ib:Nat}{mI inn:List (Int×Int)}{op' N:Int}{bd fr0:List (Int×Int)}{n0:Int}{e:Nat->V}{Q:e9->S->Prop}
 (hg:Good o c) (hc:nx+15<=c) (c1:cid<nx) (c2:fid<nx) (oR:cid≠fid) (oa:o nx= .row [.ptr cid 0, .d .cI]) (ot:o (nx+1)= .row t.row) (oo:o (nx+11)= .row [.d (.i op'), .d (.i N), .aX]) (os:o (nx+14)= .row [.ptr cid 0, .mp ib])
 (oc:o cid= .row [.d (.i n0), .mp fid]) (of:o fid=de fr0) (DG:∀v,lk [] v=lk bd v) (oi:o ib=de mI) (ki:m6 mI) (U7:∀v,lk mI v=lk inn v) (i1:nx+15<=ib) (i2:ib<c) (p0:0<=n0) (p1:n0+jK t.kids<=1000000)
 (he:eg c e [.aa, .aa, .ptr nx 0, .ptr (nx+1) 0, .ptr (nx+2) 0, .aa, .aa, .ptr (nx+11) 0, .ptr (nx+14) 0, .aa, .aa, .aa, .aa, .aa, .aa, .aa, .aa, .aa, .aa, .aa, .aa, .aa, .aa, .aa, .aa, .aa, .aa, .aa, .aa, .aa, .aa, .aa, .aa, .aa, .aa, .aa, .aa, .aa, .aa, .aa, .aa, .aa, .aa, .aa, .aa, .aa, .aa, .aa, .aa, .aa, .aa, .aa, .aa, .aa, .aa, .aa, .aa, .aa, .aa, .aa, .aa, .aa, .aa, .aa, .aa, .aa, .aa, .aa, .aa, .aa, .aa, .aa, .aa, .aa, .aa, .aa, .aa, .aa, .aa, .aa, .aa, .aa, .aa, .aa, .aa, .aa, .aa, .aa, .aa, .d (.sl (t.kids.map Tm.d)), .d (.i t.kids.length), .d (.i 0)] 0)
 (hQ:∀e' o' nx',e' 4= .ptr (nx+2) 0->e' 7= .ptr (nx+11) 0->c<=nx'->Good o' nx'->o' (nx+11)= .row [.d (.i op'), .d (.i N), .osl c 0]->o' c= .arr 0 28 3 ((aM t.kids bd inn 0 fr0 n0).1.map Tm.d)->(∀j,j<nx+11->j≠cid->j≠fid->o' j=o j)->o' cid= .row [.d (.i (aM t.kids bd inn 0 fr0 n0).2.2), .mp fid]->o' fid=de (aM t.kids bd inn 0 fr0 n0).2.1->Q (.exit 2) ⟨e',o',nx'⟩):
 jI nx (fun Q s=>jZ Tryz.prog 116 nx false jP Q s) Q ⟨e,o,c⟩:=by
 have hlen:=lF t.kids
 have iN:∀k,k<15->ib≠nx+k:=fun k hk=>by omega
 have iC:ib≠cid:=by omega
 have iF:ib≠fid:=by omega
 have iS:∀k,ib≠c+k:=fun k=>by omega
 have F5:ib≠c:=by omega
 refine bn (fun i:Nat×List (Int×Int)×Int×List Tm=>⟨bF [.aa, .aa, .ptr nx 0, .ptr (nx+1) 0, .ptr (nx+2) 0, .aa, .aa, .ptr (nx+11) 0, .ptr (nx+14) 0, .aa, .aa, .aa, .aa, .aa, .aa, .aa, .aa, .aa, .aa, .aa, .aa, .aa, .aa, .aa, .aa, .aa, .aa, .aa, .aa, .aa, .aa, .aa, .aa, .aa, .aa, .aa, .aa, .aa, .aa, .aa, .aa, .aa, .aa, .aa, .aa, .aa, .aa, .aa, .aa, .aa, .aa, .aa, .aa, .aa, .aa, .aa, .aa, .aa, .aa, .aa, .aa, .aa, .aa, .aa, .aa, .aa, .aa, .aa, .aa, .aa, .aa, .aa, .aa, .aa, .aa, .aa, .aa, .aa, .aa, .aa, .aa, .aa, .aa, .aa, .aa, .aa, .aa, .aa, .aa, .d (.sl (t.kids.map Tm.d)), .d (.i t.kids.length), .d (.i i.1)],ao (ao (ao (ao (ao o ib (if 2<=i.1 then jv mI else de mI)) cid (.row [.d (.i i.2.2.1), .mp fid])) fid (de i.2.1)) (nx+11) (.row [.d (.i op'), .d (.i N), .osl c 0])) c (.arr 0 28 3 (i.2.2.2.map Tm.d)),c+1⟩)
  (fun i=>i.1<=t.kids.length/\0<=i.2.2.1/\i.2.2.1+jK (t.kids.drop i.1)<=1000000/\i.2.2.2.length=i.1/\aM t.kids bd inn 0 fr0 n0=(i.2.2.2++(aM (t.kids.drop i.1) bd inn i.1 i.2.1 i.2.2.1).1,(aM (t.kids.drop i.1) bd inn i.1 i.2.1 i.2.2.1).2)) (fun i=>t.kids.length - i.1) (0,fr0,n0,[]) ⟨Nat.zero_le _,p0,p1,rfl,rfl⟩ (cq.mY (fun _=>False) .aX c _ (by omega) (fun j hj=> ?_) (ab _ _ _) (.inl ⟨rfl,rfl,by decide⟩) (fun j hj=> ?_) (fun _ h=>h.elim) (iW he)) ?_
 ·by_cases e1:j=nx+11
  ·subst e1
   exact aD oo (by(repeat(first|rfl|rw[ab]|rw[ad _ _ _ _ (by omega)]))) (bW rfl (bq (bq (gr 0 rfl rfl rfl bV))))
  ·by_cases e2:j=fid
   ·subst e2
    exact aD of (by(repeat(first|rfl|rw[ab]|rw[ad _ _ _ _ (by omega)]))) (aG rfl (by simp[ae.refs]))
   ·by_cases e3:j=cid
    ·subst e3
     exact aD oc (by(repeat(first|rfl|rw[ab]|rw[ad _ _ _ _ (by omega)]))) (aG rfl (by simp[ae.refs,V.ag,V.refs];omega))
    ·by_cases e4:j=ib
     ·subst e4
      exact aD oi (by(repeat(first|rfl|rw[ab]|rw[ad _ _ _ _ (by omega)]))) (aG rfl (by simp[ae.refs]))
     ·exact aD rfl (by(repeat(first|rfl|rw[ab]|rw[ad _ _ _ _ (by omega)]))) (aG rfl (fun r hr=>hg.refs j r hr))
 ·(repeat(first|rfl|rw[ab]|rw[ad _ _ _ _ (by omega)]))
  exact hg.fresh j (by omega)
 rintro⟨k,fr,n,jQ⟩ ⟨hk,q0,q1,q2,q3⟩
 simp only at hk q0 q1 q2 q3
 have y1:cid≠c:=by omega
 have y2:∀k,cid≠c+k:=fun k=>by omega
 have y3:fid≠c:=by omega
 have y4:∀k,fid≠c+k:=fun k=>by omega
 have y5:cid≠nx+11:=by omega
 have y6:fid≠nx+11:=by omega
 have y7:∀k,k<15->nx+k≠c:=fun k hk=>by omega
 have y8:∀k j,k<15->nx+k≠c+j:=fun k j hk=>by omega
 have y9:∀k,cid≠nx+k:=fun k=>by omega
 have s5:∀k,fid≠nx+k:=fun k=>by omega
 have s6:nx≠cid:=by omega
 have s7:nx≠fid:=by omega
 have JB:fid≠cid:=fun e=>oR e.symm
 have x1:nx≠ib:=by omega
 have x2:∀k,k<15->nx+k≠ib:=fun k hk=>by omega
 have x3:c≠ib:=by omega
 simp only[jP,tH,IC.snd,IC.fst]
 simp+contextual (disch:=first|omega|simp only[go_sem,false_implies]) only[go_sem,wrap64,if_pos,oa,ot,oo,os,oc,of,y5,y6,y9,s5,y1,y2,y3,y4,y7,y8,s6,s7,Nat.add_assoc,Nat.left_eq_add,Nat.add_eq_left,Nat.add_left_cancel_iff,List.length_map,iN,iC,iF,iS,F5,x1,x2,x3]
 refine ax (fun h2=> ?_) (fun h2=> ?_)
 ·simp at h2
  obtain⟨x,hx⟩:=bH h2
  have lM:=List.mem_of_getElem? hx
  have yI:t.kids.drop k=x::t.kids.drop (k+1):=by
   obtain⟨h5,h6⟩:=List.getElem?_eq_some_iff.1 hx
   rw[List.drop_eq_getElem_cons h5,h6]
  rw[yI,cE]at q1
  cases ek:((k:Int)==1)with
  |false=>
   have F2: ¬k=1:=by simp at ek;omega
   have U8:(if 2<=k+1 then jv mI else de mI)=(if 2<=k then jv mI else de mI):=by by_cases h:2<=k<;>simp[h]<;>omega
   simp+contextual (disch:=first|omega|simp only[go_sem,false_implies]) only[go_sem,wrap64,if_pos,oa,ot,oo,os,oc,of,y5,y6,y9,s5,y1,y2,y3,y4,y7,y8,s6,s7,Nat.add_assoc,Nat.left_eq_add,Nat.add_eq_left,Nat.add_left_cancel_iff,List.length_map,iN,iC,iF,iS,F5,x1,x2,x3,hx,ek]
   refine dL (by simp;omega) (sZ (ih x lM) (n:=n) (fr:=fr) (bd:=bd) (nx:=c+10) (cid:=cid) (fid:=fid) ?_ ?_ DG q0 (by omega) (by omega) (by omega)) ?_
   ·(repeat(first|rfl|rw[ab]|rw[ad _ _ _ _ (by omega)]))
   ·(repeat(first|rfl|rw[ab]|rw[ad _ _ _ _ (by omega)]))
   simp+contextual (disch:=first|omega|simp only[go_sem,false_implies]) only[go_sem,wrap64,if_pos,oa,ot,oo,os,oc,of,y5,y6,y9,s5,y1,y2,y3,y4,y7,y8,s6,s7,Nat.add_assoc,Nat.left_eq_add,Nat.add_eq_left,Nat.add_left_cancel_iff,List.length_map,iN,iC,iF,iS,F5,x1,x2,x3]
   have AR:(if k=1 then inn else bd)=bd:=by rw[if_neg F2]
   have ni:=cZ x bd fr n
   refine aP (cD (ids:=[cid,fid,nx,nx+11,c,c+5,nx+14]) (nx:=c+10) (by simp;omega) (by simp;omega) [([3],[]),([3],[]),([2],[]),([5],[]),([0,1],[0,1]),([],[12]),([4,12],[4]),([3],[]),([3,4],[3])] (by decide)) ?_
   simp+contextual (disch:=first|omega|simp only[go_sem,false_implies]) only[go_sem,wrap64,if_pos,Nat.add_assoc,Nat.left_eq_add,Nat.add_eq_left,Nat.add_left_cancel_iff]
   refine aE (k+1,(aQ x bd fr n).2.1,(aQ x bd fr n).2.2,jQ++[(aQ x bd fr n).1]) ⟨h2,by dsimp only;omega,by dsimp only;omega,by dsimp only;simp[q2],by dsimp only;rw[q3,yI];simp only[aM,AR,List.append_assoc];rfl⟩ (by dsimp only;omega) (cq.mY (fun j=>j=c) (.osl c 1) c _ (by omega) (fun j hj=> ?_) (ab _ _ _) (.inr ⟨c,1,rfl,rfl,by(repeat(first|rfl|rw[ab]|rw[ad _ _ _ _ (by omega)]));rw[List.map_append];rfl⟩) (fun j hj=> ?_) (fun j h h2=>by omega) ?_)
   ·by_cases e1:j=nx+11
    ·subst e1
     exact aD (y:= .row [.d (.i op'), .d (.i N), .osl c 1]) (by(repeat(first|rfl|rw[ab]|rw[ad _ _ _ _ (by omega)]))) (by(repeat(first|rfl|rw[ab]|rw[ad _ _ _ _ (by omega)]))) (bW rfl (bq (bq (gr 0 rfl rfl rfl bV))))
    ·by_cases e2:j=fid
     ·subst e2
      exact aD (y:=de (aQ x bd fr n).2.1) (by(repeat(first|rfl|rw[ab]|rw[ad _ _ _ _ (by omega)]))) (by(repeat(first|rfl|rw[ab]|rw[ad _ _ _ _ (by omega)]))) (aG rfl (by simp[ae.refs]))
     ·by_cases e3:j=cid
      ·subst e3
       exact aD (y:= .row [.d (.i (aQ x bd fr n).2.2), .mp fid]) (by(repeat(first|rfl|rw[ab]|rw[ad _ _ _ _ (by omega)]))) (by(repeat(first|rfl|rw[ab]|rw[ad _ _ _ _ (by omega)]))) (aG rfl (by simp[ae.refs,V.ag,V.refs];omega))
      ·by_cases e4:j=ib
       ·subst e4
        exact aD (y:=if 2<=k then jv mI else de mI) (by(repeat(first|rfl|rw[ab]|rw[ad _ _ _ _ (by omega)]))) (by(repeat(first|rfl|rw[ab]|rw[ad _ _ _ _ (by omega)]));rw[U8]) (aG rfl (by split<;>simp[ae.refs]))
       ·exact aD (y:=o j) (by(repeat(first|rfl|rw[ab]|rw[ad _ _ _ _ (by omega)]))) (by(repeat(first|rfl|rw[ab]|rw[ad _ _ _ _ (by omega)]))) (aG rfl (fun r hr=>hg.refs j r hr))
   ·(repeat(first|rfl|rw[ab]|rw[ad _ _ _ _ (by omega)]))
    exact hg.fresh j (by omega)
   ·(repeat(first|exact ei|refine dk ?_|refine cR rfl ?_|refine cR (aV (aU (by omega))) ?_|refine ir 0 rfl rfl rfl ?_|refine iq rfl (by simp[V.refs,V.ag]<;>first|omega|assumption) ?_|refine iu rfl (by simp[V.ids]<;>omega) ?_))
  |true=>
   have F2:k=1:=by simp at ek;omega
   simp+contextual (disch:=first|omega|simp only[go_sem,false_implies]) only[go_sem,wrap64,if_pos,oa,ot,oo,os,oc,of,y5,y6,y9,s5,y1,y2,y3,y4,y7,y8,s6,s7,Nat.add_assoc,Nat.left_eq_add,Nat.add_eq_left,Nat.add_left_cancel_iff,List.length_map,iN,iC,iF,iS,F5,x1,x2,x3,hx,ek]
   refine dL (by simp;omega) (mG (ih x lM) (n:=n) (fr:=fr) (bd:=inn) (mB:=mI) (b:=ib) (nx:=c+10) (cid:=cid) (fid:=fid) ?_ ?_ (.inl ?_) iC iF ki U7 q0 (by omega) (by omega) (by omega) (by omega)) ?_
   ·(repeat(first|rfl|rw[ab]|rw[ad _ _ _ _ (by omega)]))
   ·(repeat(first|rfl|rw[ab]|rw[ad _ _ _ _ (by omega)]))
   ·(repeat(first|rfl|rw[ab]|rw[ad _ _ _ _ (by omega)]))
    rw[if_neg (by omega)]
   simp+contextual (disch:=first|omega|simp only[go_sem,false_implies]) only[go_sem,wrap64,if_pos,oa,ot,oo,os,oc,of,y5,y6,y9,s5,y1,y2,y3,y4,y7,y8,s6,s7,Nat.add_assoc,Nat.left_eq_add,Nat.add_eq_left,Nat.add_left_cancel_iff,List.length_map,iN,iC,iF,iS,F5,x1,x2,x3]
   have AR:(if k=1 then inn else bd)=inn:=by rw[if_pos F2]
   have ni:=cZ x inn fr n
   refine aP (cD (ids:=[cid,fid,nx,nx+11,c,c+5,nx+14,ib]) (nx:=c+10) (by simp;omega) (by simp;omega) [([3],[]),([3],[]),([6],[]),([5],[]),([0,1,7],[0,1,7]),([],[13]),([4,13],[4]),([3],[]),([3,4],[3])] (by decide)) ?_
   simp+contextual (disch:=first|omega|simp only[go_sem,false_implies]) only[go_sem,wrap64,if_pos,Nat.add_assoc,Nat.left_eq_add,Nat.add_eq_left,Nat.add_left_cancel_iff]
   refine aE (k+1,(aQ x inn fr n).2.1,(aQ x inn fr n).2.2,jQ++[(aQ x inn fr n).1]) ⟨h2,by dsimp only;omega,by dsimp only;omega,by dsimp only;simp[q2],by dsimp only;rw[q3,yI];simp only[aM,AR,List.append_assoc];rfl⟩ (by dsimp only;omega) (cq.mY (fun j=>j=c) (.osl c 1) c _ (by omega) (fun j hj=> ?_) (ab _ _ _) (.inr ⟨c,1,rfl,rfl,by(repeat(first|rfl|rw[ab]|rw[ad _ _ _ _ (by omega)]));rw[List.map_append];rfl⟩) (fun j hj=> ?_) (fun j h h2=>by omega) ?_)
   ·by_cases e1:j=nx+11
    ·subst e1
     exact aD (y:= .row [.d (.i op'), .d (.i N), .osl c 1]) (by(repeat(first|rfl|rw[ab]|rw[ad _ _ _ _ (by omega)]))) (by(repeat(first|rfl|rw[ab]|rw[ad _ _ _ _ (by omega)]))) (bW rfl (bq (bq (gr 0 rfl rfl rfl bV))))
    ·by_cases e2:j=fid
     ·subst e2
      exact aD (y:=de (aQ x inn fr n).2.1) (by(repeat(first|rfl|rw[ab]|rw[ad _ _ _ _ (by omega)]))) (by(repeat(first|rfl|rw[ab]|rw[ad _ _ _ _ (by omega)]))) (aG rfl (by simp[ae.refs]))
     ·by_cases e3:j=cid
      ·subst e3
       exact aD (y:= .row [.d (.i (aQ x inn fr n).2.2), .mp fid]) (by(repeat(first|rfl|rw[ab]|rw[ad _ _ _ _ (by omega)]))) (by(repeat(first|rfl|rw[ab]|rw[ad _ _ _ _ (by omega)]))) (aG rfl (by simp[ae.refs,V.ag,V.refs];omega))
      ·by_cases e4:j=ib
       ·subst e4
        exact aD (y:=jv mI) (by(repeat(first|rfl|rw[ab]|rw[ad _ _ _ _ (by omega)]))) (by(repeat(first|rfl|rw[ab]|rw[ad _ _ _ _ (by omega)]));rw[if_pos (by omega)]) (aG rfl (by simp[ae.refs]))
       ·exact aD (y:=o j) (by(repeat(first|rfl|rw[ab]|rw[ad _ _ _ _ (by omega)]))) (by(repeat(first|rfl|rw[ab]|rw[ad _ _ _ _ (by omega)]))) (aG rfl (fun r hr=>hg.refs j r hr))
   ·(repeat(first|rfl|rw[ab]|rw[ad _ _ _ _ (by omega)]))
    exact hg.fresh j (by omega)
   ·(repeat(first|exact ei|refine dk ?_|refine cR rfl ?_|refine cR (aV (aU (by omega))) ?_|refine ir 0 rfl rfl rfl ?_|refine iq rfl (by simp[V.refs,V.ag]<;>first|omega|assumption) ?_|refine iu rfl (by simp[V.ids]<;>omega) ?_))
 ·simp at h2
  simp+contextual (disch:=first|omega|simp only[go_sem,false_implies]) only[go_sem,wrap64,if_pos,and_self]
  have vl:t.kids.drop k=[]:=List.drop_eq_nil_of_le h2
  rw[vl]at q3
  simp only[aM,List.append_nil]at q3
  rw[q3]at hQ
  refine hQ _ _ _ rfl rfl ?_ ?_ ?_ ?_ (fun j g1 g2 g3=> ?_) ?_ ?_
  ·omega
  ·exact(by by_cases h:2<=k<;>(simp only[h,if_true,if_false];exact(by repeat(first|exact hg.mono (by omega)|exact Good.nil|refine Good.ao ?_ (by omega) rfl|refine Good.ao ?_ (by omega) (dK _ _ _ (by omega))|refine Good.ao ?_ (by omega) (by simp[ae.refs,V.ag,V.refs]<;>omega)))))
  ·(repeat(first|rfl|rw[ab]|rw[ad _ _ _ _ (by omega)]))
  ·(repeat(first|rfl|rw[ab]|rw[ad _ _ _ _ (by omega)]))
  ·(repeat(first|rfl|rw[ab]|rw[ad _ _ _ _ (by omega)]))
  ·(repeat(first|rfl|rw[ab]|rw[ad _ _ _ _ (by omega)]))
  ·(repeat(first|rfl|rw[ab]|rw[ad _ _ _ _ (by omega)]))
set_option maxHeartbeats 1000000 in
theorem F6{t:Tm}(ih:∀k∈t.kids,tN k){o:Nat->ae}{nx c cid fid:Nat}{b:Nat}{mB:List (Int×Int)}{ib:Nat}{mI inn:List (Int×Int)}{op' N:Int}{bd fr0:List (Int×Int)}{n0:Int}{e:Nat->V}{Q:e9->S->Prop}
 (hg:Good o c) (hc:nx+15<=c) (c1:cid<nx) (c2:fid<nx) (oR:cid≠fid) (oa:o nx= .row [.ptr cid 0, .mp b]) (ot:o (nx+1)= .row t.row) (oo:o (nx+11)= .row [.d (.i op'), .d (.i N), .aX]) (os:o (nx+14)= .row [.ptr cid 0, .mp ib])
 (oc:o cid= .row [.d (.i n0), .mp fid]) (of:o fid=de fr0) (DG:∀v,lk mB v=lk bd v) (ob:o b=jv mB) (kb:m6 mB) (b1:b≠cid) (b2:b≠fid) (b3:b<nx) (oi:o ib=de mI) (ki:m6 mI) (U7:∀v,lk mI v=lk inn v) (i1:nx+15<=ib) (i2:ib<c) (p0:0<=n0) (p1:n0+jK t.kids<=1000000)
 (he:eg c e [.aa, .aa, .ptr nx 0, .ptr (nx+1) 0, .ptr (nx+2) 0, .aa, .aa, .ptr (nx+11) 0, .ptr (nx+14) 0, .aa, .aa, .aa, .aa, .aa, .aa, .aa, .aa, .aa, .aa, .aa, .aa, .aa, .aa, .aa, .aa, .aa, .aa, .aa, .aa, .aa, .aa, .aa, .aa, .aa, .aa, .aa, .aa, .aa, .aa, .aa, .aa, .aa, .aa, .aa, .aa, .aa, .aa, .aa, .aa, .aa, .aa, .aa, .aa, .aa, .aa, .aa, .aa, .aa, .aa, .aa, .aa, .aa, .aa, .aa, .aa, .aa, .aa, .aa, .aa, .aa, .aa, .aa, .aa, .aa, .aa, .aa, .aa, .aa, .aa, .aa, .aa, .aa, .aa, .aa, .aa, .aa, .aa, .aa, .aa, .d (.sl (t.kids.map Tm.d)), .d (.i t.kids.length), .d (.i 0)] 0)
 (hQ:∀e' o' nx',e' 4= .ptr (nx+2) 0->e' 7= .ptr (nx+11) 0->c<=nx'->Good o' nx'->o' (nx+11)= .row [.d (.i op'), .d (.i N), .osl c 0]->o' c= .arr 0 28 3 ((aM t.kids bd inn 0 fr0 n0).1.map Tm.d)->(∀j,j<nx+11->j≠cid->j≠fid->o' j=o j)->o' cid= .row [.d (.i (aM t.kids bd inn 0 fr0 n0).2.2), .mp fid]->o' fid=de (aM t.kids bd inn 0 fr0 n0).2.1->Q (.exit 2) ⟨e',o',nx'⟩):
 jI nx (fun Q s=>jZ Tryz.prog 116 nx false jP Q s) Q ⟨e,o,c⟩:=by
 have hlen:=lF t.kids
 have iN:∀k,k<15->ib≠nx+k:=fun k hk=>by omega
 have iC:ib≠cid:=by omega
 have iF:ib≠fid:=by omega
 have iS:∀k,ib≠c+k:=fun k=>by omega
 have F5:ib≠c:=by omega
 have bI:b≠ib:=by omega
 have iB:ib≠b:=by omega
 refine bn (fun i:Nat×List (Int×Int)×Int×List Tm=>⟨bF [.aa, .aa, .ptr nx 0, .ptr (nx+1) 0, .ptr (nx+2) 0, .aa, .aa, .ptr (nx+11) 0, .ptr (nx+14) 0, .aa, .aa, .aa, .aa, .aa, .aa, .aa, .aa, .aa, .aa, .aa, .aa, .aa, .aa, .aa, .aa, .aa, .aa, .aa, .aa, .aa, .aa, .aa, .aa, .aa, .aa, .aa, .aa, .aa, .aa, .aa, .aa, .aa, .aa, .aa, .aa, .aa, .aa, .aa, .aa, .aa, .aa, .aa, .aa, .aa, .aa, .aa, .aa, .aa, .aa, .aa, .aa, .aa, .aa, .aa, .aa, .aa, .aa, .aa, .aa, .aa, .aa, .aa, .aa, .aa, .aa, .aa, .aa, .aa, .aa, .aa, .aa, .aa, .aa, .aa, .aa, .aa, .aa, .aa, .aa, .d (.sl (t.kids.map Tm.d)), .d (.i t.kids.length), .d (.i i.1)],ao (ao (ao (ao (ao o ib (if 2<=i.1 then jv mI else de mI)) cid (.row [.d (.i i.2.2.1), .mp fid])) fid (de i.2.1)) (nx+11) (.row [.d (.i op'), .d (.i N), .osl c 0])) c (.arr 0 28 3 (i.2.2.2.map Tm.d)),c+1⟩)
  (fun i=>i.1<=t.kids.length/\0<=i.2.2.1/\i.2.2.1+jK (t.kids.drop i.1)<=1000000/\i.2.2.2.length=i.1/\aM t.kids bd inn 0 fr0 n0=(i.2.2.2++(aM (t.kids.drop i.1) bd inn i.1 i.2.1 i.2.2.1).1,(aM (t.kids.drop i.1) bd inn i.1 i.2.1 i.2.2.1).2)) (fun i=>t.kids.length - i.1) (0,fr0,n0,[]) ⟨Nat.zero_le _,p0,p1,rfl,rfl⟩ (cq.mY (fun _=>False) .aX c _ (by omega) (fun j hj=> ?_) (ab _ _ _) (.inl ⟨rfl,rfl,by decide⟩) (fun j hj=> ?_) (fun _ h=>h.elim) (iW he)) ?_
 ·by_cases e1:j=nx+11
  ·subst e1
   exact aD oo (by(repeat(first|rfl|rw[ab]|rw[ad _ _ _ _ (by omega)]))) (bW rfl (bq (bq (gr 0 rfl rfl rfl bV))))
  ·by_cases e2:j=fid
   ·subst e2
    exact aD of (by(repeat(first|rfl|rw[ab]|rw[ad _ _ _ _ (by omega)]))) (aG rfl (by simp[ae.refs]))
   ·by_cases e3:j=cid
    ·subst e3
     exact aD oc (by(repeat(first|rfl|rw[ab]|rw[ad _ _ _ _ (by omega)]))) (aG rfl (by simp[ae.refs,V.ag,V.refs];omega))
    ·by_cases e4:j=ib
     ·subst e4
      exact aD oi (by(repeat(first|rfl|rw[ab]|rw[ad _ _ _ _ (by omega)]))) (aG rfl (by simp[ae.refs]))
     ·exact aD rfl (by(repeat(first|rfl|rw[ab]|rw[ad _ _ _ _ (by omega)]))) (aG rfl (fun r hr=>hg.refs j r hr))
 ·(repeat(first|rfl|rw[ab]|rw[ad _ _ _ _ (by omega)]))
  exact hg.fresh j (by omega)
 rintro⟨k,fr,n,jQ⟩ ⟨hk,q0,q1,q2,q3⟩
 simp only at hk q0 q1 q2 q3
 have y1:cid≠c:=by omega
 have y2:∀k,cid≠c+k:=fun k=>by omega
 have y3:fid≠c:=by omega
 have y4:∀k,fid≠c+k:=fun k=>by omega
 have y5:cid≠nx+11:=by omega
 have y6:fid≠nx+11:=by omega
 have y7:∀k,k<15->nx+k≠c:=fun k hk=>by omega
 have y8:∀k j,k<15->nx+k≠c+j:=fun k j hk=>by omega
 have y9:∀k,cid≠nx+k:=fun k=>by omega
 have s5:∀k,fid≠nx+k:=fun k=>by omega
 have s6:nx≠cid:=by omega
 have s7:nx≠fid:=by omega
 have JB:fid≠cid:=fun e=>oR e.symm
 have z1:b≠c:=by omega
 have z2:∀k,b≠c+k:=fun k=>by omega
 have z3:∀k,b≠nx+k:=fun k=>by omega
 have z4:nx≠b:=by omega
 have z5:∀k,nx+k≠b:=fun k=>by omega
 have z6:c≠b:=by omega
 have x1:nx≠ib:=by omega
 have x2:∀k,k<15->nx+k≠ib:=fun k hk=>by omega
 have x3:c≠ib:=by omega
 simp only[jP,tH,IC.snd,IC.fst]
 simp+contextual (disch:=first|omega|simp only[go_sem,false_implies]) only[go_sem,wrap64,if_pos,oa,ot,oo,os,oc,of,y5,y6,y9,s5,y1,y2,y3,y4,y7,y8,s6,s7,Nat.add_assoc,Nat.left_eq_add,Nat.add_eq_left,Nat.add_left_cancel_iff,List.length_map,z1,z2,z3,z4,z5,z6,iN,iC,iF,iS,F5,x1,x2,x3]
 refine ax (fun h2=> ?_) (fun h2=> ?_)
 ·simp at h2
  obtain⟨x,hx⟩:=bH h2
  have lM:=List.mem_of_getElem? hx
  have yI:t.kids.drop k=x::t.kids.drop (k+1):=by
   obtain⟨h5,h6⟩:=List.getElem?_eq_some_iff.1 hx
   rw[List.drop_eq_getElem_cons h5,h6]
  rw[yI,cE]at q1
  cases ek:((k:Int)==1)with
  |false=>
   have F2: ¬k=1:=by simp at ek;omega
   have U8:(if 2<=k+1 then jv mI else de mI)=(if 2<=k then jv mI else de mI):=by by_cases h:2<=k<;>simp[h]<;>omega
   simp+contextual (disch:=first|omega|simp only[go_sem,false_implies]) only[go_sem,wrap64,if_pos,oa,ot,oo,os,oc,of,y5,y6,y9,s5,y1,y2,y3,y4,y7,y8,s6,s7,Nat.add_assoc,Nat.left_eq_add,Nat.add_eq_left,Nat.add_left_cancel_iff,List.length_map,z1,z2,z3,z4,z5,z6,iN,iC,iF,iS,F5,x1,x2,x3,hx,ek]
   refine dL (by simp;omega) (mG (ih x lM) (n:=n) (fr:=fr) (bd:=bd) (mB:=mB) (b:=b) (nx:=c+10) (cid:=cid) (fid:=fid) ?_ ?_ (.inr ?_) b1 b2 kb DG q0 (by omega) (by omega) (by omega) (by omega)) ?_
   ·(repeat(first|rfl|rw[ab]|rw[ad _ _ _ _ (by omega)]))
   ·(repeat(first|rfl|rw[ab]|rw[ad _ _ _ _ (by omega)]))
   ·(repeat(first|rfl|rw[ab]|rw[ad _ _ _ _ (by omega)]))
    exact ob
   simp+contextual (disch:=first|omega|simp only[go_sem,false_implies]) only[go_sem,wrap64,if_pos,oa,ot,oo,os,oc,of,y5,y6,y9,s5,y1,y2,y3,y4,y7,y8,s6,s7,Nat.add_assoc,Nat.left_eq_add,Nat.add_eq_left,Nat.add_left_cancel_iff,List.length_map,z1,z2,z3,z4,z5,z6,iN,iC,iF,iS,F5,x1,x2,x3]
   have AR:(if k=1 then inn else bd)=bd:=by rw[if_neg F2]
   have ni:=cZ x bd fr n
   refine aP (cD (ids:=[cid,fid,nx,nx+11,c,c+5,nx+14,b]) (nx:=c+10) (by simp;omega) (by simp;omega) [([3],[]),([3],[]),([2],[]),([5],[]),([0,1,7],[0,1,7]),([],[13]),([4,13],[4]),([3],[]),([3,4],[3])] (by decide)) ?_
   simp+contextual (disch:=first|omega|simp only[go_sem,false_implies]) only[go_sem,wrap64,if_pos,Nat.add_assoc,Nat.left_eq_add,Nat.add_eq_left,Nat.add_left_cancel_iff]
   refine aE (k+1,(aQ x bd fr n).2.1,(aQ x bd fr n).2.2,jQ++[(aQ x bd fr n).1]) ⟨h2,by dsimp only;omega,by dsimp only;omega,by dsimp only;simp[q2],by dsimp only;rw[q3,yI];simp only[aM,AR,List.append_assoc];rfl⟩ (by dsimp only;omega) (cq.mY (fun j=>j=c) (.osl c 1) c _ (by omega) (fun j hj=> ?_) (ab _ _ _) (.inr ⟨c,1,rfl,rfl,by(repeat(first|rfl|rw[ab]|rw[ad _ _ _ _ (by omega)]));rw[List.map_append];rfl⟩) (fun j hj=> ?_) (fun j h h2=>by omega) ?_)
   ·by_cases e1:j=nx+11
    ·subst e1
     exact aD (y:= .row [.d (.i op'), .d (.i N), .osl c 1]) (by(repeat(first|rfl|rw[ab]|rw[ad _ _ _ _ (by omega)]))) (by(repeat(first|rfl|rw[ab]|rw[ad _ _ _ _ (by omega)]))) (bW rfl (bq (bq (gr 0 rfl rfl rfl bV))))
    ·by_cases e2:j=fid
     ·subst e2
      exact aD (y:=de (aQ x bd fr n).2.1) (by(repeat(first|rfl|rw[ab]|rw[ad _ _ _ _ (by omega)]))) (by(repeat(first|rfl|rw[ab]|rw[ad _ _ _ _ (by omega)]))) (aG rfl (by simp[ae.refs]))
     ·by_cases e3:j=cid
      ·subst e3
       exact aD (y:= .row [.d (.i (aQ x bd fr n).2.2), .mp fid]) (by(repeat(first|rfl|rw[ab]|rw[ad _ _ _ _ (by omega)]))) (by(repeat(first|rfl|rw[ab]|rw[ad _ _ _ _ (by omega)]))) (aG rfl (by simp[ae.refs,V.ag,V.refs];omega))
      ·by_cases e4:j=ib
       ·subst e4
        exact aD (y:=if 2<=k then jv mI else de mI) (by(repeat(first|rfl|rw[ab]|rw[ad _ _ _ _ (by omega)]))) (by(repeat(first|rfl|rw[ab]|rw[ad _ _ _ _ (by omega)]));rw[U8]) (aG rfl (by split<;>simp[ae.refs]))
       ·by_cases e5:j=b
        ·subst e5
         exact aD (y:=jv mB) (by(repeat(first|rfl|rw[ab]|rw[ad _ _ _ _ (by omega)]))) (by(repeat(first|rfl|rw[ab]|rw[ad _ _ _ _ (by omega)]));exact ob) (aG rfl (by simp[ae.refs]))
        ·exact aD (y:=o j) (by(repeat(first|rfl|rw[ab]|rw[ad _ _ _ _ (by omega)]))) (by(repeat(first|rfl|rw[ab]|rw[ad _ _ _ _ (by omega)]))) (aG rfl (fun r hr=>hg.refs j r hr))
   ·(repeat(first|rfl|rw[ab]|rw[ad _ _ _ _ (by omega)]))
    exact hg.fresh j (by omega)
   ·(repeat(first|exact ei|refine dk ?_|refine cR rfl ?_|refine cR (aV (aU (by omega))) ?_|refine ir 0 rfl rfl rfl ?_|refine iq rfl (by simp[V.refs,V.ag]<;>first|omega|assumption) ?_|refine iu rfl (by simp[V.ids]<;>omega) ?_))
  |true=>
   have F2:k=1:=by simp at ek;omega
   simp+contextual (disch:=first|omega|simp only[go_sem,false_implies]) only[go_sem,wrap64,if_pos,oa,ot,oo,os,oc,of,y5,y6,y9,s5,y1,y2,y3,y4,y7,y8,s6,s7,Nat.add_assoc,Nat.left_eq_add,Nat.add_eq_left,Nat.add_left_cancel_iff,List.length_map,z1,z2,z3,z4,z5,z6,iN,iC,iF,iS,F5,x1,x2,x3,hx,ek]
   refine dL (by simp;omega) (mG (ih x lM) (n:=n) (fr:=fr) (bd:=inn) (mB:=mI) (b:=ib) (nx:=c+10) (cid:=cid) (fid:=fid) ?_ ?_ (.inl ?_) iC iF ki U7 q0 (by omega) (by omega) (by omega) (by omega)) ?_
   ·(repeat(first|rfl|rw[ab]|rw[ad _ _ _ _ (by omega)]))
   ·(repeat(first|rfl|rw[ab]|rw[ad _ _ _ _ (by omega)]))
   ·(repeat(first|rfl|rw[ab]|rw[ad _ _ _ _ (by omega)]))
    rw[if_neg (by omega)]
   simp+contextual (disch:=first|omega|simp only[go_sem,false_implies]) only[go_sem,wrap64,if_pos,oa,ot,oo,os,oc,of,y5,y6,y9,s5,y1,y2,y3,y4,y7,y8,s6,s7,Nat.add_assoc,Nat.left_eq_add,Nat.add_eq_left,Nat.add_left_cancel_iff,List.length_map,z1,z2,z3,z4,z5,z6,iN,iC,iF,iS,F5,x1,x2,x3]
   have AR:(if k=1 then inn else bd)=inn:=by rw[if_pos F2]
   have ni:=cZ x inn fr n
   refine aP (cD (ids:=[cid,fid,nx,nx+11,c,c+5,nx+14,ib]) (nx:=c+10) (by simp;omega) (by simp;omega) [([3],[]),([3],[]),([6],[]),([5],[]),([0,1,7],[0,1,7]),([],[13]),([4,13],[4]),([3],[]),([3,4],[3])] (by decide)) ?_
   simp+contextual (disch:=first|omega|simp only[go_sem,false_implies]) only[go_sem,wrap64,if_pos,Nat.add_assoc,Nat.left_eq_add,Nat.add_eq_left,Nat.add_left_cancel_iff]
   refine aE (k+1,(aQ x inn fr n).2.1,(aQ x inn fr n).2.2,jQ++[(aQ x inn fr n).1]) ⟨h2,by dsimp only;omega,by dsimp only;omega,by dsimp only;simp[q2],by dsimp only;rw[q3,yI];simp only[aM,AR,List.append_assoc];rfl⟩ (by dsimp only;omega) (cq.mY (fun j=>j=c) (.osl c 1) c _ (by omega) (fun j hj=> ?_) (ab _ _ _) (.inr ⟨c,1,rfl,rfl,by(repeat(first|rfl|rw[ab]|rw[ad _ _ _ _ (by omega)]));rw[List.map_append];rfl⟩) (fun j hj=> ?_) (fun j h h2=>by omega) ?_)
   ·by_cases e1:j=nx+11
    ·subst e1
     exact aD (y:= .row [.d (.i op'), .d (.i N), .osl c 1]) (by(repeat(first|rfl|rw[ab]|rw[ad _ _ _ _ (by omega)]))) (by(repeat(first|rfl|rw[ab]|rw[ad _ _ _ _ (by omega)]))) (bW rfl (bq (bq (gr 0 rfl rfl rfl bV))))
    ·by_cases e2:j=fid
     ·subst e2
      exact aD (y:=de (aQ x inn fr n).2.1) (by(repeat(first|rfl|rw[ab]|rw[ad _ _ _ _ (by omega)]))) (by(repeat(first|rfl|rw[ab]|rw[ad _ _ _ _ (by omega)]))) (aG rfl (by simp[ae.refs]))
     ·by_cases e3:j=cid
      ·subst e3
       exact aD (y:= .row [.d (.i (aQ x inn fr n).2.2), .mp fid]) (by(repeat(first|rfl|rw[ab]|rw[ad _ _ _ _ (by omega)]))) (by(repeat(first|rfl|rw[ab]|rw[ad _ _ _ _ (by omega)]))) (aG rfl (by simp[ae.refs,V.ag,V.refs];omega))
      ·by_cases e4:j=ib
       ·subst e4
        exact aD (y:=jv mI) (by(repeat(first|rfl|rw[ab]|rw[ad _ _ _ _ (by omega)]))) (by(repeat(first|rfl|rw[ab]|rw[ad _ _ _ _ (by omega)]));rw[if_pos (by omega)]) (aG rfl (by simp[ae.refs]))
       ·exact aD (y:=o j) (by(repeat(first|rfl|rw[ab]|rw[ad _ _ _ _ (by omega)]))) (by(repeat(first|rfl|rw[ab]|rw[ad _ _ _ _ (by omega)]))) (aG rfl (fun r hr=>hg.refs j r hr))
   ·(repeat(first|rfl|rw[ab]|rw[ad _ _ _ _ (by omega)]))
    exact hg.fresh j (by omega)
   ·(repeat(first|exact ei|refine dk ?_|refine cR rfl ?_|refine cR (aV (aU (by omega))) ?_|refine ir 0 rfl rfl rfl ?_|refine iq rfl (by simp[V.refs,V.ag]<;>first|omega|assumption) ?_|refine iu rfl (by simp[V.ids]<;>omega) ?_))
 ·simp at h2
  simp+contextual (disch:=first|omega|simp only[go_sem,false_implies]) only[go_sem,wrap64,if_pos,and_self]
  have vl:t.kids.drop k=[]:=List.drop_eq_nil_of_le h2
  rw[vl]at q3
  simp only[aM,List.append_nil]at q3
  rw[q3]at hQ
  refine hQ _ _ _ rfl rfl ?_ ?_ ?_ ?_ (fun j g1 g2 g3=> ?_) ?_ ?_
  ·omega
  ·exact(by by_cases h:2<=k<;>(simp only[h,if_true,if_false];exact(by repeat(first|exact hg.mono (by omega)|exact Good.nil|refine Good.ao ?_ (by omega) rfl|refine Good.ao ?_ (by omega) (dK _ _ _ (by omega))|refine Good.ao ?_ (by omega) (by simp[ae.refs,V.ag,V.refs]<;>omega)))))
  ·(repeat(first|rfl|rw[ab]|rw[ad _ _ _ _ (by omega)]))
  ·(repeat(first|rfl|rw[ab]|rw[ad _ _ _ _ (by omega)]))
  ·(repeat(first|rfl|rw[ab]|rw[ad _ _ _ _ (by omega)]))
  ·(repeat(first|rfl|rw[ab]|rw[ad _ _ _ _ (by omega)]))
  ·(repeat(first|rfl|rw[ab]|rw[ad _ _ _ _ (by omega)]))
end Go.Proofs.YtealblliddhgiaaGreat
namespace Go.Proofs.YtealblliddhgiaaGreat
theorem Tm.s8 {t k:Tm}(hk:k∈t.kids):k.sz+1<=t.sz:=by
 have:=Tm.uV hk
 rw[Tm.sP,Tm.sP]at this
 omega
theorem Tm.pZ:∀t:Tm,t.cc<=t.sz:=by
 refine Tm.gN fun t ih=> ?_
 have h:Tm.dF t.kids<=t.sz - 1:=(ra _ _).2 fun k hk=>by have:=ih k hk;have:=Tm.s8 hk;omega
 have:=Tm.AB t
 rw[Tm.dg]
 omega
theorem Tm.lG:∀t:Tm,t.sz<=1000000->t.fits:=by
 refine Tm.gN fun t ih h=> ?_
 rw[Tm.cY]
 refine⟨?_,fun k hk=>ih k hk (by have:=Tm.s8 hk;omega)⟩
 have:=lF t.kids
 rw[Tm.fh]at h
 omega
theorem BX:∀t:Tm,(rb t).length<=t.sz:=by
 refine Tm.gN fun t ih=> ?_
 have hl:∀l:List Tm,(∀k∈l,k∈t.kids)->(tM l).length<=jK l:=by
  intro l
  induction l with
  |nil=>intro _;simp[tM,jK]
  |cons k l oY=>
   intro h
   have:=ih k (h k (by simp))
   have:=oY fun x hx=>h x (by simp[hx])
   simp only[tM,List.length_append,cE]
   omega
 have:=hl t.kids fun _ h=>h
 rw[sV,Tm.fh,List.length_append]
 split<;>simp<;>omega
def tO(b:List (Int×Tm)):List (Int×D):=b.map fun p=>(p.1,p.2.d)
@[reducible] def wF (b:List (Int×Tm)):D:=MZ (tO b)
theorem s9:∀ (m:List (Int×Tm)) (v:Int) (i:Nat),(match fg v (tO m) i with|some (_,x)=>some x|none=>none)=(kM m v).map Tm.d
 |[],_,_=>rfl
 |p::m,v,i=>by
  have ih:=s9 m v (i+1)
  simp only[tO,List.map_cons,fg,kM]at ih|-
  by_cases h:v=p.1
  ·subst h;simp
  ·have h2: ¬p.1=v:=fun e=>h e.symm
   simp only[beq_iff_eq,h,h2,if_false]
   exact ih
theorem tP{m:List (Int×Tm)}{v:Int}{x:Tm}(h:kM m v=some x):∃j,fg v (tO m) 0=some (j,x.d):=by
 have:=s9 m v 0
 rw[h]at this
 cases h2:fg v (tO m) 0 with
 |none=>rw[h2]at this;cases this
 |some p=>obtain⟨j,y⟩:=p;rw[h2]at this;simp at this;subst this;exact⟨j,rfl⟩
theorem nq{m:List (Int×Tm)}{v:Int}(h:kM m v=none):fg v (tO m) 0=none:=by
 have:=s9 m v 0
 rw[h]at this
 cases h2:fg v (tO m) 0 with
 |none=>rfl
 |some p=>rw[h2]at this;cases this
theorem JC(o:Nat->ae)(b:List (Int×Tm))(v:Int):gV Tryz.prog o 78 (.d (wF b)) (.d (.int .i64 v)) true=some (match kM b v with|some x=> .bT [.d x.d, .d (.bool true)]|none=> .bT [.agg [.d (.i 0), .d (.i 0), .aX], .d (.bool false)],[],[]):=by
 cases h:kM b v with
 |none=>
  simp+contextual (disch:=first|omega|simp only[go_sem,false_implies]) only[go_sem,wrap64,if_pos,jM,nq h]
 |some x=>
  obtain⟨j,hj⟩:=tP h
  simp+contextual (disch:=first|omega|simp only[go_sem,false_implies]) only[go_sem,wrap64,if_pos,jM,hj]
structure HX (b:List (Int×Tm)):Prop where
 keys:(b.map (·.1)).Nodup
 len:b.length<=1000
 sz:∀p∈b,p.2.sz<=1000
 cp:∀p∈b,cj Tryz.prog 53 [wF [],p.2.d] (.ret [p.2.d])
def DH(t:Tm):Prop:=∀b,HX b->cj Tryz.prog 53 [wF b,t.d] (.ret [(bA t.cc b t).d])
def BZ:IC:=O6.snd.snd.snd.snd.fst.snd.fst.fst
def F7(b:List (Int×Tm))(k:Tm):Tm:=bA k.cc b k
theorem B0{t:Tm}{b:List (Int×Tm)}(hz:t.sz<=1000)(ih:∀k∈t.kids,DH k)(hb:HX b){o:Nat->ae}{c r:Nat}{op' N:Int}{e:Nat->V}{Q:e9->S->Prop}
 (hg:Good o c) (hc:r<c) (Za:1<c) (oo:o r= .row [.d (.i op'), .d (.i N), .aX])
 (he:eg c e [.d (wF b), .aa, .aa, .ptr 0 0, .ptr 1 0, .aa, .aa, .ptr r 0, .aa, .aa, .aa, .aa, .aa, .aa, .aa, .aa, .aa, .aa, .aa, .aa, .aa, .aa, .aa, .aa, .aa, .aa, .aa, .aa, .aa, .aa, .aa, .aa, .aa, .aa, .aa, .aa, .aa, .aa, .d (.sl (t.kids.map Tm.d)), .d (.i t.kids.length), .d (.i 0)] 0)
 (hQ:∀e' o' nx',e' 4= .ptr 1 0->e' 7= .ptr r 0->c<=nx'->Good o' nx'->o' r= .row [.d (.i op'), .d (.i N), .osl c 0]->o' c= .arr 0 28 3 ((t.kids.map (F7 b)).map Tm.d)->(∀j,j<c->j≠r->o' j=o j)->Q (.exit 0) ⟨e',o',nx'⟩):
 jI 0 (fun Q s=>jZ Tryz.prog 54 0 false BZ Q s) Q ⟨e,o,c⟩:=by
 have hlen:=lF t.kids
 have dX:jK t.kids<=1000:=by rw[Tm.fh]at hz;omega
 refine bn (fun i:Nat=>⟨bF [.d (wF b), .aa, .aa, .ptr 0 0, .ptr 1 0, .aa, .aa, .ptr r 0, .aa, .aa, .aa, .aa, .aa, .aa, .aa, .aa, .aa, .aa, .aa, .aa, .aa, .aa, .aa, .aa, .aa, .aa, .aa, .aa, .aa, .aa, .aa, .aa, .aa, .aa, .aa, .aa, .aa, .aa, .d (.sl (t.kids.map Tm.d)), .d (.i t.kids.length), .d (.i i)],ao (ao o r (.row [.d (.i op'), .d (.i N), .osl c 0])) c (.arr 0 28 3 (((t.kids.take i).map (F7 b)).map Tm.d)),c+1⟩)
  (fun i=>i<=t.kids.length) (fun i=>t.kids.length - i) 0 (Nat.zero_le _) (cq.mY (ty:=28) (sz:=3) (es:=[]) (fun _=>False) .aX c _ (by omega) (fun j hj=> ?_) (by rw[ab];simp) (.inl ⟨rfl,rfl,by decide⟩) (fun j hj=> ?_) (fun _ h=>h.elim) (iW he)) ?_
 ·by_cases e1:j=r
  ·subst e1
   exact aD oo (by(repeat(first|rfl|rw[ab]|rw[ad _ _ _ _ (by omega)]))) (bW rfl (bq (bq (gr 0 rfl rfl rfl bV))))
  ·exact aD rfl (by(repeat(first|rfl|rw[ab]|rw[ad _ _ _ _ (by omega)]))) (aG rfl (fun r hr=>hg.refs j r hr))
 ·(repeat(first|rfl|rw[ab]|rw[ad _ _ _ _ (by omega)]))
  exact hg.fresh j (by omega)
 rintro k hk
 have hk:k<=t.kids.length:=hk
 have y1:r≠c:=by omega
 have y2:∀k,r≠c+k:=fun k=>by omega
 simp only[BZ,O6,IC.snd,IC.fst]
 simp+contextual (disch:=first|omega|simp only[go_sem,false_implies]) only[go_sem,wrap64,if_pos,oo,y1,y2,Nat.add_assoc,Nat.left_eq_add,Nat.add_eq_left,Nat.add_left_cancel_iff,List.length_map]
 refine ax (fun h2=> ?_) (fun h2=> ?_)
 ·simp at h2
  obtain⟨x,hx⟩:=bH h2
  have lM:=List.mem_of_getElem? hx
  simp+contextual (disch:=first|omega|simp only[go_sem,false_implies]) only[go_sem,wrap64,if_pos,oo,y1,y2,Nat.add_assoc,Nat.left_eq_add,Nat.add_eq_left,Nat.add_left_cancel_iff,List.length_map,hx]
  refine fC (rs:=[(F7 b x).d]) (ih x lM b hb) ?_
  have e0:(t.kids.take k).length=k:=by rw[List.length_take];omega
  simp+contextual (disch:=first|omega|simp only[go_sem,false_implies]) only[go_sem,wrap64,if_pos,oo,y1,y2,Nat.add_assoc,Nat.left_eq_add,Nat.add_eq_left,Nat.add_left_cancel_iff,List.length_map,e0]
  refine aP (cD (ids:=[r,c,c+4]) (nx:=c+10) (by simp;omega) (by simp;omega) [([0],[]),([0],[]),([],[]),([2],[]),([],[]),([],[4]),([1,4],[1]),([0],[]),([0,1],[0])] (by decide)) ?_
  simp+contextual (disch:=first|omega|simp only[go_sem,false_implies]) only[go_sem,wrap64,if_pos,Nat.add_assoc,Nat.left_eq_add,Nat.add_eq_left,Nat.add_left_cancel_iff]
  have R4:t.kids.take (k+1)=t.kids.take k++[x]:=by rw[List.take_add_one,hx];rfl
  refine aE (k+1) h2 (by omega) (cq.mY (fun j=>j=c) (.osl c 1) c _ (by omega) (fun j hj=> ?_) (ab _ _ _) (.inr ⟨c,1,rfl,rfl,by(repeat(first|rfl|rw[ab]|rw[ad _ _ _ _ (by omega)]));rw[R4,List.map_append,List.map_append];rfl⟩) (fun j hj=> ?_) (fun j h h2=>by omega) ?_)
  ·by_cases e1:j=r
   ·subst e1
    exact aD (y:= .row [.d (.i op'), .d (.i N), .osl c 1]) (by(repeat(first|rfl|rw[ab]|rw[ad _ _ _ _ (by omega)]))) (by(repeat(first|rfl|rw[ab]|rw[ad _ _ _ _ (by omega)]))) (bW rfl (bq (bq (gr 0 rfl rfl rfl bV))))
   ·exact aD (y:=o j) (by(repeat(first|rfl|rw[ab]|rw[ad _ _ _ _ (by omega)]))) (by(repeat(first|rfl|rw[ab]|rw[ad _ _ _ _ (by omega)]))) (aG rfl (fun r hr=>hg.refs j r hr))
  ·(repeat(first|rfl|rw[ab]|rw[ad _ _ _ _ (by omega)]))
   exact hg.fresh j (by omega)
  ·(repeat(first|exact ei|refine dk ?_|refine cR rfl ?_|refine cR (aV (aU (by omega))) ?_|refine ir 0 rfl rfl rfl ?_|refine iq rfl (by simp[V.refs,V.ag]<;>first|omega|assumption) ?_|refine iu rfl (by simp[V.ids]<;>omega) ?_))
 ·simp at h2
  simp+contextual (disch:=first|omega|simp only[go_sem,false_implies]) only[go_sem,wrap64,if_pos,and_self]
  have H7:k=t.kids.length:=by omega
  subst H7
  refine hQ _ _ _ rfl rfl ?_ ?_ ?_ ?_ (fun j g1 g2=> ?_)
  ·omega
  ·exact(by repeat(first|exact hg.mono (by omega)|exact Good.nil|refine Good.ao ?_ (by omega) rfl|refine Good.ao ?_ (by omega) (dK _ _ _ (by omega))|refine Good.ao ?_ (by omega) (by simp[ae.refs,V.ag,V.refs]<;>omega)))
  ·(repeat(first|rfl|rw[ab]|rw[ad _ _ _ _ (by omega)]))
  ·(repeat(first|rfl|rw[ab]|rw[ad _ _ _ _ (by omega)]))
   rw[List.take_length]
  ·(repeat(first|rfl|rw[ab]|rw[ad _ _ _ _ (by omega)]))
end Go.Proofs.YtealblliddhgiaaGreat
namespace Go.Proofs.YtealblliddhgiaaGreat
theorem u4{t:Tm}{b:List (Int×Tm)}(hw:t.wf)(h8:t.op≠8)(h1:t.op=1->kM b t.n=none):Tm.mk t.op t.n (t.kids.map (F7 b))=bA t.cc b t:=by
 have ig:=(Tm.gw t).1 hw
 have hh:t.cc=Tm.dF t.kids+1:=by rw[Tm.dg];omega
 have hk:t.kids.map (F7 b)=t.kids.map (bA (Tm.dF t.kids) b):=List.map_congr_left fun k hk=>dH _ _ k b (ig.2.2 k hk) (Nat.le_refl _) (Tm.sr hk)
 rw[hk,hh]
 simp only[bA]
 by_cases e:t.op=1
 ·rw[if_pos e,h1 e]
  have:=ig.1 e
  rw[this]
  have h2:=Tm.eta t
  rw[this]at h2
  exact h2
 ·rw[if_neg e,if_neg h8]
theorem F8{t x:Tm}{b:List (Int×Tm)}(h1:t.op=1)(hl:kM b t.n=some x):bA t.cc b t=x:=by
 have hh:t.cc=Tm.dF t.kids+1:=by rw[Tm.dg];omega
 rw[hh]
 simp only[bA]
 rw[if_pos h1,hl]
theorem F9{t:Tm}(hw:t.wf)(hz:t.sz<=1000)(ih:∀k∈t.kids,DH k)(Q5:t.op=8->∀b,HX b->cj Tryz.prog 91 [wF b,t.d] (.ret [(bA t.cc b t).d])):DH t:=by
 intro b hb
 refine cj.bt mix O7 (by simp) ?_
 rw[O6]
 cases hl:kM b t.n with
 |some x=>
  simp+contextual (disch:=first|omega|simp only[go_sem,false_implies]) only[go_sem,wrap64,if_pos,JC,hl]
  refine ax (fun h1=> ?_) (fun h1=> ?_)
  ·have kT:t.op=1:=by simpa using h1
   rw[F8 kT hl]
   simp+contextual (disch:=first|omega|simp only[go_sem,false_implies]) only[go_sem,wrap64,if_pos,and_self]
   refine bM (hb.cp _ (iJ hl)) ?_
   simp+contextual (disch:=first|omega|simp only[go_sem,false_implies]) only[go_sem,wrap64,if_pos,and_self]
  ·have kT:t.op≠1:=by simpa using h1
   simp+contextual (disch:=first|omega|simp only[go_sem,false_implies]) only[go_sem,wrap64,if_pos,and_self]
   refine ax (fun h8=> ?_) (fun h8=> ?_)
   ·have LY:t.op=8:=by simpa using h8
    simp+contextual (disch:=first|omega|simp only[go_sem,false_implies]) only[go_sem,wrap64,if_pos,and_self]
    refine bM (Q5 LY b hb) ?_
    simp+contextual (disch:=first|omega|simp only[go_sem,false_implies]) only[go_sem,wrap64,if_pos,and_self]
   ·have LY:t.op≠8:=by simpa using h8
    simp+contextual (disch:=first|omega|simp only[go_sem,false_implies]) only[go_sem,wrap64,if_pos,and_self]
    rw[<- u4 hw LY (fun e=>absurd e kT)]
    refine B0 (b:=b) (c:=32) (r:=26) (op':=t.op) (N:=t.n) hz ih hb (by repeat(first|exact hg.mono (by omega)|exact Good.nil|refine Good.ao ?_ (by omega) rfl|refine Good.ao ?_ (by omega) (dK _ _ _ (by omega))|refine Good.ao ?_ (by omega) (by simp[ae.refs,V.ag,V.refs]<;>omega))) (by decide) (by decide) (by(repeat(first|rfl|rw[ab]|rw[ad _ _ _ _ (by omega)]))) ?_ fun e' o' nx' e4 e7 g1 g2 g3 g4 g5=> ?_
    ·(repeat(first|exact aw|refine aq ?_|refine ah rfl ?_|refine ah (aV (aU (by omega))) ?_|refine aF rfl (by simp[V.refs,V.ag]<;>first|omega|assumption) ?_))
    have q1:o' 1= .row [.d (.i 0), .d (.i 0), .aX]:=by rw[g5 1 (by decide) (by decide)];(repeat(first|rfl|rw[ab]|rw[ad _ _ _ _ (by omega)]))
    simp+contextual (disch:=first|omega|simp only[go_sem,false_implies]) only[go_sem,wrap64,if_pos,e4,e7,g3,g4,q1]
    rw[Tm.pO]
 |none=>
  simp+contextual (disch:=first|omega|simp only[go_sem,false_implies]) only[go_sem,wrap64,if_pos,JC,hl]
  refine ax (fun h8=> ?_) (fun h8=> ?_)
  ·have LY:t.op=8:=by simpa using h8
   simp+contextual (disch:=first|omega|simp only[go_sem,false_implies]) only[go_sem,wrap64,if_pos,and_self]
   refine bM (Q5 LY b hb) ?_
   simp+contextual (disch:=first|omega|simp only[go_sem,false_implies]) only[go_sem,wrap64,if_pos,and_self]
  ·have LY:t.op≠8:=by simpa using h8
   simp+contextual (disch:=first|omega|simp only[go_sem,false_implies]) only[go_sem,wrap64,if_pos,and_self]
   rw[<- u4 hw LY (fun _=>hl)]
   refine B0 (b:=b) (c:=32) (r:=26) (op':=t.op) (N:=t.n) hz ih hb (by repeat(first|exact hg.mono (by omega)|exact Good.nil|refine Good.ao ?_ (by omega) rfl|refine Good.ao ?_ (by omega) (dK _ _ _ (by omega))|refine Good.ao ?_ (by omega) (by simp[ae.refs,V.ag,V.refs]<;>omega))) (by decide) (by decide) (by(repeat(first|rfl|rw[ab]|rw[ad _ _ _ _ (by omega)]))) ?_ fun e' o' nx' e4 e7 g1 g2 g3 g4 g5=> ?_
   ·(repeat(first|exact aw|refine aq ?_|refine ah rfl ?_|refine ah (aV (aU (by omega))) ?_|refine aF rfl (by simp[V.refs,V.ag]<;>first|omega|assumption) ?_))
   have q1:o' 1= .row [.d (.i 0), .d (.i 0), .aX]:=by rw[g5 1 (by decide) (by decide)];(repeat(first|rfl|rw[ab]|rw[ad _ _ _ _ (by omega)]))
   simp+contextual (disch:=first|omega|simp only[go_sem,false_implies]) only[go_sem,wrap64,if_pos,e4,e7,g3,g4,q1]
   rw[Tm.pO]
end Go.Proofs.YtealblliddhgiaaGreat
namespace Go.Proofs.YtealblliddhgiaaGreat
theorem u5{K:V->List (Nat×ae)->Prop}{id:Nat}{m:List (Int×Tm)}(h0:m=[]->K (.bT [.d (.bool false)]) [])
 (h1:∀ (i:Nat) k x,m[i]? =some (k,x)->K (.bT [.d (.bool true), .d (.int .i64 k), .d x.d]) [(id, .kg (enc (D.int .i64) (tO (m.eraseIdx i))) (some (.int .i64 k,x.d)))]):uG K id (enc (D.int .i64) (tO m)):=by
 refine pS _ (fun h=>h0 ?_) fun i k x h=> ?_
 ·cases m with
  |nil=>rfl
  |cons x l=>simp[tO]at h
 ·unfold tO at h|-
  rw[List.getElem?_map]at h
  cases hm:m[i]? with
  |none=>rw[hm]at h;cases h
  |some p=>
   rw[hm]at h
   simp at h
   obtain⟨rfl,rfl⟩:=h
   have:=h1 i p.1 p.2 (by rw[hm])
   rw[eV]
   exact this
@[reducible] def pc (m:List (Int×Tm)):ae:= .map 3 28 (enc (D.int .i64) (tO m))
theorem pf{m:List (Int×Tm)}{v:Int}{x:Tm}(h:kM m v=none):wx v x.d (tO m)=tO (m++[(v,x)]):=by
 unfold wx
 rw[nq h]
 simp[tO]
theorem wG(t:Tm)(v:Int):(ju t).contains v=jL v t:=by
 rw[Bool.eq_iff_iff,List.contains_iff_mem]
 exact(nQ t).2 v
def JD:IC:=Jg.snd.snd.snd.snd.snd.fst.snd.fst.fst
theorem Ga(l:List (Int×Tm))(p:Int×Tm)(body:Tm)(n:Int):lB (l++[p]) body n=(lB l body n||(jL p.1 body&&jL n p.2)):=by simp[lB]
theorem yS(l:List (Int×Tm))(p:Int×Tm)(n:Int):cg (l++[p]) n=if p.1=n then cg l n else cg l n++[p]:=by
 unfold cg
 rw[List.filter_append]
 by_cases h:p.1=n
 ·simp[h]
 ·simp[h]
theorem Q6{t body:Tm}{b:List (Int×Tm)}(hb:HX b){o:Nat->ae}{e:Nat->V}{Q:e9->S->Prop}
 (hg:Good o 29) (o0:o 0= .row t.row) (om:o 15=pc []) (oi:o 28= .kg (enc (D.int .i64) (tO b)) none)
 (he:eg 29 e [.d (wF b), .aa, .aa, .ptr 0 0, .ptr 1 0, .ptr 13 0, .mp 15, .ptr 20 0, .d (MZ (eD (ju body))), .d (.bool false), .aa, .aa, .aa, .aa, .aa, .aa, .aa, .aa, .aa, .aa, .aa, .aa, .aa, .aa, .aa, .aa, .aa, .aa, .aa, .aa, .aa, .aa, .aa, .aa, .ptr 28 0] 0)
 (hQ:∀e' o' nx' jQ,e' 0= .d (wF b)->e' 3= .ptr 0 0->e' 4= .ptr 1 0->e' 5= .ptr 13 0->e' 6= .mp 15->e' 7= .ptr 20 0->e' 9= .d (.bool (lB (cg b t.n) body t.n))->29<=nx'->Good o' nx'->(∀j,j<29->j≠15->j≠28->o' j=o j)->o' 15=pc (cg jQ t.n)->jQ.Perm b->Q (.exit 0) ⟨e',o',nx'⟩):
 jI 0 (fun Q s=>jZ Tryz.prog 102 0 false JD Q s) Q ⟨e,o,29⟩:=by
 refine bn (fun i:List (Int×Tm)×List (Int×Tm)×Option (D×D)=>⟨bF [.d (wF b), .aa, .aa, .ptr 0 0, .ptr 1 0, .ptr 13 0, .mp 15, .ptr 20 0, .d (MZ (eD (ju body))), .d (.bool (lB (cg i.2.1 t.n) body t.n)), .aa, .aa, .aa, .aa, .aa, .aa, .aa, .aa, .aa, .aa, .aa, .aa, .aa, .aa, .aa, .aa, .aa, .aa, .aa, .aa, .aa, .aa, .aa, .aa, .ptr 28 0],ao (ao o 15 (pc (cg i.2.1 t.n))) 28 (.kg (enc (D.int .i64) (tO i.1)) i.2.2),29⟩)
  (fun i=>(i.2.1++i.1).Perm b) (fun i=>i.1.length) (b,[],none) (List.Perm.refl _) ?_ ?_
 ·dsimp only
  refine cq.cN _ (by decide) (Nat.le_refl _) ?_ (fun j hj=> ?_) he
  ·exact(by repeat(first|exact hg.mono (by omega)|exact Good.nil|refine Good.ao ?_ (by omega) rfl|refine Good.ao ?_ (by omega) (dK _ _ _ (by omega))|refine Good.ao ?_ (by omega) (by simp[ae.refs,V.ag,V.refs]<;>omega)))
  ·by_cases e1:j=28
   ·subst e1;rw[ab];exact oi
   ·rw[ad _ _ _ _ e1]
    by_cases e2:j=15
    ·subst e2;rw[ab];exact om
    ·rw[ad _ _ _ _ e2]
 rintro⟨rest,jQ,last⟩ hp
 replace hp:(jQ++rest).Perm b:=hp
 dsimp only
 simp only[JD,Jg,IC.snd,IC.fst]
 simp+contextual (disch:=first|omega|simp only[go_sem,false_implies]) only[go_sem,wrap64,if_pos,o0]
 refine u5 (fun hr=> ?_) fun i k x hm=> ?_
 ·subst hr
  simp+contextual (disch:=first|omega|simp only[go_sem,false_implies]) only[go_sem,wrap64,if_pos,and_self]
  have GS:jQ.Perm b:=by simpa using hp
  have hc:lB (cg jQ t.n) body t.n=lB (cg b t.n) body t.n:=yP _ (GS.filter _)
  refine hQ _ _ _ jQ ?_ ?_ ?_ ?_ ?_ ?_ ?_ ?_ ?_ (fun j g1 g2 g3=> ?_) ?_ GS
  ·rfl
  ·rfl
  ·rfl
  ·rfl
  ·rfl
  ·rfl
  ·rw[<- hc];rfl
  ·omega
  ·exact(by repeat(first|exact hg.mono (by omega)|exact Good.nil|refine Good.ao ?_ (by omega) rfl|refine Good.ao ?_ (by omega) (dK _ _ _ (by omega))|refine Good.ao ?_ (by omega) (by simp[ae.refs,V.ag,V.refs]<;>omega)))
  ·(repeat(first|rfl|rw[ab]|rw[ad _ _ _ _ (by omega)]))
  ·(repeat(first|rfl|rw[ab]|rw[ad _ _ _ _ (by omega)]))
 ·have Gp:(jQ++[(k,x)]++rest.eraseIdx i).Perm b:=by
   rw[List.append_assoc]
   exact(List.Perm.append_left _ (sT hm)).trans hp
  have Nr:(k,x)∈b:=Gp.mem_iff.1 (by simp)
  have Yy:x.sz<=1000:=hb.sz _ Nr
  have u6:kM (cg jQ t.n) k=none:=by
   rw[mE]
   intro h3
   have h4:k∈jQ.map (·.1):=by
    obtain⟨p,h5,h6⟩:=List.mem_map.1 h3
    exact List.mem_map.2 ⟨p,(List.mem_filter.1 h5).1,h6⟩
   have h5:=(Gp.map (·.1)).nodup_iff.2 hb.keys
   rw[List.map_append,List.map_append,List.nodup_append,List.nodup_append]at h5
   exact h5.1.2.2 k h4 k (by simp) rfl
  have hlen:(rest.eraseIdx i).length<rest.length:=by
   obtain⟨hi,_⟩:=List.getElem?_eq_some_iff.1 hm
   rw[List.length_eraseIdx];simp[hi];omega
  simp+contextual (disch:=first|omega|simp only[go_sem,false_implies]) only[go_sem,wrap64,if_pos,o0]
  refine ax (fun h2=> ?_) (fun h2=> ?_)
  ·have Ck:k≠t.n:=by simpa using h2
   have lH:cg (jQ++[(k,x)]) t.n=cg jQ t.n++[(k,x)]:=by rw[yS,if_neg Ck]
   have U9:lB (cg (jQ++[(k,x)]) t.n) body t.n=(lB (cg jQ t.n) body t.n||(jL k body&&jL t.n x)):=by rw[lH,Ga]
   have Va:∀ (e':Nat->V) (o':Nat->ae) (n':Nat) (c:Bool),c=lB (cg (jQ++[(k,x)]) t.n) body t.n->Good o' n'->29<=n'->(∀j,j<29->j≠15->j≠28->o' j=o j)->o' 15=pc (cg (jQ++[(k,x)]) t.n)->o' 28= .kg (enc (D.int .i64) (tO (rest.eraseIdx i))) (some (.int .i64 k,x.d))->
    eg 29 e' [.d (wF b), .aa, .aa, .ptr 0 0, .ptr 1 0, .ptr 13 0, .mp 15, .ptr 20 0, .d (MZ (eD (ju body))), .d (.bool c), .aa, .aa, .aa, .aa, .aa, .aa, .aa, .aa, .aa, .aa, .aa, .aa, .aa, .aa, .aa, .aa, .aa, .aa, .aa, .aa, .aa, .aa, .aa, .aa, .ptr 28 0] 0->
    xX 0 (fun i=>⟨bF [.d (wF b), .aa, .aa, .ptr 0 0, .ptr 1 0, .ptr 13 0, .mp 15, .ptr 20 0, .d (MZ (eD (ju body))), .d (.bool (lB (cg i.2.1 t.n) body t.n)), .aa, .aa, .aa, .aa, .aa, .aa, .aa, .aa, .aa, .aa, .aa, .aa, .aa, .aa, .aa, .aa, .aa, .aa, .aa, .aa, .aa, .aa, .aa, .aa, .ptr 28 0],ao (ao o 15 (pc (cg i.2.1 t.n))) 28 (.kg (enc (D.int .i64) (tO i.1)) i.2.2),29⟩) (fun i:List (Int×Tm)×List (Int×Tm)×Option (D×D)=>(i.2.1++i.1).Perm b) (fun i=>i.1.length) (rest,jQ,last) ⟨e',o',n'⟩:=by
    intro e' o' n' c hc R2 hn hold Yz YA e8
    subst hc
    refine aE (rest.eraseIdx i,jQ++[(k,x)],some (.int .i64 k,x.d)) Gp hlen (cq.cN _ (by decide) hn ?_ (fun j hj=> ?_) e8)
    ·dsimp only;exact(by repeat(first|exact hg.mono (by omega)|exact Good.nil|refine Good.ao ?_ (by omega) rfl|refine Good.ao ?_ (by omega) (dK _ _ _ (by omega))|refine Good.ao ?_ (by omega) (by simp[ae.refs,V.ag,V.refs]<;>omega)))
    ·dsimp only
     by_cases e1:j=28
     ·subst e1;rw[ab];exact YA
     ·rw[ad _ _ _ _ e1]
      by_cases e2:j=15
      ·subst e2;rw[ab];exact Yz
      ·rw[ad _ _ _ _ e2];exact hold j hj e2 e1
   cases hc:lB (cg jQ t.n) body t.n with
   |true=>
    simp+contextual (disch:=first|omega|simp only[go_sem,false_implies]) only[go_sem,wrap64,if_pos,o0,pf u6,hc,jM,wG]
    refine aP (by decide) ?_
    simp+contextual (disch:=first|omega|simp only[go_sem,false_implies]) only[go_sem,wrap64,if_pos,and_self]
    refine Va _ _ _ true (by rw[U9,hc];rfl) (by repeat(first|exact hg.mono (by omega)|exact Good.nil|refine Good.ao ?_ (by omega) rfl|refine Good.ao ?_ (by omega) (dK _ _ _ (by omega))|refine Good.ao ?_ (by omega) (by simp[ae.refs,V.ag,V.refs]<;>omega))) (by omega) (fun j g1 g2 g3=>by(repeat(first|rfl|rw[ab]|rw[ad _ _ _ _ (by omega)]))) (by rw[lH];(repeat(first|rfl|rw[ab]|rw[ad _ _ _ _ (by omega)]))) (by(repeat(first|rfl|rw[ab]|rw[ad _ _ _ _ (by omega)]))) ?_
    (repeat(first|exact aw|refine aq ?_|refine ah rfl ?_|refine ah (aV (aU (by omega))) ?_|refine aF rfl (by simp[V.refs,V.ag]<;>first|omega|assumption) ?_))
   |false=>
    cases hf:jL k body with
    |false=>
     simp+contextual (disch:=first|omega|simp only[go_sem,false_implies]) only[go_sem,wrap64,if_pos,o0,pf u6,hc,hf,jM,wG]
     refine aP (by decide) ?_
     simp+contextual (disch:=first|omega|simp only[go_sem,false_implies]) only[go_sem,wrap64,if_pos,and_self]
     refine Va _ _ _ false (by rw[U9,hc,hf];rfl) (by repeat(first|exact hg.mono (by omega)|exact Good.nil|refine Good.ao ?_ (by omega) rfl|refine Good.ao ?_ (by omega) (dK _ _ _ (by omega))|refine Good.ao ?_ (by omega) (by simp[ae.refs,V.ag,V.refs]<;>omega))) (by omega) (fun j g1 g2 g3=>by(repeat(first|rfl|rw[ab]|rw[ad _ _ _ _ (by omega)]))) (by rw[lH];(repeat(first|rfl|rw[ab]|rw[ad _ _ _ _ (by omega)]))) (by(repeat(first|rfl|rw[ab]|rw[ad _ _ _ _ (by omega)]))) ?_
     (repeat(first|exact aw|refine aq ?_|refine ah rfl ?_|refine ah (aV (aU (by omega))) ?_|refine aF rfl (by simp[V.refs,V.ag]<;>first|omega|assumption) ?_))
    |true=>
     simp+contextual (disch:=first|omega|simp only[go_sem,false_implies]) only[go_sem,wrap64,if_pos,o0,pf u6,hc,hf,jM,wG]
     refine fC (yN x (Tm.lG x (by omega))) ?_
     simp+contextual (disch:=first|omega|simp only[go_sem,false_implies]) only[go_sem,wrap64,if_pos,o0,hf,jM,wG]
     refine aP (by decide) ?_
     simp+contextual (disch:=first|omega|simp only[go_sem,false_implies]) only[go_sem,wrap64,if_pos,and_self]
     refine Va _ _ _ (jL t.n x) (by rw[U9,hc,hf];simp) (by repeat(first|exact hg.mono (by omega)|exact Good.nil|refine Good.ao ?_ (by omega) rfl|refine Good.ao ?_ (by omega) (dK _ _ _ (by omega))|refine Good.ao ?_ (by omega) (by simp[ae.refs,V.ag,V.refs]<;>omega))) (by omega) (fun j g1 g2 g3=>by(repeat(first|rfl|rw[ab]|rw[ad _ _ _ _ (by omega)]))) (by rw[lH];(repeat(first|rfl|rw[ab]|rw[ad _ _ _ _ (by omega)]))) (by(repeat(first|rfl|rw[ab]|rw[ad _ _ _ _ (by omega)]))) ?_
     (repeat(first|exact aw|refine aq ?_|refine ah rfl ?_|refine ah (aV (aU (by omega))) ?_|refine aF rfl (by simp[V.refs,V.ag]<;>first|omega|assumption) ?_))
  ·have Ck:k=t.n:=by simpa using h2
   have lH:cg (jQ++[(k,x)]) t.n=cg jQ t.n:=by rw[yS,if_pos Ck]
   simp+contextual (disch:=first|omega|simp only[go_sem,false_implies]) only[go_sem,wrap64,if_pos,o0]
   refine aE (rest.eraseIdx i,jQ++[(k,x)],some (.int .i64 k,x.d)) Gp hlen (cq.cN _ (by decide) (by omega) ?_ (fun j hj=> ?_) ?_)
   ·dsimp only;exact(by repeat(first|exact hg.mono (by omega)|exact Good.nil|refine Good.ao ?_ (by omega) rfl|refine Good.ao ?_ (by omega) (dK _ _ _ (by omega))|refine Good.ao ?_ (by omega) (by simp[ae.refs,V.ag,V.refs]<;>omega)))
   ·dsimp only
    rw[lH]
    by_cases e1:j=28
    ·subst e1;(repeat(first|rfl|rw[ab]|rw[ad _ _ _ _ (by omega)]))
    ·by_cases e2:j=15
     ·subst e2;(repeat(first|rfl|rw[ab]|rw[ad _ _ _ _ (by omega)]))
     ·(repeat(first|rfl|rw[ab]|rw[ad _ _ _ _ (by omega)]))
   ·dsimp only
    rw[lH]
    (repeat(first|exact aw|refine aq ?_|refine ah rfl ?_|refine ah (aV (aU (by omega))) ?_|refine aF rfl (by simp[V.refs,V.ag]<;>first|omega|assumption) ?_))
end Go.Proofs.YtealblliddhgiaaGreat
