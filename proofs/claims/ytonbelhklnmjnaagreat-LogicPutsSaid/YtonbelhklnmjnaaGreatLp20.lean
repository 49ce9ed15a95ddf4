/-
  A PART OF THE PROOF. Conditions: none.
-/
import Derived.Test.YtonbelhklnmjnaaGreatLp19
set_option linter.unusedSimpArgs false
set_option linter.unusedVariables false
namespace Go.Proofs.YtonbelhklnmjnaaGreat
def fV(ls:List Int)(L:List Tm):List Tm:=L.mapIdx fun i x=>if ls.contains (i:Int)=true then ez else x
theorem N6(r:Rl)(b:List Tm):fV (cI r.rhs) b=mZ r b:=rfl
theorem N7(ls:List Int)(L:List Tm):(fV ls L).length=L.length:=by simp[fV]
theorem N8(L:List Tm):fV [] L=L:=by
 refine List.ext_getElem (by simp[fV]) fun i h1 h2=> ?_
 simp[fV]
theorem tH(a b:List Int)(L:List Tm):fV (a++b) L=fV b (fV a L):=by
 refine List.ext_getElem (by simp[fV]) fun i h1 h2=> ?_
 simp only[fV,List.getElem_mapIdx,List.contains_eq_mem,List.mem_append]
 by_cases ha:(i:Int)∈a
 ·by_cases hb:(i:Int)∈b<;>simp[ha,hb]
 ·by_cases hb:(i:Int)∈b<;>simp[ha,hb]
theorem N9{n:Int}{L:List Tm}(h0:0<=n)(h1:n<L.length):fV [n] L=L.set n.toNat ez:=by
 refine List.ext_getElem (by simp[fV]) fun i h1 h2=> ?_
 simp only[fV,List.getElem_mapIdx,List.getElem_set,List.contains_eq_mem,List.mem_singleton]
 by_cases h:n.toNat=i
 ·rw[if_pos h,if_pos (by simp;omega)]
 ·rw[if_neg h,if_neg (by simp;omega)]
structure Oa (base eb vb:Nat) (ev:V) (H:List Tm->Nat->ab):Prop where
 e1:eb<base
 v1:vb<base
 he:∀L,H L eb= .row [ev]
 hv:∀L,H L vb= .row [.func (.func 254) [] [.ptr eb 0, .ptr vb 0]]
 own:ev= .d (.sl [])\/∃a ep,ev= .osl a ep/\a<base/\(∀L,H L a= .arr ep 31 3 (L.map Tm.d))/\∀L L' j,j≠a->H L j=H L' j
def aeK:IC:=ML.snd.snd.snd.fst.fst
def aeL{base eb vb:Nat}{ev:V}{H:List Tm->Nat->ab}(hH:Oa base eb vb ev H)(t:Tm):Prop:=t.fits->∀L:List Tm,(∀v∈cI t,0<=v/\v<L.length)->(ev= .d (.sl [])->L=[])->
    fT Tryz.prog 254 [.d t.d, .ptr eb 0, .ptr vb 0] base (H L) (H (fV (cI t) L)) (.cg [])
theorem DZ{base eb vb:Nat}{ev:V}{H:List Tm->Nat->ab}(hH:Oa base eb vb ev H){t:Tm}(hf:t.fits)(ih:∀k∈t.kids,aeL hH k)(L:List Tm)(hr:∀v∈bH t.kids,0<=v/\v<L.length)(hL:ev= .d (.sl [])->L=[])
 {o o1:Nat->ab} {nx n1:Nat} {e:Nat->V} {Q:fX->S->Prop} (hb:base<=nx) (hn:nx<=n1) (hI:cQ base (H L) o1 n1) (dE:∀id,base<=id->id<nx->o1 id=o id)
 (he:kA n1 e [.aa, .ptr eb 0, .ptr vb 0, .aa, .aa, .aa, .aa, .aa, .aa, .aa, .aa, .aa, .aa, .aa, .aa, .aa, .d (.sl (t.kids.map Tm.d)), .d (.i t.kids.length), .d (.i 0)] 0)
 (hQ:∀e' o' n',nx<=n'->cQ base (H (fV (bH t.kids) L)) o' n'->(∀id,base<=id->id<nx->o' id=o id)->Q (.exit 0) ⟨e',o',n'⟩):
 vz nx (fun Q s=>lj Tryz.prog 26 nx false aeK Q s) Q ⟨e,o1,n1⟩:=by
 have dR:=(Tm.aH _).1 hf
 have e1:=hH.e1
 have v1:=hH.v1
 refine aF (fun i:Nat×(Nat->ab)×Nat=>⟨bp [.aa, .ptr eb 0, .ptr vb 0, .aa, .aa, .aa, .aa, .aa, .aa, .aa, .aa, .aa, .aa, .aa, .aa, .aa, .d (.sl (t.kids.map Tm.d)), .d (.i t.kids.length), .d (.i i.1)],i.2.1,i.2.2⟩)
  (fun i=>i.1<=t.kids.length/\cQ base (H (fV (bH (t.kids.take i.1)) L)) i.2.1 i.2.2/\nx<=i.2.2/\(∀id,base<=id->id<nx->i.2.1 id=o id)) (fun i=>t.kids.length - i.1) (0,o1,n1)
  ⟨Nat.zero_le _,by simpa[bH,N8]using hI,hn,dE⟩ ?_ ?_
 ·dsimp only
  exact bJ.bX _ hn (Nat.le_refl _) hI.bQ (fun _ _=>rfl) he
 rintro⟨k,o',n'⟩ ⟨hk,rL,OJ,ZZ⟩
 simp only at hk rL OJ ZZ
 have hg:=rL.bQ
 have hle:=rL.le
 have ov:o' vb= .row [.func (.func 254) [] [.ptr eb 0, .ptr vb 0]]:=by rw[rL.eq vb v1,hH.hv]
 have y3:vb≠n':=ah
 have y4:∀k,vb≠n'+k:=fun k=>ah
 simp only[aeK,ML,IC.snd,IC.fst]
 refine gD ?_
 refine aj (fun h2=> ?_) (fun h2=> ?_)
 ·simp at h2
  obtain⟨x,hx⟩:=aq h2
  have cz:=List.mem_of_getElem? hx
  have sS:t.kids.take (k+1)=t.kids.take k++[x]:=by rw[List.take_add_one,hx];rfl
  have hap:∀a b:List Tm,bH (a++b)=bH a++bH b:=fun a b=>by
   induction a with
   |nil=>simp[bH]
   |cons k a ih=>simp[bH,ih]
  have sa:∀v∈cI x,v∈bH t.kids:=fun v hv=>by
   rw[<- List.take_append_drop (k+1) t.kids,hap,sS,hap]
   simp[bH,hv]
  have aeM:fV (bH (t.kids.take (k+1))) L=fV (cI x) (fV (bH (t.kids.take k)) L):=by
   rw[sS,hap,tH];simp[bH]
  refine OU hx ov y3 y4 ?_
  refine bc (ih x cz (dR.2 x cz) (fV (bH (t.kids.take k)) L) (fun v hv=>by rw[N7];exact hr v (sa v hv)) (fun h=>by rw[hL h];rfl) _ _ ?_ _ _ fun o2 n2 m1 m2 m3=> ?_)
  ·exact⟨dB,ah,fun j hj=>by(repeat(first|rfl|rw[ad]|rw[ak _ _ _ _ (by omega)]));exact rL.eq j hj⟩
  rw[<- aeM]at m2
  refine iO ?_
  refine au (k+1,o2,n2+2) ⟨h2,m2.mono (show n2<=n2+2 from ah),(show nx<=n2+2 from ah),fun id i1 i2=> ?_⟩ oN (bJ.bX _ (show nx<=n2+2 from ah) (Nat.le_refl _) (m2.mono (show n2<=n2+2 from ah)).bQ (fun _ _=>rfl) ?_)
  ·dsimp only
   rw[m3 id i1 (by omega)]
   (repeat(first|rfl|rw[ad]|rw[ak _ _ _ _ (by omega)]))
   exact ZZ id i1 i2
  ·dsimp only
   exact cY
 ·simp at h2
  refine aS ?_
  rw[List.take_of_length_le h2]at rL
  exact hQ _ _ _ ah (rL.mono ah) ZZ
theorem zB{base eb vb:Nat}{ev:V}{H:List Tm->Nat->ab}(hH:Oa base eb vb ev H):∀t:Tm,aeL hH t:=by
 refine Tm.bW fun t ih hf L hr hL=> ?_
 have dR:=(Tm.aH _).1 hf
 have e1:=hH.e1
 have v1:=hH.v1
 intro o nx hI K X hK
 have hle:=hI.le
 have hg:=hI.bQ
 have oe:o eb= .row [ev]:=by rw[hI.eq eb e1,hH.he]
 have ov:o vb= .row [.func (.func 254) [] [.ptr eb 0, .ptr vb 0]]:=by rw[hI.eq vb v1,hH.hv]
 have y1:eb≠nx:=ah
 have y2:∀k,eb≠nx+k:=fun k=>ah
 have y3:vb≠nx:=ah
 have y4:∀k,vb≠nx+k:=fun k=>ah
 refine cK.az mix Vg ao ?_
 rw[ML]
 by_cases h8:t.op=8
 ·have Vy:(t.op==8)=true:=by simpa using h8
  obtain⟨n0,n1⟩:=hr t.n (by rw[jl,if_pos h8];simp)
  rcases hH.own with hn|⟨a,ep,ha,a1,hA,hA2⟩
  ·rw[hL hn]at n1;simp at n1;omega
  have oa:o a= .arr ep 31 3 (L.map Tm.d):=by rw[hI.eq a a1,hA]
  rw[ha]at oe
  have y5:a≠nx:=ah
  have y6:∀k,a≠nx+k:=fun k=>ah
  obtain⟨x,hx⟩:=aq (l:=L) (k:=t.n.toNat) ah
  obtain⟨xo,xn,xk⟩:=x
  simp+contextual (disch:=first|omega|simp only[go_sem,false_implies]) only[go_sem,wrap64,if_pos,Vy,oe,ov,oa,y1,y2,y3,y4,y5,y6,Nat.add_assoc,Nat.left_eq_add,Nat.add_eq_left,Nat.add_left_cancel_iff]
  refine ba wG ?_
  simp+contextual (disch:=first|omega|simp only[go_sem,false_implies]) only[go_sem,wrap64,if_pos,Vy,oe,ov,oa,y1,y2,y3,y4,y5,y6,Nat.add_assoc,Nat.left_eq_add,Nat.add_eq_left,Nat.add_left_cancel_iff,n0,hx,Tm.m9,List.length_map]
  refine aD (JB af) ?_
  refine iO ?_
  rw[jl,if_pos h8,tH,N9 n0 n1]at hK
  rw[jl,if_pos h8]at hr
  have LX:cQ base (H (L.set t.n.toNat ez)) (aK (aK o nx (.row t.row)) a (.arr ep 31 3 ((L.map Tm.d).set t.n.toNat ez.d))) (nx+15):=⟨dB,ah,fun id aC=>by
   by_cases e:id=a
   ·subst e;rw[ad,hA,List.map_set]
   ·rw[ak _ _ _ _ e,ak _ _ _ _ (by omega),hI.eq id aC];exact hA2 _ _ id e⟩
  refine DZ hH hf ih (L.set t.n.toNat ez) (fun v hv=>by rw[List.length_set];exact hr v (by simp[hv])) (fun h=>by rw[ha]at h;cases h) (o:=o) ah ah LX (fun id i1 i2=>by(repeat(first|rfl|rw[ad]|rw[ak _ _ _ _ (by omega)]))) ?_ fun e' o' n' k1 k2 k3=> ?_
  ·exact cY
  ·refine aS ?_
   exact hK _ _ ah k2 k3
 ·have Vy:(t.op==8)=false:=by simpa using h8
  simp+contextual (disch:=first|omega|simp only[go_sem,false_implies]) only[go_sem,wrap64,if_pos,Vy,oe,ov,y1,y2,y3,y4,Nat.add_assoc,Nat.left_eq_add,Nat.add_eq_left,Nat.add_left_cancel_iff]
  rw[jl,if_neg h8,List.nil_append]at hK hr
  have LX:cQ base (H L) (aK o nx (.row t.row)) (nx+8):=hI.aK ah ah ah rfl
  refine DZ hH hf ih L hr hL (o:=o) ah ah LX (fun id i1 i2=>by(repeat(first|rfl|rw[ad]|rw[ak _ _ _ _ (by omega)]))) ?_ fun e' o' n' k1 k2 k3=> ?_
  ·exact cY
  ·refine aS ?_
   exact hK _ _ ah k2 k3
theorem JC{s:aO}(r:Rl)(ho:sM s r)(hf:r.rhs.fits)(b:List Tm)(hl:b.length<=1000)(hb:(b.length:Int)=r.vars):aR Tryz.prog 223 [r.d, .sl (b.map Tm.d)] (.ret [.sl ((mZ r b).map Tm.d)]):=by
 have hr:∀v∈cI r.rhs,0<=v/\v<b.length:=fun v hv=>by
  have h1:=(sL r.rhs v).1 hv
  obtain⟨x,hx,h2,h3⟩:=(jT _ _ _).1 h1
  have h4:=(pV r.vars r.rhs).1 ho.small x hx (.inr h2)
  have key:∀t:Tm,eL s t=true->∀x∈iP t,bz s x=true:=by
   refine Tm.bW fun t ih h x hx=> ?_
   rw[dG,Bool.and_eq_true,List.all_eq_true]at h
   rw[nY]at hx
   rcases List.mem_cons.1 hx with e|e
   ·rw[e];exact h.1
   ·exact SR
  have h5:=key _ (jm ho.rhs) x hx
  simp[bz,h2,cF]at h5
  omega
 refine aR.az mix UU ao ?_
 rw[Y0, <- N6]
 cases ik:b with
 |nil=>
  refine aS ?_
  refine aP zA ?_
  refine aS ?_
  subst ik
  have hH:Oa 12 4 6 (.d (.sl [])) (fun _=>aK (aK (aK (fun _=> .no) 0 (.row r.row)) 4 (.row [.d (.sl [])])) 6 (.row [.func (.func 254) [] [.ptr 4 0, .ptr 6 0]])):=
   ⟨ah,ah,fun _=>by(repeat(first|rfl|rw[ad]|rw[ak _ _ _ _ (by omega)])),fun _=>by(repeat(first|rfl|rw[ad]|rw[ak _ _ _ _ (by omega)])), .inl rfl⟩
  refine bc (zB hH r.rhs hf [] hr (fun _=>rfl) _ _ ⟨dB,Nat.le_refl _,fun id aC=>zK⟩ _ _ fun o2 n2 m1 m2 m3=> ?_)
  have q1:o2 4= .row [.d (.sl [])]:=by rw[m2.eq 4 (by omega)];(repeat(first|rfl|rw[ad]|rw[ak _ _ _ _ (by omega)]))
  refine dc q1 ?_
  rfl
 |cons a l=>
  rw[<- ik]
  have ZY:b≠[]:=by rw[ik];simp
  refine aS ?_
  refine c7 (wF b ZY ah _ _ _ _ ?_)
  refine aS ?_
  have hH:Oa 18 10 12 (.osl 6 1) (fun L=>aK (aK (aK (aK (fun _=> .no) 0 (.row r.row)) 6 (.arr 1 31 3 (L.map Tm.d))) 10 (.row [.osl 6 1])) 12 (.row [.func (.func 254) [] [.ptr 10 0, .ptr 12 0]])):=
   ⟨ah,ah,fun _=>by(repeat(first|rfl|rw[ad]|rw[ak _ _ _ _ (by omega)])),fun _=>by(repeat(first|rfl|rw[ad]|rw[ak _ _ _ _ (by omega)])), .inr ⟨6,1,rfl,ah,fun _=>by(repeat(first|rfl|rw[ad]|rw[ak _ _ _ _ (by omega)])),fun L L' j hj=>zK⟩⟩
  refine bc (zB hH r.rhs hf b hr (fun h=>by cases h) _ _ ⟨dB,Nat.le_refl _,fun id aC=>zK⟩ _ _ fun o2 n2 m1 m2 m3=> ?_)
  have q1:o2 10= .row [.osl 6 1]:=by rw[m2.eq 10 (by omega)];(repeat(first|rfl|rw[ad]|rw[ak _ _ _ _ (by omega)]))
  have q2:o2 6= .arr 1 31 3 ((fV (cI r.rhs) b).map Tm.d):=by rw[m2.eq 6 (by omega)];(repeat(first|rfl|rw[ad]|rw[ak _ _ _ _ (by omega)]))
  exact Kg q1 q2
theorem JD(env:List Tm)(n:Nat)(v:Tm):gA env (n:Int) v=(env++List.replicate (n+1 - env.length) ez).set n v:=rfl
theorem jr(b:Bool):(fQ b).fits:=by simp[fQ,Tm.fits,Tm.kC]
theorem JE(o a b:Int):(wu o a b).fits:=by unfold wu;split;exact jr _;simp[Tm.fits,Tm.kC]
theorem bV{l:List Pf}{i:Nat}{k:Pf}(h:l[i]? =some k):bu l i=k.val:=by unfold bu;rw[h];rfl
theorem mJ{t:Tm}{i:Nat}{k:Tm}(h:t.kids[i]? =some k):lH t i=k:=by unfold lH;rw[h];rfl
theorem Bi{s:aO}{e:Tm}(h:bz s e=true)(h1:6<=e.op)(h2:e.op<=15):e.kids.length=2:=by
 by_cases h8:e.op=8
 ·simp[bz,h8]at h;omega
 ·simp[bz,cF,show ¬e.op=1 by omega,show ¬e.op=2 by omega,show ¬e.op=3 by omega,show ¬e.op=4 by omega,show ¬e.op=5 by omega,h8,h1,h2]at h
  omega
theorem Ob{s:aO}{v:Tm}(h:Pn s v)(h2:v.op=2):bdN v.n:=by
 have:=(pS.1 h).1
 simp[mb,h2,cF]at this
 exact⟨this.1.1,this.1.2⟩
def xA(b:Bool):R:=if b=true then .ret []else .bP oj
theorem eQ:xA true= .ret []:=rfl
theorem bI:xA false= .bP oj:=rfl
def Bx(p:Pg)(f:Pf):Prop:=∀env e,dP p.sig env->cW p.sig env.length e->aR Tryz.prog 93 [wY p env,e.d,f.d] (xA (bd p f env e))
theorem cy:oj.flat=true:=by rfl
theorem rz{p:Pg}(ks:List Pf)(es:List Tm)(hk:ks.length<=1000000)(he0:es.length<=9223372036854775807){env:List Tm}(hv:dP p.sig env)(ih:∀k∈ks,Bx p k)(he:∀e∈es,cW p.sig env.length e):
 aR Tryz.prog 221 [wY p env, .sl (es.map Tm.d), .sl (ks.map Pf.d)] (xA (ks.length==es.length&&(ks.zip es).all fun x=>bd p x.1 env x.2)):=by
 refine aR.az mix US ao ?_
 rw[YY]
 by_cases hl:ks.length=es.length
 rotate_left
 ·have z8:((es.length:Int)==(ks.length:Int))=false:=by rw[beq_eq_false_iff_ne];omega
  have BI:(ks.length==es.length)=false:=by simpa using hl
  rw[BI,Bool.false_and,bI]
  refine et z8 ?_
  exact zO
 have z8:((es.length:Int)==(ks.length:Int))=true:=by rw[beq_iff_eq];omega
 have BI:(ks.length==es.length)=true:=by simpa using hl
 rw[BI,Bool.true_and]
 refine et z8 ?_
 refine ai cp rfl ?_
 refine gD ?_
 refine aF (fun k:Nat=>⟨bp [.aa, .d (.sl (es.map Tm.d)), .aa, .ptr 0 0, .aa, .aa, .aa, .aa, .aa, .aa, .aa, .aa, .aa, .aa, .d (.sl (ks.map Pf.d)), .d (.i ks.length), .d (.i k)],e8 (HG p env),1⟩)
  (fun k=>k<=ks.length/\((ks.zip es).take k).all (fun x=>bd p x.1 env x.2)=true) (fun k=>ks.length - k) 0 ⟨Nat.zero_le _,ao⟩ (bJ.d1 _ (aV rfl) ah rfl ?_) (fun k hk=> ?_)
 ·exact cY
 refine gD ?_
 refine aj (fun h2=> ?_) (fun h2=> ?_)
 ·simp at h2
  obtain⟨x,hx⟩:=aq h2
  obtain⟨y,hy⟩:=aq (l:=es) (k:=k) ah
  have cz:=List.mem_of_getElem? hx
  have hz:(ks.zip es)[k]? =some (x,y):=by rw[List.getElem?_zip_eq_some];exact⟨hx,hy⟩
  have hc:=ih x cz env y hv (he y (List.mem_of_getElem? hy))
  refine kS hx hy ?_
  cases g:bd p x env y with
  |false=>
   rw[g,bI]at hc
   refine cZ hc cy ?_
   exact abM
  |true=>
   rw[g,eQ]at hc
   refine aw hc rfl ?_
   refine kS hx hy ?_
   refine aD bE ?_
   refine aS ?_
   refine au (k+1) ⟨h2,cT hz hk.2 g⟩ ah (bJ.d1 _ (aV rfl) ah rfl ?_)
   exact cY
 ·simp at h2
  rw[cJ hk.2 (by rw[List.length_zip];omega),eQ]
  exact gK
theorem wH:∀ (ks:List Pf) (l:List Tm),ks.length=l.length->gS l (ks.map Pf.val)=(ks.zip l).all fun x=>aU x.1.val x.2
 |[],[],_=>rfl
 |k::ks,x::l,h=>by
  have ih:=wH ks l xO
  simp only[List.map_cons,gS,List.zip_cons_cons,List.all_cons,ih]
  congr 1
  rw[Bool.eq_iff_iff,bY,bY];exact eq_comm
 |[],_::_,h=>by simp at h
 |_::_,[],h=>by simp at h
theorem JF(v:Tm)(op n:Int)(ks:List Pf):aU v (.mk op n (ks.map Pf.val))=((v.op==op&&(v.n==n&&v.kids.length==ks.length))&&(ks.zip v.kids).all fun x=>aU x.1.val x.2):=by
 obtain⟨vo,vn,vk⟩:=v
 rw[nV]
 simp only[Tm.op,Tm.n,Tm.kids,List.length_map]
 by_cases h:vk.length=ks.length
 ·rw[wH ks _ h.symm]
  simp[Bool.and_assoc]
 ·have:(vk.length==ks.length)=false:=by simpa using h
  rw[this];simp
theorem JG(p:Pg)(l:List Pf)(env es:List Tm):lI (l.map (bd p)) env es=(l.length==es.length&&(l.zip es).all fun x=>bd p x.1 env x.2):=by
 unfold lI
 rw[List.length_map,List.zip_map_left,List.all_map]
 rfl
@[reducible] def wI (p:Pg) (env:List Tm) (e:Tm) (f:Pf):Nat->ab:=aK (aK (aK (fun _=> .no) 0 (.row (HG p env))) 1 (.row e.row)) 2 (.row f.row)
theorem zC{p:Pg}{f:Pf}(hf:ph p.sig f)(ih:∀k∈f.kids,Bx p k){env:List Tm}(hv:dP p.sig env){e:Tm}(he:cW p.sig env.length e)(fl:e.op=3\/e.op=5):
 aR Tryz.prog 219 [wY p env,e.d,f.d] (xA (aU f.val (.mk e.op e.n (f.kids.map Pf.val))&&lI (f.kids.map (bd p)) env e.kids)):=by
 have VA:=hf.len
 have iM:=((Tm.aH e).1 he.fits).1
 have hvk:=((Tm.aH f.val).1 hf.val.1.1).1
 refine aR.az mix UQ ao ?_
 rw[YW,JG,JF]
 by_cases h1:f.val.op=e.op/\f.val.n=e.n/\f.val.kids.length=f.kids.length
 rotate_left
 ·have cH:(f.val.op==e.op&&f.val.n==e.n&&(f.val.kids.length:Int)==(f.kids.length:Int))=false:=by
   rw[Bool.eq_false_iff];intro h
   simp only[Bool.and_eq_true,beq_iff_eq]at h
   exact h1 ⟨h.1.1,h.1.2,ah⟩
  have h2:(f.val.op==e.op&&(f.val.n==e.n&&f.val.kids.length==f.kids.length))=false:=by
   rw[Bool.eq_false_iff];intro h
   simp only[Bool.and_eq_true,beq_iff_eq]at h
   exact h1 h
  rw[h2,Bool.false_and,Bool.false_and,bI]
  refine et cH ?_
  exact zO
 obtain⟨a1,a2,a3⟩:=h1
 have cH:(f.val.op==e.op&&f.val.n==e.n&&(f.val.kids.length:Int)==(f.kids.length:Int))=true:=by simp[a1,a2,a3]
 have h2:(f.val.op==e.op&&(f.val.n==e.n&&f.val.kids.length==f.kids.length))=true:=by simp[a1,a2,a3]
 rw[h2,Bool.true_and]
 refine et cH ?_
 refine ai cp rfl ?_
 refine gD ?_
 refine aF (fun k:Nat=>⟨bp [.aa, .aa, .aa, .ptr 0 0, .ptr 1 0, .ptr 2 0, .aa, .aa, .aa, .aa, .aa, .aa, .aa, .aa, .aa, .aa, .aa, .aa, .aa, .aa, .aa, .aa, .aa, .aa, .aa, .aa, .aa, .aa, .aa, .aa, .aa, .aa, .aa, .aa, .d (.sl (f.kids.map Pf.d)), .d (.i f.kids.length), .d (.i k)],wI p env e f,3⟩)
  (fun k=>k<=f.kids.length/\((f.kids.zip f.val.kids).take k).all (fun x=>aU x.1.val x.2)=true) (fun k=>f.kids.length - k) 0 ⟨Nat.zero_le _,ao⟩ (bJ.bX _ ah ah dB (fun j hj=>rfl) ?_) (fun k hk=> ?_)
 ·exact cY
 refine gD ?_
 refine aj (fun h2=> ?_) (fun h2=> ?_)
 ·simp at h2
  obtain⟨x,hx⟩:=aq h2
  obtain⟨y,hy⟩:=aq (l:=f.val.kids) (k:=k) ah
  have cz:=List.mem_of_getElem? hx
  have hz:(f.kids.zip f.val.kids)[k]? =some (x,y):=by rw[List.getElem?_zip_eq_some];exact⟨hx,hy⟩
  refine kS hx hy ?_
  refine aw (cL _ (hf.kH cz).val.1.1 _ (hf.val.1.kH (List.mem_of_getElem? hy)).1) rfl ?_
  cases g:aU x.val y with
  |false=>
   refine kS hx hy ?_
   refine cZ dV cy ?_
   exact abM
  |true=>
   refine kS hx hy ?_
   refine aw cp rfl ?_
   refine kS hx hy ?_
   refine aD bE ?_
   refine aS ?_
   refine au (k+1) ⟨h2,cT hz hk.2 g⟩ ah (bJ.bX _ ah ah dB (fun j hj=>zK) ?_)
   exact cY
 ·simp at h2
  have hc:=rz f.kids e.kids ah iM hv ih (fun y hy=>he.kH ah ah hy)
  rw[cJ hk.2 (by rw[List.length_zip];omega),Bool.true_and]
  refine gD ?_
  cases g:(f.kids.length==e.kids.length&&(f.kids.zip e.kids).all fun x=>bd p x.1 env x.2)with
  |false=>
   rw[g,bI]at hc
   refine dX hc rfl ?_
   refine aS ?_
   rfl
  |true=>
   rw[g,eQ]at hc
   refine ai hc rfl ?_
   refine aS ?_
   rfl
theorem Q8{p:Pg}{f:Pf}(hf:ph p.sig f)(ih:∀k∈f.kids,Bx p k){env:List Tm}(hv:dP p.sig env){e:Tm}(he:cW p.sig env.length e)(r4:f.bG=4):
 aR Tryz.prog 171 [wY p env,e.d,f.d] (xA (bd p f env e)):=by
 have ht:bd p f env e=(e.op==3&&(aU f.val (.mk e.op e.n (f.kids.map Pf.val))&&lI (f.kids.map (bd p)) env e.kids)):=by rw[fi,od,if_neg (by omega),if_neg (by omega),if_neg (by omega),if_pos r4]
 rw[ht]
 refine aR.az mix Uq ao ?_
 rw[Yw]
 by_cases h1:e.op=3
 rotate_left
 ·have cH:(e.op==3)=false:=by simpa using h1
  exact Su
 have cH:(e.op==3)=true:=by simpa using h1
 rw[cH,Bool.true_and]
 refine dc cH ?_
 refine ai cp rfl ?_
 refine aS ?_
 have hc:=zC hf ih hv he (.inl h1)
 cases g:(aU f.val (.mk e.op e.n (f.kids.map Pf.val))&&lI (f.kids.map (bd p)) env e.kids)with
 |false=>
  rw[g,bI]at hc
  refine dX hc rfl ?_
  refine aS ?_
  rfl
 |true=>
  rw[g,eQ]at hc
  refine ai hc rfl ?_
  refine aS ?_
  rfl
theorem Oc{p:Pg}{f:Pf}(hf:ph p.sig f)(ih:∀k∈f.kids,Bx p k){env:List Tm}(hv:dP p.sig env){e:Tm}(he:cW p.sig env.length e)(r5:f.bG=5):
 aR Tryz.prog 172 [wY p env,e.d,f.d] (xA (bd p f env e)):=by
 have ht:bd p f env e=(e.op==5&&(aU f.val (.mk e.op e.n (f.kids.map Pf.val))&&lI (f.kids.map (bd p)) env e.kids)):=by rw[fi,od,if_neg (by omega),if_neg (by omega),if_neg (by omega),if_neg (by omega),if_pos r5]
 rw[ht]
 refine aR.az mix Ur ao ?_
 rw[Yx]
 by_cases h1:e.op=5
 rotate_left
 ·have cH:(e.op==5)=false:=by simpa using h1
  exact Su
 have cH:(e.op==5)=true:=by simpa using h1
 rw[cH,Bool.true_and]
 refine dc cH ?_
 refine ai cp rfl ?_
 refine aS ?_
 have hc:=zC hf ih hv he (.inr h1)
 cases g:(aU f.val (.mk e.op e.n (f.kids.map Pf.val))&&lI (f.kids.map (bd p)) env e.kids)with
 |false=>
  rw[g,bI]at hc
  refine dX hc rfl ?_
  refine aS ?_
  rfl
 |true=>
  rw[g,eQ]at hc
  refine ai hc rfl ?_
  refine aS ?_
  rfl
theorem Q9{p:Pg}{f:Pf}(hf:ph p.sig f){env:List Tm}{e:Tm}(r1:f.bG=1):
 aR Tryz.prog 168 [wY p env,e.d,f.d] (xA (bd p f env e)):=by
 have VA:=hf.len
 have ht:bd p f env e=(f.kids.length==0&&f.val.op==16):=by rw[fi,od,if_pos r1]
 rw[ht]
 refine aR.az mix Un ao ?_
 rw[Yt]
 by_cases h1:f.val.op=16
 rotate_left
 ·have cH:(f.val.op==16)=false:=by simpa using h1
  rw[cH,Bool.and_false,bI]
  exact abO
 have cH:(f.val.op==16)=true:=by simpa using h1
 rw[cH,Bool.and_true]
 by_cases h2:f.kids.length=0
 rotate_left
 ·have kQ:((f.kids.length:Int)==0)=false:=by rw[beq_eq_false_iff_ne];omega
  have mK:(f.kids.length==0)=false:=by simpa using h2
  rw[mK,bI]
  refine kS cH kQ ?_
  exact zO
 have kQ:((f.kids.length:Int)==0)=true:=by rw[beq_iff_eq];omega
 have mK:(f.kids.length==0)=true:=by simpa using h2
 rw[mK,eQ]
 refine kS cH kQ ?_
 exact RN
theorem Ra{p:Pg}{f:Pf}(hf:ph p.sig f){env:List Tm}(hv:dP p.sig env){e:Tm}(he:cW p.sig env.length e)(r2:f.bG=2):
 aR Tryz.prog 169 [wY p env,e.d,f.d] (xA (bd p f env e)):=by
 have VA:=hf.len
 have ht:bd p f env e=(e.op==1&&(f.kids.length==0&&Eh f.val ((env[e.n.toNat]?).getD ez))):=by rw[fi,od,if_neg (by omega),if_pos r2]
 rw[ht]
 refine aR.az mix Uo ao ?_
 rw[Yu]
 by_cases h1:e.op=1
 rotate_left
 ·have cH:(e.op==1)=false:=by simpa using h1
  exact Wg
 have cH:(e.op==1)=true:=by simpa using h1
 rw[cH,Bool.true_and]
 by_cases h2:f.kids.length=0
 rotate_left
 ·have kQ:((f.kids.length:Int)==0)=false:=by rw[beq_eq_false_iff_ne];omega
  have mK:(f.kids.length==0)=false:=by simpa using h2
  rw[mK,Bool.false_and,bI]
  exact Wm
 have kQ:((f.kids.length:Int)==0)=true:=by rw[beq_iff_eq];omega
 have mK:(f.kids.length==0)=true:=by simpa using h2
 obtain⟨v0,v1⟩:=he.var h1
 obtain⟨x,hx⟩:=aq (l:=env) (k:=e.n.toNat) ah
 have Tk:=hv.all x (List.mem_of_getElem? hx)
 rw[hx,Option.getD_some,mK,Bool.true_and]
 refine Ej cH kQ hx v0 ?_
 refine aw (Nc f.val hf.val.1.1 hf.val.1.2 x Tk.1 Tk.2) rfl ?_
 cases g:Eh f.val x with
 |false=>
  rw[bI]
  refine dc cH ?_
  exact J0
 |true=>
  rw[eQ]
  refine dc cH ?_
  refine aw cp rfl ?_
  exact zw9
theorem Rb{p:Pg}{f:Pf}(hf:ph p.sig f){env:List Tm}{e:Tm}(he:e.fits)(r3:f.bG=3):
 aR Tryz.prog 170 [wY p env,e.d,f.d] (xA (bd p f env e)):=by
 have VA:=hf.len
 have hsy:aU f.val e=aU e f.val:=by rw[Bool.eq_iff_iff,bY,bY];exact eq_comm
 have ht:bd p f env e=(e.op==2&&(f.kids.length==0&&aU e f.val)):=by rw[fi,od,if_neg (by omega),if_neg (by omega),if_pos r3,hsy]
 rw[ht]
 refine aR.az mix Up ao ?_
 rw[Yv]
 by_cases h1:e.op=2
 rotate_left
 ·have cH:(e.op==2)=false:=by simpa using h1
  exact Wo
 have cH:(e.op==2)=true:=by simpa using h1
 rw[cH,Bool.true_and]
 by_cases h2:f.kids.length=0
 rotate_left
 ·have kQ:((f.kids.length:Int)==0)=false:=by rw[beq_eq_false_iff_ne];omega
  have mK:(f.kids.length==0)=false:=by simpa using h2
  rw[mK,Bool.false_and,bI]
  refine kS cH kQ ?_
  exact zO
 have kQ:((f.kids.length:Int)==0)=true:=by rw[beq_iff_eq];omega
 have mK:(f.kids.length==0)=true:=by simpa using h2
 rw[mK,Bool.true_and]
 refine kS cH kQ ?_
 refine ai (cL e he f.val hf.val.1.1) rfl ?_
 cases g:aU e f.val with
 |false=>
  rw[bI]
  exact abO
 |true=>
  rw[eQ]
  refine dc cH ?_
  exact RN
theorem lu{p:Pg}{l:List Pf}{i:Nat}{x:Pf}(h:l[i]? =some x):pn (l.map (bd p)) i=bd p x:=KH
theorem wJ{p:Pg}{f:Pf}(hf:ph p.sig f)(ih:∀k∈f.kids,Bx p k){env:List Tm}(hv:dP p.sig env){e:Tm}(he:cW p.sig env.length e)(i:Nat)(hi:i<2):
 aR Tryz.prog 224 [wY p env,e.d,f.d, .i i] (xA (e.op==7&&(f.kids.length==1&&aU (bu f.kids 0) f.val&&pn (f.kids.map (bd p)) 0 env (lH e i)))):=by
 have VA:=hf.len
 refine aR.az mix UW ao ?_
 rw[Y1]
 by_cases h1:e.op=7
 rotate_left
 ·have cH:(e.op==7)=false:=by simpa using h1
  exact Wg
 have cH:(e.op==7)=true:=by simpa using h1
 rw[cH,Bool.true_and]
 by_cases h2:f.kids.length=1
 rotate_left
 ·have kQ:((f.kids.length:Int)==1)=false:=by rw[beq_eq_false_iff_ne];omega
  have mK:(f.kids.length==1)=false:=by simpa using h2
  rw[mK,Bool.false_and,Bool.false_and,bI]
  exact Wm
 have kQ:((f.kids.length:Int)==1)=true:=by rw[beq_iff_eq];omega
 have mK:(f.kids.length==1)=true:=by simpa using h2
 have h3:=Bi he.node1 ah ah
 obtain⟨x,hx⟩:=aq (l:=f.kids) (k:=0) ah
 obtain⟨a,ha⟩:=aq (l:=e.kids) (k:=i) ah
 have cz:=List.mem_of_getElem? hx
 rw[bV hx,lu hx,mJ ha,mK,Bool.true_and]
 refine OV cH kQ hx ?_
 refine aw (cL _ (hf.kH cz).val.1.1 f.val hf.val.1.1) rfl ?_
 cases g:aU x.val f.val with
 |false=>
  rw[Bool.false_and,bI]
  refine OV cH kQ hx ?_
  exact J0
 |true=>
  rw[Bool.true_and]
  refine OV cH kQ hx ?_
  refine aw cp rfl ?_
  refine aS ?_
  refine aD bE ?_
  refine kS hx ha ?_
  have hc:=ih x cz env a hv (he.kH ah ah (List.mem_of_getElem? ha))
  cases g2:bd p x env a with
  |false=>
   exact Sb
  |true=>
   exact Sf
theorem Od{p:Pg}{f:Pf}(hf:ph p.sig f)(ih:∀k∈f.kids,Bx p k){env:List Tm}(hv:dP p.sig env){e:Tm}(he:cW p.sig env.length e)(r7:f.bG=7):
 aR Tryz.prog 174 [wY p env,e.d,f.d] (xA (bd p f env e)):=by
 have ht:bd p f env e=(e.op==7&&(f.kids.length==1&&aU (bu f.kids 0) f.val&&pn (f.kids.map (bd p)) 0 env (lH e 0))):=by rw[fi,od,if_neg (by omega),if_neg (by omega),if_neg (by omega),if_neg (by omega),if_neg (by omega),if_neg (by omega),if_pos r7]
 have hc:=wJ hf ih hv he 0 ah
 rw[<- ht]at hc
 refine aR.az mix Ut ao ?_
 rw[Yz]
 refine aS ?_
 cases g:bd p f env e with
 |false=>
  exact SV
 |true=>
  exact SU
theorem JH{p:Pg}{f:Pf}(hf:ph p.sig f)(ih:∀k∈f.kids,Bx p k){env:List Tm}(hv:dP p.sig env){e:Tm}(he:cW p.sig env.length e)(r8:f.bG=8):
 aR Tryz.prog 175 [wY p env,e.d,f.d] (xA (bd p f env e)):=by
 have ht:bd p f env e=(e.op==7&&(f.kids.length==1&&aU (bu f.kids 0) f.val&&pn (f.kids.map (bd p)) 0 env (lH e 1))):=by rw[fi,od,if_neg (by omega),if_neg (by omega),if_neg (by omega),if_neg (by omega),if_neg (by omega),if_neg (by omega),if_neg (by omega),if_pos r8]
 have hc:=wJ hf ih hv he 1 ah
 rw[<- ht]at hc
 refine aR.az mix Uu ao ?_
 rw[YA]
 refine aS ?_
 cases g:bd p f env e with
 |false=>
  exact SV
 |true=>
  exact SU
theorem FR(l:List Tm)(hl:l.length<=1000000)(o:Nat->ab)(nx:Nat)(hg:Good o nx)(K X:V->(Nat->ab)->Nat->Prop)
 (hK:∀v o' nx' id,(v= .br/\l=[])\/(v= .osl id 1/\o' id= .arr 1 31 3 (l.map Tm.d))->nx<=id->id<nx'->nx<=nx'->Good o' nx'->(∀j,j<nx->o' j=o j)->K v o' nx'):
 cK Tryz.prog 94 [.d (.sl (l.map Tm.d))] o nx K X:=by
 cases ik:l with
 |nil=>
  subst ik
  refine cK.az mix MI ao ?_
  rw[c94]
  have hu:Tryz.prog.underlying 28=some (.slice 31):=af
  have heq:∀O,rE Tryz.prog O 28 true (.d (.sl [])) .br=some .fq:=by
   intro O
   unfold rE
   rw[hu]
   rfl
  simp only[List.map_nil]
  refine Bz heq ?_
  simp only[List.isEmpty_nil,if_true]
  refine Bz heq ?_
  exact⟨hK _ _ _ nx (.inl ⟨rfl,rfl⟩) ah ah ah dB fun _ _=>rfl,hK _ _ _ (nx+3) (.inr ⟨rfl,ad _ _ _⟩) ah ah ah dB fun j hj=>by(repeat(first|rfl|rw[ad]|rw[ak _ _ _ _ (by omega)]))⟩
 |cons a r=>
  rw[<- ik]
  refine wF l (by rw[ik];simp) hl o nx K X (hK _ _ _ (nx+3) (.inr ⟨rfl,ad _ _ _⟩) ah ah ah dB fun j hj=>ak _ _ _ _ ah)
set_option maxHeartbeats 1000000 in
theorem Rc{p:Pg}{f:Pf}(hf:ph p.sig f)(ih:∀k∈f.kids,Bx p k){env:List Tm}(hv:dP p.sig env){e:Tm}(he:cW p.sig env.length e)(r9:f.bG=9):
 aR Tryz.prog 176 [wY p env,e.d,f.d] (xA (bd p f env e)):=by
 have VA:=hf.len
 have WA:=hv.len
 have ht:bd p f env e=(e.op==8&&(f.kids.length==2&&aU (bu f.kids 1) f.val&&pn (f.kids.map (bd p)) 0 env (lH e 0)&&pn (f.kids.map (bd p)) 1 (gA env e.n (bu f.kids 0)) (lH e 1))):=by
  rw[fi,od,if_neg (by omega),if_neg (by omega),if_neg (by omega),if_neg (by omega),if_neg (by omega),if_neg (by omega),if_neg (by omega),if_neg (by omega),if_pos r9]
 rw[ht]
 refine aR.az mix Uv ao ?_
 rw[YB]
 by_cases h1:e.op=8
 rotate_left
 ·have cH:(e.op==8)=false:=by simpa using h1
  exact Wg
 have cH:(e.op==8)=true:=by simpa using h1
 rw[cH,Bool.true_and]
 by_cases h2:f.kids.length=2
 rotate_left
 ·have kQ:((f.kids.length:Int)==2)=false:=by rw[beq_eq_false_iff_ne];omega
  have mK:(f.kids.length==2)=false:=by simpa using h2
  rw[mK,Bool.false_and,Bool.false_and,Bool.false_and,bI]
  exact Wm
 have kQ:((f.kids.length:Int)==2)=true:=by rw[beq_iff_eq];omega
 have mK:(f.kids.length==2)=true:=by simpa using h2
 have hn:=he.node1
 simp[bz,h1,cF]at hn
 obtain⟨x,hx⟩:=aq (l:=f.kids) (k:=0) ah
 obtain⟨y,hy⟩:=aq (l:=f.kids) (k:=1) ah
 obtain⟨a,ha⟩:=aq (l:=e.kids) (k:=0) ah
 obtain⟨b,hb⟩:=aq (l:=e.kids) (k:=1) ah
 have cz:=List.mem_of_getElem? hx
 have Fl:=List.mem_of_getElem? hy
 rw[bV hx,bV hy,lu hx,lu hy,mJ ha,mJ hb,mK,Bool.true_and]
 refine Ej cH kQ hx hy ?_
 refine aw (cL _ (hf.kH Fl).val.1.1 f.val hf.val.1.1) rfl ?_
 cases g:aU y.val f.val with
 |false=>
  rw[Bool.false_and,Bool.false_and,bI]
  refine Ej cH kQ hx hy ?_
  exact J0
 |true=>
 rw[Bool.true_and]
 refine Ej cH kQ hx hy ?_
 refine aw cp rfl ?_
 refine aS ?_
 refine aD bE ?_
 refine kS hx ha ?_
 have hc:=ih x cz env a hv (he.agY h1 ha)
 cases g2:bd p x env a with
 |false=>
  rw[g2,bI]at hc
  rw[Bool.false_and,bI]
  refine cZ hc cy ?_
  refine aS ?_
  refine dW ⟨bE, ?_⟩
  exact JY
 |true=>
 rw[g2,eQ]at hc
 rw[Bool.true_and]
 refine aw hc rfl ?_
 refine aS ?_
 refine aD bE ?_
 refine aS ?_
 refine c7 (FR env ah _ _ dB _ _ fun v o1 n1 id q1 q2 q3 q4 q5 q6=> ?_)
 refine aS ?_
 obtain⟨n,hn0⟩:∃n:Nat,e.n=n:=⟨e.n.toNat,ah⟩
 have Iy:n<=19:=ah
 have hgw:Fi o1 (fun j=>j=id) 31 3 (env.map Tm.d) v:=by
  rcases q1 with⟨a1,a2⟩|⟨a1,a2⟩
  ·exact .inl ⟨a1,by rw[a2];rfl,bE⟩
  ·exact .inr ⟨id,1,rfl,a1,a2⟩
 let m:=n+1 - env.length
 have hm:m=n+1 - env.length:=rfl
 refine aF (fun i:Nat=>⟨bp [.aa, .aa, .aa, .ptr 0 0, .ptr 1 0, .ptr 2 0, .osl 3 0],aK (wI p env e f) 3 (.arr 0 31 3 ((env++List.replicate i ez).map Tm.d)),4⟩)
  (fun i=>i<=m) (fun i=>m - i) 0 (Nat.zero_le _) ?_ ?_
 ·refine bJ.oP (fun j=>j=id) v 3 _ ah (lt3 (gC (y:= .row (HG p env)) VS dU (cn rfl mS)) (gC (y:= .row e.row) VS dU (cn rfl mS)) (gC (y:= .row f.row) VS dU (cn rfl mS))) (ad _ _ _) (by simpa using hgw) (fun j hj=>by unfold wI;(repeat(first|rfl|rw[ad]|rw[ak _ _ _ _ (by omega)]))) (fun j h h2=>ah) ?_
  exact ud
 rintro k hk
 replace hk:k<=m:=hk
 have e0:(env++List.replicate k ez).length=env.length+k:=ao
 refine kS e0 hn0 ?_
 refine aj (fun h2=> ?_) (fun h2=> ?_)
 ·simp at h2
  refine et e0 ?_
  refine aP wG ?_
  refine et e0 ?_
  refine au (k+1) ah ah (bJ.oP (fun j=>j=3) (.osl 3 1) 3 _ ah (lt3 (gC (y:= .row (HG p env)) dU dU (cn rfl mS)) (gC (y:= .row e.row) dU dU (cn rfl mS)) (gC (y:= .row f.row) dU dU (cn rfl mS))) (ad _ _ _) (.inr ⟨3,1,rfl,rfl,by(repeat(first|rfl|rw[ad]|rw[ak _ _ _ _ (by omega)]));rw[List.replicate_succ', <- List.append_assoc,List.map_append (l₂:=[ez])];rfl⟩) (fun j hj=>by unfold wI;(repeat(first|rfl|rw[ad]|rw[ak _ _ _ _ (by omega)]))) (fun j h h2=>ah) ?_)
  exact ud
 ·simp at h2
  have ZN:k=m:=ah
  obtain⟨z,hz⟩:=aq (l:=env++List.replicate k ez) (k:=n) ah
  obtain⟨zo,zn,zk⟩:=z
  simp+contextual (disch:=first|omega|simp only[go_sem,false_implies]) only[go_sem,wrap64,if_pos,List.length_map,e0,hn0,hx,hz,Tm.m9]
  have AF:(List.map Tm.d (env++List.replicate k ez)).set n x.val.d=(gA env e.n x.val).map Tm.d:=by
   rw[hn0,JD,List.map_set,ZN]
  rw[AF]
  refine aD bE ?_
  have hwo:dP p.sig (gA env e.n x.val):=NA hv ah (hf.kH cz).val.1
  have hwl:(gA env e.n x.val).length=max env.length (e.n.toNat+1):=zl _ _ _
  refine kS hy hb ?_
  refine ba (N5 p env (gA env e.n x.val)) ?_
  refine kS hy hb ?_
  have hc:=ih y Fl (gA env e.n x.val) b hwo (he.agZ h1 hb ah ah)
  cases g3:bd p y (gA env e.n x.val) b with
  |false=>
   rw[g3,bI]at hc
   rw[bI]
   refine cZ hc cy ?_
   refine aS ?_
   refine dW ⟨bE, ?_⟩
   exact JY
  |true=>
   rw[g3,eQ]at hc
   rw[eQ]
   refine aw hc rfl ?_
   exact zw9
theorem Oe(l:List Int)(x:Int)(hl:l.length<=1000):aR Tryz.prog 261 [.sl (l.map .i), .i x] (.ret [.i (match l.findIdx? (· ==x)with|some i=>(i:Int)|none=> -1)]):=by
 refine aR.az mix Vm ao ?_
 rw[Zq]
 refine gD ?_
 refine aF (fun k:Nat=>⟨bp [.d (.sl (l.map .i)), .d (.i x), .aa, .aa, .aa, .aa, .d (.sl (l.map .i)), .d (.i l.length), .d (.i k)],fun _=> .no,0⟩)
  (fun k=>k<=l.length/\∀j y,j<k->l[j]? =some y->(y==x)=false) (fun k=>l.length - k) 0 ⟨Nat.zero_le _,fun _ _ h=>absurd h ah⟩ (bJ.d0 _ ?_) (fun k hk=> ?_)
 ·exact cY
 refine gD ?_
 refine aj (fun h2=> ?_) (fun h2=> ?_)
 ·simp at h2
  obtain⟨y,hy⟩:=aq h2
  refine et hy ?_
  refine aj (fun h3=> ?_) (fun h3=> ?_)
  ·have sb:x=y:=by simpa using h3
   have:l.findIdx? (· ==x)=some k:=by
    rw[List.findIdx?_eq_some_iff_getElem]
    obtain⟨rI,e⟩:=List.getElem?_eq_some_iff.1 hy
    refine⟨rI,by rw[e];simp[sb],fun j hj=> ?_⟩
    have:=hk.2 j _ hj (List.getElem?_eq_getElem ah)
    simpa using this
   rw[this]
   exact gK
  ·refine aS ?_
   refine au (k+1) ⟨h2,fun j z hj hz=> ?_⟩ ah (bJ.d0 _ ?_)
   ·by_cases e:j=k
    ·subst e;rw[hy]at hz;injection hz with hz;subst hz
     rw[beq_eq_false_iff_ne];intro e;subst e;simp at h3
    ·exact hk.2 j z ah hz
   ·exact cY
 ·simp at h2
  have:l.findIdx? (· ==x)=none:=by
   rw[List.findIdx?_eq_none_iff]
   intro y hy
   obtain⟨j,hj,e⟩:=List.getElem_of_mem hy
   exact hk.2 j y ah (by rw[List.getElem?_eq_getElem hj,e])
  rw[this]
  exact gK
theorem Of(l:List Int)(x:Int)(hl:l.length<=1000):aR Tryz.prog 255 [.sl (l.map .i), .i x] (.ret [.bool (l.contains x)]):=by
 refine aR.az mix Vh ao ?_
 rw[Zl]
 refine aS ?_
 refine ai (Oe l x hl) rfl ?_
 refine aS ?_
 cases h:l.findIdx? (· ==x)with
 |some i=>
  have:l.contains x=true:=by
   rw[List.findIdx?_eq_some_iff_getElem]at h
   obtain⟨h1,h2,_⟩:=h
   have h2:l[i]=x:=by simpa using h2
   rw[List.contains_iff_mem, <- h2];exact List.getElem_mem h1
  rw[this]
  simp
 |none=>
  have:l.contains x=false:=by
   rw[List.findIdx?_eq_none_iff]at h
   rw[Bool.eq_false_iff];intro hc
   have:=h x (List.contains_iff_mem.1 hc)
   simp at this
  rw[this]
  simp
theorem Bj{α:Type}{l:List α}(h:l.length=2):∃a b,l=[a,b]:=by
 match l,h with
 |[a,b],_=>exact⟨a,b,rfl⟩
def twR(b:Bool)(x y:Tm):R:=if b=true then .ret [x.d,y.d]else .bP oj
theorem zD(x y:Tm):twR true x y= .ret [x.d,y.d]:=rfl
theorem F9(x y:Tm):twR false x y= .bP oj:=rfl
def mc(p:Pg)(ops:List Int)(f:Pf)(env:List Tm)(e:Tm):Bool:=ops.contains e.op&&(f.kids.length==2&&(pn (f.kids.map (bd p)) 0 env (lH e 0)&&pn (f.kids.map (bd p)) 1 env (lH e 1)))
theorem rA{p:Pg}{f:Pf}(hf:ph p.sig f)(ih:∀k∈f.kids,Bx p k){env:List Tm}(hv:dP p.sig env){e:Tm}(he:cW p.sig env.length e)(ops:List Int)(ho:ops.length<=1000)(ho2:∀o∈ops,9<=o/\o<=15):
 aR Tryz.prog 226 [wY p env,e.d,f.d, .sl (ops.map .i)] (twR (mc p ops f env e) (bu f.kids 0) (bu f.kids 1)):=by
 have VA:=hf.len
 have iM:=((Tm.aH e).1 he.fits).1
 refine aR.az mix UY ao ?_
 rw[Y3]
 refine aS ?_
 refine ai (Of ops e.op ho) rfl ?_
 unfold mc
 cases h1:ops.contains e.op with
 |false=>
  rw[Bool.false_and,F9]
  exact Wi
 |true=>
 have fl:=ho2 e.op (List.contains_iff_mem.1 h1)
 have he2:=Bi he.node1 ah ah
 rw[Bool.true_and]
 refine aS ?_
 refine ai cp rfl ?_
 refine aS ?_
 have hc:=rz f.kids e.kids ah iM hv ih (fun y hy=>he.kH ah ah hy)
 rw[he2]at hc
 by_cases h2:f.kids.length=2
 rotate_left
 ·have kQ:(f.kids.length==2)=false:=by simpa using h2
  rw[kQ,Bool.false_and,bI]at hc
  rw[kQ,Bool.false_and,F9]
  exact abG
 have kQ:(f.kids.length==2)=true:=by simpa using h2
 obtain⟨a,b,Z0⟩:=Bj he2
 obtain⟨x,y,hxy⟩:=Bj h2
 have hx:f.kids[0]? =some x:=by rw[hxy];rfl
 have hy:f.kids[1]? =some y:=by rw[hxy];rfl
 have ha:e.kids[0]? =some a:=by rw[Z0];rfl
 have hb:e.kids[1]? =some b:=by rw[Z0];rfl
 have hz:((f.kids.zip e.kids).all fun x=>bd p x.1 env x.2)=(bd p x env a&&bd p y env b):=by rw[hxy,Z0];simp
 rw[kQ,Bool.true_and,hz]at hc
 rw[kQ,Bool.true_and,lu hx,lu hy,mJ ha,mJ hb,bV hx,bV hy]
 cases g:(bd p x env a&&bd p y env b)with
 |false=>
  rw[g,bI]at hc
  rw[F9]
  exact abG
 |true=>
  rw[g,eQ]at hc
  rw[zD]
  refine ai hc rfl ?_
  refine kS hx hy ?_
  exact V7
theorem rB{p:Pg}{f:Pf}{env:List Tm}{e:Tm}(h:10<=f.bG/\f.bG<=14):bd p f env e=(f.kids.length==2&&xy f.bG e f.val (bu f.kids 0) (bu f.kids 1)&&(pn (f.kids.map (bd p)) 0 env (lH e 0)&&pn (f.kids.map (bd p)) 1 env (lH e 1))):=by
 rw[fi,od,if_neg (by omega),if_neg (by omega),if_neg (by omega),if_neg (by omega),if_neg (by omega),if_neg (by omega),if_neg (by omega),if_neg (by omega),if_neg (by omega),if_neg (by omega)]
theorem Og{p:Pg}{f:Pf}(hf:ph p.sig f)(ih:∀k∈f.kids,Bx p k){env:List Tm}(hv:dP p.sig env){e:Tm}(he:cW p.sig env.length e)(r:f.bG=10):
 aR Tryz.prog 177 [wY p env,e.d,f.d] (xA (bd p f env e)):=by
 have ht:bd p f env e=(mc p [9] f env e&&(aU (bu f.kids 0) (fQ true)&&aU (bu f.kids 1) f.val)):=by
  rw[rB (by omega),r]
  have:xy 10 e f.val (bu f.kids 0) (bu f.kids 1)=(e.op==9&&(aU (bu f.kids 0) (fQ true)&&aU (bu f.kids 1) f.val)):=rfl
  rw[this,mc,List.contains_cons,List.contains_nil,Bool.or_false]
  ac_rfl
 have hc:=rA hf ih hv he [9] bE bE
 rw[ht]
 refine aR.az mix Uw ao ?_
 rw[YC]
 refine aS ?_
 cases h1:mc p [9] f env e with
 |false=>
  exact K6
 |true=>
 rw[h1,zD]at hc
 have h2:f.kids.length=2:=by
  exact Kr
 obtain⟨x,hx⟩:=aq (l:=f.kids) (k:=0) ah
 obtain⟨y,hy⟩:=aq (l:=f.kids) (k:=1) ah
 have wV:=(hf.kH (List.mem_of_getElem? hx)).val
 have HH:=(hf.kH (List.mem_of_getElem? hy)).val
 rw[bV hx,bV hy]at hc
 rw[bV hx,bV hy,Bool.true_and]
 refine aP hc ?_
 refine aS ?_
 refine ba (kN true) ?_
 refine aS ?_
 refine aw (cL _ wV.1.1 _ (jr true)) rfl ?_
 cases g1:aU x.val (fQ true)with
 |false=>
  exact O8
 |true=>
 rw[Bool.true_and]
 refine aS ?_
 refine aw (cL _ HH.1.1 _ hf.val.1.1) rfl ?_
 cases g2:aU y.val f.val with
 |false=>
  exact K1
 |true=>
 exact K4
set_option maxHeartbeats 1000000 in
theorem Oh{p:Pg}{f:Pf}(hf:ph p.sig f)(ih:∀k∈f.kids,Bx p k){env:List Tm}(hv:dP p.sig env){e:Tm}(he:cW p.sig env.length e)(r:f.bG=11):
 aR Tryz.prog 178 [wY p env,e.d,f.d] (xA (bd p f env e)):=by
 have ht:bd p f env e=(mc p [10] f env e&&(aU (bu f.kids 0) (fQ true)&&aU (bu f.kids 1) (fQ true)&&aU f.val (fQ true))):=by
  rw[rB (by omega),r]
  have:xy 11 e f.val (bu f.kids 0) (bu f.kids 1)=(e.op==10&&(aU (bu f.kids 0) (fQ true)&&aU (bu f.kids 1) (fQ true)&&aU f.val (fQ true))):=rfl
  rw[this,mc]
  simp only[List.contains_cons,List.contains_nil,Bool.or_false]
  try rw[Bool.or_assoc]
  ac_rfl
 have hc:=rA hf ih hv he [10] bE bE
 rw[ht]
 refine aR.az mix Ux ao ?_
 rw[YD]
 refine aS ?_
 cases h1:mc p [10] f env e with
 |false=>
  exact K6
 |true=>
 rw[h1,zD]at hc
 have h2:f.kids.length=2:=by
  exact Kr
 obtain⟨x,hx⟩:=aq (l:=f.kids) (k:=0) ah
 obtain⟨y,hy⟩:=aq (l:=f.kids) (k:=1) ah
 have wV:=(hf.kH (List.mem_of_getElem? hx)).val
 have HH:=(hf.kH (List.mem_of_getElem? hy)).val
 rw[bV hx,bV hy]at hc
 rw[bV hx,bV hy,Bool.true_and]
 refine aP hc ?_
 refine aS ?_
 refine ba (kN true) ?_
 refine aS ?_
 refine aw (cL _ wV.1.1 _ (jr true)) rfl ?_
 cases g1:aU x.val (fQ true)with
 |false=>
  exact RR
 |true=>
 rw[Bool.true_and]
 refine aS ?_
 refine ba (kN true) ?_
 refine aS ?_
 refine aw (cL _ HH.1.1 _ (jr true)) rfl ?_
 cases g2:aU y.val (fQ true)with
 |false=>
  exact O8
 |true=>
 rw[Bool.true_and]
 refine aS ?_
 refine ba (kN true) ?_
 refine aS ?_
 refine aw (cL _ hf.val.1.1 _ (jr true)) rfl ?_
 cases g3:aU f.val (fQ true)with
 |false=>
  exact K1
 |true=>
 exact K4
set_option maxHeartbeats 1000000 in
theorem JI{p:Pg}{f:Pf}(hf:ph p.sig f)(ih:∀k∈f.kids,Bx p k){env:List Tm}(hv:dP p.sig env){e:Tm}(he:cW p.sig env.length e)(r:f.bG=12):
 aR Tryz.prog 179 [wY p env,e.d,f.d] (xA (bd p f env e)):=by
 have ht:bd p f env e=(mc p [11] f env e&&(aU (bu f.kids 0) (bu f.kids 1)&&bS 16 (bu f.kids 0)&&aU f.val (fQ true))):=by
  rw[rB (by omega),r]
  have:xy 12 e f.val (bu f.kids 0) (bu f.kids 1)=(e.op==11&&(aU (bu f.kids 0) (bu f.kids 1)&&bS 16 (bu f.kids 0)&&aU f.val (fQ true))):=rfl
  rw[this,mc]
  simp only[List.contains_cons,List.contains_nil,Bool.or_false]
  try rw[Bool.or_assoc]
  ac_rfl
 have hc:=rA hf ih hv he [11] bE bE
 rw[ht]
 refine aR.az mix Uy ao ?_
 rw[YE]
 refine aS ?_
 cases h1:mc p [11] f env e with
 |false=>
  exact K6
 |true=>
 rw[h1,zD]at hc
 have h2:f.kids.length=2:=by
  exact Kr
 obtain⟨x,hx⟩:=aq (l:=f.kids) (k:=0) ah
 obtain⟨y,hy⟩:=aq (l:=f.kids) (k:=1) ah
 have wV:=(hf.kH (List.mem_of_getElem? hx)).val
 have HH:=(hf.kH (List.mem_of_getElem? hy)).val
 rw[bV hx,bV hy]at hc
 rw[bV hx,bV hy,Bool.true_and]
 refine aP hc ?_
 refine aS ?_
 refine aw (cL _ wV.1.1 _ HH.1.1) rfl ?_
 cases g1:aU x.val y.val with
 |false=>
  exact RR
 |true=>
 rw[Bool.true_and]
 refine aS ?_
 refine aw (qV _ wV.1.1 wV.1.2) rfl ?_
 have hk:decide (1<=Dm x.val)=bS 16 x.val:=by rw[Bool.eq_iff_iff,decide_eq_true_eq];exact(AX x.val wV.1.2).2.1
 cases g2:bS 16 x.val with
 |false=>
  rw[g2]at hk
  rw[Bool.false_and,bI]
  refine dc hk ?_
  exact J0
 |true=>
 rw[g2]at hk
 rw[Bool.true_and]
 refine dc hk ?_
 refine ba (kN true) ?_
 refine aS ?_
 refine aw (cL _ hf.val.1.1 _ (jr true)) rfl ?_
 cases g3:aU f.val (fQ true)with
 |false=>
  exact K1
 |true=>
 exact K4
set_option maxHeartbeats 1000000 in
theorem Oi{p:Pg}{f:Pf}(hf:ph p.sig f)(ih:∀k∈f.kids,Bx p k){env:List Tm}(hv:dP p.sig env){e:Tm}(he:cW p.sig env.length e)(r:f.bG=13):
 aR Tryz.prog 180 [wY p env,e.d,f.d] (xA (bd p f env e)):=by
 have ht:bd p f env e=(mc p [12] f env e&&((bS 16 (bu f.kids 0)&&bS 1 (bu f.kids 0))&&(bS 16 (bu f.kids 1)&&bS 1 (bu f.kids 1))&&aU f.val (fQ (aU (bu f.kids 0) (bu f.kids 1))))):=by
  rw[rB (by omega),r]
  have:xy 13 e f.val (bu f.kids 0) (bu f.kids 1)=(e.op==12&&((bS 16 (bu f.kids 0)&&bS 1 (bu f.kids 0))&&(bS 16 (bu f.kids 1)&&bS 1 (bu f.kids 1))&&aU f.val (fQ (aU (bu f.kids 0) (bu f.kids 1))))):=rfl
  rw[this,mc]
  simp only[List.contains_cons,List.contains_nil,Bool.or_false]
  try rw[Bool.or_assoc]
  ac_rfl
 have hc:=rA hf ih hv he [12] bE bE
 rw[ht]
 refine aR.az mix Uz ao ?_
 rw[YF]
 refine aS ?_
 cases h1:mc p [12] f env e with
 |false=>
  exact K6
 |true=>
 rw[h1,zD]at hc
 have h2:f.kids.length=2:=by
  exact Kr
 obtain⟨x,hx⟩:=aq (l:=f.kids) (k:=0) ah
 obtain⟨y,hy⟩:=aq (l:=f.kids) (k:=1) ah
 have wV:=(hf.kH (List.mem_of_getElem? hx)).val
 have HH:=(hf.kH (List.mem_of_getElem? hy)).val
 rw[bV hx,bV hy]at hc
 rw[bV hx,bV hy,Bool.true_and]
 refine aP hc ?_
 refine aS ?_
 have hg:∀z:Tm,Pn p.sig z->(Dm z==2)=(bS 16 z&&bS 1 z):=fun z hz=>by
  rw[Bool.eq_iff_iff,Bool.and_eq_true,beq_iff_eq];exact(AX z hz).2.2
 have OK:=hg _ wV.1.2
 have HD:=hg _ HH.1.2
 refine aw (qV _ wV.1.1 wV.1.2) rfl ?_
 cases g1:(bS 16 x.val&&bS 1 x.val)with
 |false=>
  rw[g1]at OK
  rw[Bool.false_and,Bool.false_and,bI]
  refine dc OK ?_
  exact J0
 |true=>
 rw[g1]at OK
 rw[Bool.true_and]
 refine dc OK ?_
 refine aw (qV _ HH.1.1 HH.1.2) rfl ?_
 cases g2:(bS 16 y.val&&bS 1 y.val)with
 |false=>
  rw[g2]at HD
  rw[Bool.false_and,bI]
  refine dc HD ?_
  exact J0
 |true=>
 rw[g2]at HD
 rw[Bool.true_and]
 refine dc HD ?_
 refine aw (cL _ wV.1.1 _ HH.1.1) rfl ?_
 refine aS ?_
 refine ba (kN _) ?_
 refine aS ?_
 refine aw (cL _ hf.val.1.1 _ (jr _)) rfl ?_
 cases g3:aU f.val (fQ (aU x.val y.val))with
 |false=>
  exact K1
 |true=>
 exact K4
set_option maxHeartbeats 1000000 in
theorem Re{p:Pg}{f:Pf}(hf:ph p.sig f)(ih:∀k∈f.kids,Bx p k){env:List Tm}(hv:dP p.sig env){e:Tm}(he:cW p.sig env.length e)(r:f.bG=14):
 aR Tryz.prog 181 [wY p env,e.d,f.d] (xA (bd p f env e)):=by
 have ht:bd p f env e=(mc p [13,14,15] f env e&&((bu f.kids 0).op==2&&(bu f.kids 1).op==2&&aU f.val (wu e.op (bu f.kids 0).n (bu f.kids 1).n))):=by
  rw[rB (by omega),r]
  have:xy 14 e f.val (bu f.kids 0) (bu f.kids 1)=((e.op==13||e.op==14||e.op==15)&&((bu f.kids 0).op==2&&(bu f.kids 1).op==2&&aU f.val (wu e.op (bu f.kids 0).n (bu f.kids 1).n))):=rfl
  rw[this,mc]
  simp only[List.contains_cons,List.contains_nil,Bool.or_false]
  try rw[Bool.or_assoc]
  ac_rfl
 have hc:=rA hf ih hv he [13,14,15] bE bE
 rw[ht]
 refine aR.az mix UA ao ?_
 rw[YG]
 refine aS ?_
 cases h1:mc p [13,14,15] f env e with
 |false=>
  exact K6
 |true=>
 rw[h1,zD]at hc
 have h2:f.kids.length=2:=by
  exact Kr
 obtain⟨x,hx⟩:=aq (l:=f.kids) (k:=0) ah
 obtain⟨y,hy⟩:=aq (l:=f.kids) (k:=1) ah
 have wV:=(hf.kH (List.mem_of_getElem? hx)).val
 have HH:=(hf.kH (List.mem_of_getElem? hy)).val
 rw[bV hx,bV hy]at hc
 rw[bV hx,bV hy,Bool.true_and]
 refine aP hc ?_
 refine aS ?_
 have fl:e.op=13\/e.op=14\/e.op=15:=by
  unfold mc at h1
  simp only[Bool.and_eq_true,List.contains_cons,List.contains_nil,Bool.or_eq_true,beq_iff_eq]at h1
  rcases h1.1 with h|h|h|h
  ·exact .inl h
  ·exact .inr (.inl h)
  ·exact .inr (.inr h)
  ·cases h
 by_cases g1:x.val.op=2
 rotate_left
 ·have Fx:(x.val.op==2)=false:=by simpa using g1
  rw[Fx,Bool.false_and,Bool.false_and,bI]
  refine dc Fx ?_
  exact zO
 have Fx:(x.val.op==2)=true:=by simpa using g1
 rw[Fx,Bool.true_and]
 by_cases g2:y.val.op=2
 rotate_left
 ·have J5:(y.val.op==2)=false:=by simpa using g2
  rw[J5,Bool.false_and,bI]
  refine xB Fx J5 ?_
  exact zO
 have J5:(y.val.op==2)=true:=by simpa using g2
 rw[J5,Bool.true_and]
 obtain⟨x0,x1⟩:=Ob wV.1.2 g1
 obtain⟨y0,y1⟩:=Ob HH.1.2 g2
 refine xB Fx J5 ?_
 refine ai cp rfl ?_
 refine aS ?_
 have hq:=cL _ hf.val.1.1 _ (JE e.op x.val.n y.val.n)
 rcases fl with h3|h3|h3
 ·have Vz:(e.op==15)=false:=by rw[h3];rfl
  have h14:(e.op==14)=false:=by rw[h3];rfl
  rw[FP,if_neg (by omega),if_neg (by omega)]at hq
  refine xB h14 Vz ?_
  refine ai hq rfl ?_
  cases g3:aU f.val (wu e.op x.val.n y.val.n)with
  |false=>
   exact Lg
  |true=>
   exact Lf
 ·have Vz:(e.op==15)=false:=by rw[h3];rfl
  have h14:(e.op==14)=true:=by rw[h3];rfl
  rw[FP,if_neg (by omega),if_pos h3]at hq
  refine xB h14 Vz ?_
  refine ai hq rfl ?_
  cases g3:aU f.val (wu e.op x.val.n y.val.n)with
  |false=>
   exact Lg
  |true=>
   exact Lf
 ·have Vz:(e.op==15)=true:=by rw[h3];rfl
  rw[FP,if_pos h3]at hq
  refine dc Vz ?_
  refine ba (kN _) ?_
  refine aS ?_
  refine aw hq rfl ?_
  cases g3:aU f.val (wu e.op x.val.n y.val.n)with
  |false=>
   exact K1
  |true=>
   exact K4
theorem Z1{p:Pg}{l:List Pf}{i:Nat}{x:Pf}(h:l[i]? =some x):pn (l.map (bd p)) i=bd p x:=KH
theorem Rf(p:Pg)(l:List Pf)(env es:List Tm):lI (l.map (bd p)) env es=(l.length==es.length&&(l.zip es).all fun x=>bd p x.1 env x.2):=by
 unfold lI
 rw[List.length_map,List.zip_map_left,List.all_map]
 rfl
theorem Rg{α β:Type}{l:List α}{m:List β}{k:Nat}{x:α}{y:β}(hx:l[k]? =some x)(hy:m[k]? =some y):(l.zip m)[k]? =some (x,y):=by rw[List.getElem?_zip_eq_some];exact⟨hx,hy⟩
theorem wK:∀ {l:List kB} {b B:List (List UInt8)},cm l b=some B->∀x∈l,0<=x.args/\x.args<=4
 |[],_,_,_=>ao
 |y::l,b,B,h=>by
  simp only[cm]at h
  split at h
  ·cases h
  ·split at h
   ·cases h
   ·rename_i h2
    intro x hx
    rcases List.mem_cons.1 hx with e|e
    ·subst e
     simp[cF]at h2
     exact⟨h2.2.1,h2.2.2⟩
    ·exact wK h x e
theorem D0{s:aO}(h:kE s=true):∀x∈s.bR,0<=x.args/\x.args<=4:=by
 unfold kE at h
 split at h
 ·cases h
 ·split at h
  ·split at h
   ·cases h
   ·split at h
    ·cases h
    ·rename_i l _
     cases h2:cm s.bR l with
     |none=>rw[h2]at h;cases h
     |some B=>exact wK h2
  ·cases h
theorem kK.sg {p:Pg}(h:kK p):kE p.sig=true:=by
 have:=h.is;simp only[gk,Bool.and_eq_true]at this;exact this.1.1
theorem Rh{s:aO}{g:Tm}(h:Pn s g)(h5:g.op=5):0<=g.n/\∃x,s.bR[g.n.toNat]? =some x/\(g.kids.length:Int)<x.args:=by
 have:=(pS.1 h).1
 simp[mb,h5]at this
 obtain⟨h1,h2⟩:=this
 obtain⟨h0,x,hx⟩:=qc h1
 rw[iQ hx]at h2
 exact⟨h0,x,hx,h2⟩
theorem Oj{s:aO}{f:Int}{x:kB}(h0:0<=f)(hx:s.bR[f.toNat]? =some x)(a0:0<=x.args)(a4:x.args<=4){n:Nat}(hn:(n:Int)=x.args):cW s n (ri s f):=by
 have e:ri s f= .mk 4 f (mR x.args.toNat):=by unfold ri;rw[iQ hx];rfl
 have hl:f.toNat<s.bR.length:=(List.getElem?_eq_some_iff.1 hx).1
 have hm:∀k∈mR x.args.toNat,∃i:Nat,(i:Int)<x.args/\k= .mk 1 (i:Int) []:=fun k hk=>by
  obtain⟨i,hi,rfl⟩:=List.mem_map.1 hk
  have:=List.mem_range.1 hi
  exact⟨i,ah,rfl⟩
 rw[e]
 refine⟨?_, ?_,fun v hv=> ?_⟩
 ·rw[Tm.aH]
  refine⟨by simp[Tm.kids,mR];omega,fun k hk=> ?_⟩
  obtain⟨i,_,rfl⟩:=hm k hk
  simp[Tm.fits,Tm.kC]
 ·rw[dG,Bool.and_eq_true,List.all_eq_true]
  refine⟨?_,fun k hk=> ?_⟩
  ·have e1:(mR x.args.toNat).length=x.args.toNat:=by simp[mR]
   simp[bz,Tm.op,Tm.kids,Tm.n,cF,e1,iQ hx,show f<=(s.bR.length:Int) - 1 by omega,h0,Int.toNat_of_nonneg a0]
  ·obtain⟨i,hi,rfl⟩:=hm k hk
   rw[dG]
   simp[bz,Tm.op,Tm.kids,Tm.n,cF,show(i:Int)<=19 by omega]
 ·rw[gU,if_neg (by simp[Tm.op])]at hv
  have key:∀ (l:List Tm) (j:Nat),(∀k∈l,∃i:Nat,(i:Int)<x.args/\k= .mk 1 (i:Int) [])->im v 4 f l j=true->0<=v/\v<x.args:=by
   intro l
   induction l with
   |nil=>intro j _ h;simp[im]at h
   |cons k l ih=>
    intro j hk h
    simp only[im,Bool.or_eq_true,Bool.and_eq_true]at h
    rcases h with⟨h,_⟩|h
    ·obtain⟨i,hi,rfl⟩:=hk k ao
     have h:(i:Int)=v:=by simpa[gU,Tm.n,Tm.op]using h
     omega
    ·exact ih _ (fun y hy=>hk y sV) h
  have:=key _ _ hm hv
  omega
theorem Ol{s:aO}{t:Tm}(h:eL s t=true):∀x∈iP t,bz s x=true:=by
 have key:∀t:Tm,eL s t=true->∀x∈iP t,bz s x=true:=by
  refine Tm.bW fun t ih h x hx=> ?_
  rw[dG,Bool.and_eq_true,List.all_eq_true]at h
  rw[nY]at hx
  rcases List.mem_cons.1 hx with e|e
  ·rw[e];exact h.1
  ·exact SR
 exact key t h
theorem sM.fill {s:aO}{r:Rl}(h:sM s r){q:Tm}(hq:q∈r.bg){n:Nat}(hn:(n:Int)=r.vars):wE n q:=by
 obtain⟨h1,_,_,h4⟩:=h.bg q hq
 intro x hx ho
 have a:=Ol (jm h1) x hx
 simp[bz,ho,cF]at a
 have b:=(pV r.vars q).1 h4 x hx (.inl ho)
 omega
def HI(ks:List Pf)(ps b:List Tm)(m:Nat):Bool:=aU (.mk 0 0 ((ks.take m).map Pf.val)) (.mk 0 0 (ps.map (fU b)))
theorem Om(ks:List Pf)(ps b:List Tm)(m:Nat)(hk:m<=ks.length)(hp:ps.length=m):HI ks ps b m=((ks.take m).zip ps).all fun x=>aU x.1.val (fU b x.2):=by
 subst hp
 unfold HI
 rw[Bool.eq_iff_iff,bY,List.all_eq_true]
 have e:(Tm.mk 0 0 ((ks.take ps.length).map Pf.val)= .mk 0 0 (ps.map (fU b)))↔(ks.take ps.length).map Pf.val=ps.map (fU b):=⟨fun h=>by injection h,fun h=>by rw[h]⟩
 rw[e]
 have key:∀ (a:List Pf) (c:List Tm),a.length=c.length->(a.map Pf.val=c.map (fU b)↔∀x∈a.zip c,aU x.1.val (fU b x.2)=true):=by
  intro a
  induction a with
  |nil=>intro c h;have:c=[]:=List.length_eq_zero_iff.1 h.symm;subst this;simp
  |cons x a ih=>
   intro c h
   cases c with
   |nil=>simp at h
   |cons y c=>
    simp only[List.map_cons,List.cons.injEq,List.zip_cons_cons,List.mem_cons,forall_eq_or_imp,bY]
    rw[ih c (by simpa using h)]
    simp only[bY]
 exact key _ _ (by rw[List.length_take];omega)
theorem JJ{l:List Tm}(hl:∀t∈l,t.fits):∀t:Tm,t.fits->(fU l t).fits:=by
 refine Tm.bW fun t ih hf=> ?_
 have dR:=(Tm.aH _).1 hf
 rw[n9]
 split
 ·cases h:l[t.n.toNat]? with
  |none=>exact(Bc ⟨[],[]⟩).1
  |some x=>exact hl x (List.mem_of_getElem? h)
 ·rw[Tm.aH]
  refine⟨by simp only[Tm.kids,List.length_map];exact dR.1,fun k hk=> ?_⟩
  simp only[Tm.kids]at hk
  obtain⟨y,hy,rfl⟩:=List.mem_map.1 hk
  exact ih y hy (dR.2 y hy)
def pj(p:Pg)(f:Pf)(env:List Tm)(e:Tm):Bool:=decide (0<=f.num)&&match p.rules[f.num.toNat]? with
    |none=>false
    |some ru=>(ru.fn==e.n&&(f.binds.length:Int)==ru.vars&&f.kids.length==e.kids.length+1&&f.val.op !=16&&aU (bu f.kids e.kids.length) f.val)&&
     (HI f.kids ru.bg f.binds e.kids.length&&lI ((f.kids.map (bd p)).take e.kids.length) env e.kids&&pn (f.kids.map (bd p)) e.kids.length (mZ ru f.binds) ru.rhs)
theorem prvB_6(p:Pg)(f:Pf)(env:List Tm)(e:Tm)(h:f.bG=6):bd p f env e=(e.op==4&&pj p f env e):=by
 rw[fi,od,if_neg (by omega),if_neg (by omega),if_neg (by omega),if_neg (by omega),if_neg (by omega),if_pos h,Bool.and_assoc]
 rfl
set_option maxHeartbeats 1000000 in
theorem Ri{p:Pg}(hp:kK p)(hw:p.Fw){f:Pf}(hf:ph p.sig f)(ih:∀k∈f.kids,Bx p k){env:List Tm}(hv:dP p.sig env){e:Tm}(he:cW p.sig env.length e)(r6:f.bG=6):
 aR Tryz.prog 173 [wY p env,e.d,f.d] (xA (bd p f env e)):=by
 have VA:=hf.len
 have xY:=hw.len
 have iM:=((Tm.aH e).1 he.fits).1
 have xW:=hf.env.len
 rw[prvB_6 p f env e r6]
 refine aR.az mix Us ao ?_
 rw[Yy]
 by_cases fl:e.op=4
 rotate_left
 ·have cH:(e.op==4)=false:=by simpa using fl
  exact Wo
 have cH:(e.op==4)=true:=by simpa using fl
 rw[cH,Bool.true_and]
 refine et cH ?_
 refine ai (iS _ _ _) rfl ?_
 cases f1:cF f.num 0 ((p.rules.length:Int) - 1)with
 |false=>
  have hc:pj p f env e=false:=by
   simp only[cF,Bool.and_eq_false_iff,decide_eq_false_iff_not]at f1
   unfold pj
   by_cases h:0<=f.num
   ·rw[List.getElem?_eq_none (by omega:p.rules.length<=f.num.toNat)];simp
   ·rw[decide_eq_false h];rfl
  rw[hc,bI]
  refine gD ?_
  exact zO
 |true=>
 have QK:0<=f.num/\f.num<=(p.rules.length:Int) - 1:=by simpa[cF]using f1
 obtain⟨n0,n1⟩:=QK
 obtain⟨ru,hru⟩:=aq (l:=p.rules) (k:=f.num.toNat) ah
 have hrm:=List.mem_of_getElem? hru
 have ho:=hp.rl hrm
 obtain⟨hfw,hrf,hrz⟩:=hw.all ru hrm
 have hcb:pj p f env e=((ru.fn==e.n&&(f.binds.length:Int)==ru.vars&&f.kids.length==e.kids.length+1&&f.val.op !=16&&aU (bu f.kids e.kids.length) f.val)&&
  (HI f.kids ru.bg f.binds e.kids.length&&lI ((f.kids.map (bd p)).take e.kids.length) env e.kids&&pn (f.kids.map (bd p)) e.kids.length (mZ ru f.binds) ru.rhs)):=by
  unfold pj;rw[hru,decide_eq_true n0];rfl
 refine gD ?_
 refine ai cp rfl ?_
 refine kS hru n0 ?_
 refine aD bE ?_
 by_cases f2:ru.fn=e.n
 rotate_left
 ·have Ei:(ru.fn==e.n)=false:=by simpa using f2
  have e0:pj p f env e=false:=by rw[hcb];simp[f2]
  rw[e0,bI]
  refine et Ei ?_
  exact J0
 have Ei:(ru.fn==e.n)=true:=by simpa using f2
 by_cases f3:(f.binds.length:Int)=ru.vars
 rotate_left
 ·have Hi:((f.binds.length:Int)==ru.vars)=false:=by simpa using f3
  have e0:pj p f env e=false:=by rw[hcb];simp[f3]
  rw[e0,bI]
  refine kS Ei Hi ?_
  exact J0
 have Hi:((f.binds.length:Int)==ru.vars)=true:=by simpa using f3
 obtain⟨fx,hfx,Er⟩:=ho.fn
 have ahr:=D0 hp.sg fx (List.mem_of_getElem? hfx)
 have Iy:=he.node1
 have J3:ru.bg.length=e.kids.length:=by
  simp[bz,fl]at Iy
  have h2:=Iy.2
  rw[dN, <- f2,hfx]at h2
  dsimp only at h2
  omega
 by_cases f4:f.kids.length=e.kids.length+1
 rotate_left
 ·have QL:((f.kids.length:Int)==(e.kids.length:Int)+1)=false:=by rw[beq_eq_false_iff_ne];omega
  have aeN:(f.kids.length==e.kids.length+1)=false:=by simpa using f4
  have e0:pj p f env e=false:=by rw[hcb];simp[f4]
  rw[e0,bI]
  refine OV Ei Hi QL ?_
  exact J0
 have QL:((f.kids.length:Int)==(e.kids.length:Int)+1)=true:=by rw[beq_iff_eq];omega
 have aeN:(f.kids.length==e.kids.length+1)=true:=by simpa using f4
 by_cases f5:f.val.op=16
 ·have Vu:(f.val.op !=16)=false:=by simpa using f5
  have e0:pj p f env e=false:=by rw[hcb];simp[f5]
  rw[e0,bI]
  refine Ej Ei Hi QL Vu ?_
  exact J0
 have Vu:(f.val.op !=16)=true:=by simpa using f5
 obtain⟨z,hz⟩:=aq (l:=f.kids) (k:=e.kids.length) ah
 have hzm:=List.mem_of_getElem? hz
 have e1:pj p f env e=(aU z.val f.val&&((((f.kids.take e.kids.length).zip ru.bg).all fun x=>aU x.1.val (fU f.binds x.2))&&((f.kids.take e.kids.length).length==e.kids.length&&((f.kids.take e.kids.length).zip e.kids).all fun x=>bd p x.1 env x.2)&&bd p z (mZ ru f.binds) ru.rhs)):=by
  rw[hcb,Ei,Hi,aeN,Vu,bV hz,Z1 hz,Om _ _ _ _ (by omega) J3, <- List.map_take,Rf]
  simp only[Bool.true_and]
 rw[e1]
 refine VJ Ei Hi QL Vu hz ?_
 refine aw (cL _ (hf.kH hzm).val.1.1 _ hf.val.1.1) rfl ?_
 cases f6:aU z.val f.val with
 |false=>
  exact O8
 |true=>
 rw[Bool.true_and]
 refine aS ?_
 refine aw cp rfl ?_
 refine aS ?_
 refine aD bE ?_
 refine gD ?_
 have sS:(f.kids.take e.kids.length).length=e.kids.length:=by rw[List.length_take];omega
 have iN:∀ {k:Nat} {x:Pf},k<e.kids.length->f.kids[k]? =some x->(f.kids.take e.kids.length)[k]? =some x:=fun h1 h2=>by rw[List.getElem?_take_of_lt h1];exact h2
 refine aF (fun k:Nat=>⟨bp [.aa, .aa, .aa, .ptr 0 0, .ptr 1 0, .ptr 2 0, .ptr 27 0, .d (.i e.kids.length), .aa, .aa, .aa, .aa, .aa, .aa, .aa, .aa, .aa, .aa, .aa, .aa, .aa, .aa, .aa, .aa, .aa, .aa, .aa, .aa, .aa, .aa, .aa, .aa, .aa, .aa, .aa, .aa, .aa, .aa, .aa, .aa, .aa, .aa, .aa, .aa, .aa, .aa, .aa, .aa, .aa, .aa, .aa, .aa, .aa, .aa, .aa, .aa, .aa, .aa, .aa, .aa, .aa, .aa, .aa, .aa, .aa, .aa, .aa, .aa, .aa, .aa, .aa, .aa, .aa, .aa, .d (.sl (ru.bg.map Tm.d)), .d (.i ru.bg.length), .d (.i k)],aK (wI p env e f) 27 (.row ru.row),73⟩)
  (fun k=>k<=ru.bg.length/\(((f.kids.take e.kids.length).zip ru.bg).take k).all (fun x=>aU x.1.val (fU f.binds x.2))=true) (fun k=>ru.bg.length - k) 0 ⟨Nat.zero_le _,ao⟩ (bJ.bX _ ah ah dB (fun j hj=>zK) ?_) (fun k hk=> ?_)
 ·exact cY
 refine gD ?_
 refine aj (fun h2=> ?_) (fun h2=> ?_)
 ·simp at h2
  obtain⟨x,hx⟩:=aq (l:=f.kids) (k:=k) ah
  obtain⟨q,hq⟩:=aq (l:=ru.bg) (k:=k) ah
  have cz:=List.mem_of_getElem? hx
  have hqm:=List.mem_of_getElem? hq
  have hz1:=Rg (iN ah hx) hq
  have hqf:=hfw.all q hqm
  have hff:(fU f.binds q).fits:=JJ (fun t ht=>(hf.env.all t ht).1) q hqf.1
  refine kS hx hq ?_
  refine ba (N4 f.binds ah q hqf.1 ah (ho.fill hqm f3)) ?_
  refine kS hx hq ?_
  refine aw (cL _ (hf.kH cz).val.1.1 _ hff) rfl ?_
  cases g1:aU x.val (fU f.binds q)with
  |false=>
   rw[b7 hz1 g1,Bool.false_and,Bool.false_and,bI]
   refine aS ?_
   exact J0
  |true=>
   refine aS ?_
   refine aw cp rfl ?_
   refine aS ?_
   refine aD bE ?_
   refine aS ?_
   refine au (k+1) ⟨h2,cT hz1 hk.2 g1⟩ ah (bJ.bX _ ah ah dB (fun j hj=>zK) ?_)
   exact cY
 ·simp at h2
  have aeA:min e.kids.length f.kids.length=e.kids.length:=ah
  have BM:=rz (f.kids.take e.kids.length) e.kids ah iM hv (fun k hk=>ih k (List.mem_of_mem_take hk)) (fun y hy=>he.kH ah ah hy)
  rw[List.map_take]at BM
  rw[cJ hk.2 (by rw[List.length_zip];omega),Bool.true_and]
  refine gD ?_
  cases g1:((f.kids.take e.kids.length).length==e.kids.length&&((f.kids.take e.kids.length).zip e.kids).all fun x=>bd p x.1 env x.2)with
  |false=>
   exact RW
  |true=>
  rw[g1,eQ]at BM
  rw[Bool.true_and]
  refine aw BM rfl ?_
  refine aS ?_
  refine aD bE ?_
  refine gD ?_
  refine ba (JC ru ho hrf f.binds ah f3) ?_
  refine gD ?_
  refine ba (N5 p env (mZ ru f.binds)) ?_
  refine et hz ?_
  have hc:=ih z hzm (mZ ru f.binds) ru.rhs (QT hf.env) (ho.ZO hrf (by rw[DJ];exact f3))
  cases g2:bd p z (mZ ru f.binds) ru.rhs with
  |false=>
   exact Sb
  |true=>
  exact Sf
theorem JK{α β:Type}{l:List α}{m:List β}{x y:α}{a b:β}(hx:l[0]? =some x)(hy:l[1]? =some y)(hm:m=[a,b])(h:(α×β)->Bool):((l.take 2).zip m).all h=(h (x,a)&&h (y,b)):=by
 match l,hx,hy with
 |x'::y'::r,hx,hy=>
  simp at hx hy
  subst hx;subst hy;subst hm
  simp
theorem FT(l:List Tm)(hl:l.length<=1000000)(o:Nat->ab)(fr:Nat):yq Tryz.prog 94 [.d (.sl (l.map Tm.d))] [] o fr (.osl fr 0) [(fr, .arr 0 31 3 (l.map Tm.d))]:=by
 refine yq.Fb (ds:=[.sl (l.map Tm.d)]) ?_
 refine cK.az mix MI ao ?_
 rw[c94]
 have hu:Tryz.prog.underlying 28=some (.slice 31):=af
 cases l with
 |nil=>
  have heq:∀O,rE Tryz.prog O 28 true (.d (.sl [])) .br=some .fq:=by
   intro O
   unfold rE
   rw[hu]
   rfl
  exact R5
 |cons a l=>
  have heq:∀O,rE Tryz.prog O 28 true (.d (.sl (Tm.d a::l.map Tm.d))) .br=some (.d (.bool false)):=by
   intro O
   unfold rE
   rw[hu]
   rfl
  simp only[List.map_cons,List.map_nil]
  refine dc heq ?_
  simp only[List.isEmpty_nil,if_true]
  refine dc heq ?_
  rw[List.length_cons]at hl
  try rw[if_pos (by omega)]
  try simp+contextual (disch:=first|omega|simp only[go_sem,false_implies]) only[go_sem,wrap64,if_pos,and_self]
  exact V5
set_option maxHeartbeats 1000000 in
theorem JL{p:Pg}(hp:kK p){f:Pf}(hf:ph p.sig f)(ih:∀k∈f.kids,Bx p k){env:List Tm}(hv:dP p.sig env){e:Tm}(he:cW p.sig env.length e)(r15:f.bG=15):
 aR Tryz.prog 182 [wY p env,e.d,f.d] (xA (bd p f env e)):=by
 have VA:=hf.len
 have iM:=((Tm.aH e).1 he.fits).1
 have ht:bd p f env e=(e.op==6&&((f.kids.length==2||f.kids.length==3)&&((pn (f.kids.map (bd p)) 0 env (lH e 0)&&pn (f.kids.map (bd p)) 1 env (lH e 1))&&((bu f.kids 0).op==5&&
  (if((bu f.kids 0).kids.length:Int)+1<dN p.sig.bR (bu f.kids 0).n then f.kids.length==2&&aU f.val (.mk 5 (bu f.kids 0).n ((bu f.kids 0).kids++[bu f.kids 1]))
   else f.kids.length==3&&aU (bu f.kids 2) f.val&&pn (f.kids.map (bd p)) 2 ((bu f.kids 0).kids++[bu f.kids 1]) (ri p.sig (bu f.kids 0).n)))))):=by
  rw[fi,od,if_neg (by omega),if_neg (by omega),if_neg (by omega),if_neg (by omega),if_neg (by omega),if_neg (by omega),if_neg (by omega),if_neg (by omega),if_neg (by omega),if_pos r15]
  simp only[Bool.and_assoc]
 rw[ht]
 refine aR.az mix UB ao ?_
 rw[YH]
 by_cases fl:e.op=6
 rotate_left
 ·have cH:(e.op==6)=false:=by simpa using fl
  exact Wo
 have cH:(e.op==6)=true:=by simpa using fl
 rw[cH,Bool.true_and]
 refine et cH ?_
 refine ai (iS _ _ _) rfl ?_
 by_cases hl:f.kids.length=2\/f.kids.length=3
 rotate_left
 ·have z8:cF (f.kids.length:Int) 2 3=false:=by simp[cF];omega
  have BI:(f.kids.length==2||f.kids.length==3)=false:=by simpa using hl
  rw[z8,BI,Bool.false_and,bI]
  exact Wi
 have z8:cF (f.kids.length:Int) 2 3=true:=by simp[cF];omega
 have BI:(f.kids.length==2||f.kids.length==3)=true:=by simpa using hl
 have he2:=Bi he.node1 ah ah
 obtain⟨a,b,Z0⟩:=Bj he2
 have ha:e.kids[0]? =some a:=by rw[Z0];rfl
 have hb:e.kids[1]? =some b:=by rw[Z0];rfl
 obtain⟨x,hx⟩:=aq (l:=f.kids) (k:=0) ah
 obtain⟨y,hy⟩:=aq (l:=f.kids) (k:=1) ah
 have cz:=List.mem_of_getElem? hx
 have Fl:=List.mem_of_getElem? hy
 have wV:=(hf.kH cz).val
 have HH:=(hf.kH Fl).val
 rw[z8,BI,bV hx,bV hy,lu hx,lu hy,mJ ha,mJ hb,Bool.true_and]
 refine aS ?_
 refine ai cp rfl ?_
 have h2t:(2:Nat)<=f.kids.length:=ah
 have ag5:(2:Int)<=(f.kids.length:Int):=ah
 refine kS h2t ag5 ?_
 have BM:=rz (f.kids.take 2) e.kids (by rw[List.length_take];omega) iM hv (fun k hk=>ih k (List.mem_of_mem_take hk)) (fun y hy=>he.kH ah ah hy)
 have h2l:(f.kids.take 2).length=2:=by rw[List.length_take];omega
 rw[List.map_take,h2l,he2,JK hx hy Z0]at BM
 have h22:((2:Nat)==2)=true:=rfl
 rw[h22,Bool.true_and]at BM
 cases g1:(bd p x env a&&bd p y env b)with
 |false=>
  exact RW
 |true=>
 rw[g1,eQ]at BM
 rw[Bool.true_and]
 refine aw BM rfl ?_
 refine aS ?_
 refine aD bE ?_
 refine et hx ?_
 by_cases h5:x.val.op=5
 rotate_left
 ·have Bs:(x.val.op==5)=false:=by simpa using h5
  rw[Bs,Bool.false_and,bI]
  exact zO
 have Bs:(x.val.op==5)=true:=by simpa using h5
 obtain⟨n0,w,hw,cM⟩:=Rh wV.1.2 h5
 have hwa:=D0 hp.sg w (List.mem_of_getElem? hw)
 have Ig:dP p.sig (x.val.kids++[y.val]):=⟨by simp;omega,fun t ht=>by
  rcases List.mem_append.1 ht with h|h
  ·exact wV.1.kH h
  ·simp at h;subst h;exact HH.1⟩
 rw[Bs,Bool.true_and,iQ hw]
 refine ai cp rfl ?_
 refine aS ?_
 refine yF rfl (FT x.val.kids ah _ _) ?_
 refine et hy ?_
 refine aD bE ?_
 by_cases hc:(x.val.kids.length:Int)+1<w.args
 ·have Af:decide (((x.val.kids.length+1:Nat):Int)<w.args)=true:=by simpa using hc
  rw[if_pos hc]
  by_cases hk:f.kids.length=2
  rotate_left
  ·have BP:((f.kids.length:Int)==2)=false:=by rw[beq_eq_false_iff_ne];omega
   have HD:(f.kids.length==2)=false:=by simpa using hk
   rw[HD,Bool.false_and,bI]
   refine VI hw n0 Af BP ?_
   exact zO
  have BP:((f.kids.length:Int)==2)=true:=by rw[beq_iff_eq];omega
  have HD:(f.kids.length==2)=true:=by simpa using hk
  have hmk:(Tm.mk 5 x.val.n (x.val.kids++[y.val])).fits:=by
   rw[Tm.aH]
   exact⟨by show(x.val.kids++[y.val]).length<=_;rw[List.length_append,List.length_singleton];omega,fun k hk=>(Ig.all k hk).1⟩
  have hs:=cL _ hf.val.1.1 _ hmk
  rw[Tm.m9 5,List.map_append]at hs
  rw[HD,Bool.true_and]
  refine VI hw n0 Af BP ?_
  refine ai hs rfl ?_
  cases g3:aU f.val (.mk 5 x.val.n (x.val.kids++[y.val]))with
  |false=>
   exact Lg
  |true=>
   exact Lf
 ·have Af:decide (((x.val.kids.length+1:Nat):Int)<w.args)=false:=by simpa using hc
  rw[if_neg hc]
  by_cases hk:f.kids.length=3
  rotate_left
  ·have BP:((f.kids.length:Int)==3)=false:=by rw[beq_eq_false_iff_ne];omega
   have HD:(f.kids.length==3)=false:=by simpa using hk
   rw[HD,Bool.false_and,Bool.false_and,bI]
   refine VI hw n0 Af BP ?_
   exact J0
  have BP:((f.kids.length:Int)==3)=true:=by rw[beq_iff_eq];omega
  have HD:(f.kids.length==3)=true:=by simpa using hk
  obtain⟨z,hz⟩:=aq (l:=f.kids) (k:=2) ah
  have hzm:=List.mem_of_getElem? hz
  rw[bV hz,lu hz,HD,Bool.true_and]
  simp+contextual (disch:=first|omega|simp only[go_sem,false_implies]) only[go_sem,wrap64,if_pos,List.length_map,hz,hw,n0,Af,List.length_append,BP]
  refine aw (cL _ (hf.kH hzm).val.1.1 _ hf.val.1.1) rfl ?_
  cases g3:aU z.val f.val with
  |false=>
   exact O8
  |true=>
  rw[Bool.true_and]
  refine aS ?_
  refine aw cp rfl ?_
  refine aS ?_
  refine aD bE ?_
  refine aS ?_
  have LD:=N5 p env (x.val.kids++[y.val])
  rw[List.map_append]at LD
  refine ba LD ?_
  refine et hz ?_
  refine ba (Q7 p x.val.n w n0 hw ah ah) ?_
  refine et hz ?_
  have hr:=ih z hzm (x.val.kids++[y.val]) _ Ig (Oj (s:=p.sig) n0 hw ah ah (by simp only[List.length_append,List.length_singleton];omega))
  cases g4:bd p z (x.val.kids++[y.val]) (ri p.sig x.val.n)with
  |false=>
   rw[g4,bI]at hr
   rw[bI]
   refine cZ hr cy ?_
   refine aS ?_
   refine dW ⟨bE, ?_⟩
   exact JY
  |true=>
   rw[g4,eQ]at hr
   rw[eQ]
   refine aw hr rfl ?_
   exact zw9
def eO:List V:= .d .bN::[168,169,170,171,172,173,174,175,176,177,178,179,180,181,182].map fun g=> .func (.func g) [] []
theorem Z2:se Tryz.prog 147 [(1, .func (.func 168) [] []),(2, .func (.func 169) [] []),(3, .func (.func 170) [] []),(4, .func (.func 171) [] []),(5, .func (.func 172) [] []),(6, .func (.func 173) [] []),(7, .func (.func 174) [] []),(8, .func (.func 175) [] []),(9, .func (.func 176) [] []),(10, .func (.func 177) [] []),(11, .func (.func 178) [] []),(12, .func (.func 179) [] []),(13, .func (.func 180) [] []),(14, .func (.func 181) [] []),(15, .func (.func 182) [] [])]=some (.agg eO):=af
theorem Rj:Tf Tryz.prog 129 [] (.agg eO):=by
 refine Tf.mz (by rfl) ?_
 refine cK.az mix T3 ao ?_
 rw[X9]
 simp+contextual only[al,st,List.map_nil,PW,PV,IW,Xi,Xj,bt,gQ,zeroT_147,E6,IV,Mj,Mk,AD,lW]
 generalize hb:se Tryz.prog 147 _=r
 have hr:r=some (.agg eO):=by rw[<- hb];exact Z2
 subst hr
 simp only[eO,List.map_cons,List.map_nil]
 exact gK
set_option maxHeartbeats 1000000 in
theorem JM{p:Pg}(hp:kK p)(hw:p.Fw):∀f:Pf,ph p.sig f->Bx p f:=by
 refine Pf.bW fun f ih hf env e hv he=> ?_
 have Kd:∀k∈f.kids,Bx p k:=fun k hk=>ih k hk (hf.kH hk)
 refine aR.az mix adk ao ?_
 rw[c93]
 refine aS ?_
 refine ai (iS _ _ _) rfl ?_
 cases h1:cF f.bG 1 15 with
 |false=>
  have h2: ¬ (1<=f.bG/\f.bG<=15):=by
   simp only[cF,Bool.and_eq_false_iff,decide_eq_false_iff_not]at h1;omega
  have ht:bd p f env e=false:=by
   rw[fi,od,if_neg (by omega),if_neg (by omega),if_neg (by omega),if_neg (by omega),if_neg (by omega),if_neg (by omega),if_neg (by omega),if_neg (by omega),if_neg (by omega),if_neg (by omega)]
   have:xy f.bG e f.val (bu f.kids 0) (bu f.kids 1)=false:=by
    unfold xy;rw[if_neg (by omega),if_neg (by omega),if_neg (by omega),if_neg (by omega),if_neg (by omega)]
   rw[this];simp
  rw[ht,bI]
  exact Wi
 |true=>
 have h2:1<=f.bG/\f.bG<=15:=by simpa[cF]using h1
 refine aS ?_
 refine ai cp rfl ?_
 refine aS ?_
 refine IU Rj ?_
 refine aS ?_
 rcases(by omega:f.bG=1\/f.bG=2\/f.bG=3\/f.bG=4\/f.bG=5\/f.bG=6\/f.bG=7\/f.bG=8\/f.bG=9\/f.bG=10\/f.bG=11\/f.bG=12\/f.bG=13\/f.bG=14\/f.bG=15)with r|r|r|r|r|r|r|r|r|r|r|r|r|r|r
 ·have gP:eO[f.bG.toNat*1]? =some (.func (.func 168) [] []):=by rw[r];rfl
  have hc:=Q9 (p:=p) hf (env:=env) (e:=e) r
  refine dc gP ?_
  cases g:bd p f env e with
  |false=>
   exact Eo
  |true=>
   exact Ep
 ·have gP:eO[f.bG.toNat*1]? =some (.func (.func 169) [] []):=by rw[r];rfl
  have hc:=Ra hf hv he r
  refine dc gP ?_
  cases g:bd p f env e with
  |false=>
   exact Eo
  |true=>
   exact Ep
 ·have gP:eO[f.bG.toNat*1]? =some (.func (.func 170) [] []):=by rw[r];rfl
  have hc:=Rb (p:=p) hf (env:=env) he.fits r
  refine dc gP ?_
  cases g:bd p f env e with
  |false=>
   exact Eo
  |true=>
   exact Ep
 ·have gP:eO[f.bG.toNat*1]? =some (.func (.func 171) [] []):=by rw[r];rfl
  have hc:=Q8 hf Kd hv he r
  refine dc gP ?_
  cases g:bd p f env e with
  |false=>
   exact Eo
  |true=>
   exact Ep
 ·have gP:eO[f.bG.toNat*1]? =some (.func (.func 172) [] []):=by rw[r];rfl
  have hc:=Oc hf Kd hv he r
  refine dc gP ?_
  cases g:bd p f env e with
  |false=>
   exact Eo
  |true=>
   exact Ep
 ·have gP:eO[f.bG.toNat*1]? =some (.func (.func 173) [] []):=by rw[r];rfl
  have hc:=Ri hp hw hf Kd hv he r
  refine dc gP ?_
  cases g:bd p f env e with
  |false=>
   exact Eo
  |true=>
   exact Ep
 ·have gP:eO[f.bG.toNat*1]? =some (.func (.func 174) [] []):=by rw[r];rfl
  have hc:=Od hf Kd hv he r
  refine dc gP ?_
  cases g:bd p f env e with
  |false=>
   exact Eo
  |true=>
   exact Ep
 ·have gP:eO[f.bG.toNat*1]? =some (.func (.func 175) [] []):=by rw[r];rfl
  have hc:=JH hf Kd hv he r
  refine dc gP ?_
  cases g:bd p f env e with
  |false=>
   exact Eo
  |true=>
   exact Ep
 ·have gP:eO[f.bG.toNat*1]? =some (.func (.func 176) [] []):=by rw[r];rfl
  have hc:=Rc hf Kd hv he r
  refine dc gP ?_
  cases g:bd p f env e with
  |false=>
   exact Eo
  |true=>
   exact Ep
 ·have gP:eO[f.bG.toNat*1]? =some (.func (.func 177) [] []):=by rw[r];rfl
  have hc:=Og hf Kd hv he r
  refine dc gP ?_
  cases g:bd p f env e with
  |false=>
   exact Eo
  |true=>
   exact Ep
 ·have gP:eO[f.bG.toNat*1]? =some (.func (.func 178) [] []):=by rw[r];rfl
  have hc:=Oh hf Kd hv he r
  refine dc gP ?_
  cases g:bd p f env e with
  |false=>
   exact Eo
  |true=>
   exact Ep
 ·have gP:eO[f.bG.toNat*1]? =some (.func (.func 179) [] []):=by rw[r];rfl
  have hc:=JI hf Kd hv he r
  refine dc gP ?_
  cases g:bd p f env e with
  |false=>
   exact Eo
  |true=>
   exact Ep
 ·have gP:eO[f.bG.toNat*1]? =some (.func (.func 180) [] []):=by rw[r];rfl
  have hc:=Oi hf Kd hv he r
  refine dc gP ?_
  cases g:bd p f env e with
  |false=>
   exact Eo
  |true=>
   exact Ep
 ·have gP:eO[f.bG.toNat*1]? =some (.func (.func 181) [] []):=by rw[r];rfl
  have hc:=Re hf Kd hv he r
  refine dc gP ?_
  cases g:bd p f env e with
  |false=>
   exact Eo
  |true=>
   exact Ep
 ·have gP:eO[f.bG.toNat*1]? =some (.func (.func 182) [] []):=by rw[r];rfl
  have hc:=JL hp hf Kd hv he r
  refine dc gP ?_
  cases g:bd p f env e with
  |false=>
   exact Eo
  |true=>
   exact Ep
section
section
variable {P:Program}
def sP(P:Program)(n t t1:Nat)(ic:IC)(aI:List V)(u:V)(o:Nat->ab)(nx:Nat)(K:(Nat->ab)->Nat->Prop):Prop:=
 aI.length<=n/\lj P n nx true ic (IY K) ⟨aK (aK (cE aI) t u) t1 u,o,nx⟩
def rC(P:Program)(n t t1:Nat)(ic:IC)(aI:List V)(rs:List ResultVar)(K X:V->(Nat->ab)->Nat->Prop)(e:fX)(s:S):Prop:=
 match e with
 | .normal| .ret=>sP P n t t1 ic aI (.d .fI) s.o s.nx fun o nx=>su P rs K X .ret ⟨s.env,o,nx⟩
 | .bP v=>sP P n t t1 ic aI v s.o s.nx fun o nx=>su P rs K X .ret ⟨s.env,o,nx⟩
 | .exit _=>False
def Bk(P:Program)(n t:Nat)(eS:IC)(fP:List Operand)(g:FuncId)(D:List V->fX->S->Prop)(e:fX)(s:S):Prop:=
 match e with
 | .normal=>lj P n s.nx false eS (D (fP.map s.ev)) ⟨aK s.env t (.func (.func g) [] (fP.map s.ev)),s.o,s.nx⟩
 |_=>False
variable {n t t1:Nat}{ic eS:IC}{aI:List V}{rs:List ResultVar}{K X:V->(Nat->ab)->Nat->Prop}{s:S}{v:V}{fP:List Operand}{g:FuncId}{D:List V->fX->S->Prop}{KR:(Nat->ab)->Nat->Prop}
@[go_sem ↓] theorem On:rC P n t t1 ic aI rs K X .normal s=sP P n t t1 ic aI (.d .fI) s.o s.nx fun o nx=>su P rs K X .ret ⟨s.env,o,nx⟩:=propext Iff.rfl
@[go_sem ↓] theorem VB:rC P n t t1 ic aI rs K X .ret s=sP P n t t1 ic aI (.d .fI) s.o s.nx fun o nx=>su P rs K X .ret ⟨s.env,o,nx⟩:=propext Iff.rfl
@[go_sem ↓] theorem VC:rC P n t t1 ic aI rs K X (.bP v) s=sP P n t t1 ic aI v s.o s.nx fun o nx=>su P rs K X .ret ⟨s.env,o,nx⟩:=propext Iff.rfl
@[go_sem ↓] theorem Oo:Bk P n t eS fP g D .normal s=lj P n s.nx false eS (D (fP.map s.ev)) ⟨aK s.env t (.func (.func g) [] (fP.map s.ev)),s.o,s.nx⟩:=propext Iff.rfl
@[go_sem ↓] theorem VD:IY KR .normal s=KR s.o s.nx:=propext Iff.rfl
@[go_sem ↓] theorem aeO:IY KR .ret s=KR s.o s.nx:=propext Iff.rfl
theorem sP.w {o:Nat->ab}{nx:Nat}{K K':(Nat->ab)->Nat->Prop}(hK:∀o nx,K o nx->K' o nx)(h:sP P n t t1 ic aI v o nx K):Fa P n t t1 ic aI v o nx K':=by
 refine⟨h.1,eK ic _ _ _ (fun e s h=> ?_) h.2⟩
 unfold IY at h|-
 cases e with
 |normal=>exact hK _ _ h
 |ret=>exact hK _ _ h
 |_=>exact h
theorem cK.JN (bB:P.follows .mixedOrders=true){f g:FuncId}{iW eS yG:IC}{t m r r1:Nat}{fP:List Operand}{rs:List ResultVar}(hf:GL P f n iW eS g t fP rs)(hg:C0 P g m r r1 yG)
 {args:List V} {o:Nat->ab} {nx:Nat} {K X:V->(Nat->ab)->Nat->Prop} (hl:args.length<=n)
 (h:lj P n nx true iW (Bk P n t eS fP g fun aI=>rC P m r r1 yG aI rs K X) ⟨cE args,o,nx⟩):cK P f args o nx K X:=by
 refine cK.C3 bB hf hg hl (eK iW _ _ _ (fun e s h=> ?_) h)
 unfold Bk at h
 unfold C1
 cases e with
 |normal=>
  refine eK eS _ _ _ (fun e s h=> ?_) h
  unfold rC at h
  unfold AE
  cases e with
  |normal=>exact sP.w (fun _ _ h=>by unfold su at h;exact h) h
  |ret=>exact sP.w (fun _ _ h=>by unfold su at h;exact h) h
  |bP v=>exact sP.w (fun _ _ h=>by unfold su at h;exact h) h
  |exit _=>exact h
 |_=>exact h
end
attribute [irreducible] sP
theorem wL{P:Program}{n t t1:Nat}{ic:IC}{aI:List V}{v:V}{o:Nat->ab}{nx:Nat}{K:(Nat->ab)->Nat->Prop}(h1:aI.length<=n)(h2:lj P n nx true ic (IY K) ⟨aK (aK (cE aI) t v) t1 v,o,nx⟩):sP P n t t1 ic aI v o nx K:=by
 unfold sP
 exact⟨h1,h2⟩
end
theorem Z3{o:Nat->ab}:rE Tryz.prog o 20 true (.d .fI) (.d .fI)=some (.d (.bool true)):=af
theorem Rk{o:Nat->ab}:rE Tryz.prog o 20 true (.d oj) (.d .fI)=some (.d (.bool false)):=af
theorem Bl:pv Tryz.prog 117=true:=af
theorem JO{p:Pg}(hp:kK p)(hw:p.Fw)(f:Pf)(hf:ph p.sig f)(env:List Tm)(hv:dP p.sig env)(e:Tm)(he:cW p.sig env.length e)(o:Nat->ab)(nx:Nat)(hg:Good o nx)(K X:V->(Nat->ab)->Nat->Prop)
 (hK:∀o' nx',nx<=nx'->Good o' nx'->(∀j,j<nx->o' j=o j)->K (.d (.bool (bd p f env e))) o' nx'):
 cK Tryz.prog 52 [.d p.d, .d (.sl (env.map Tm.d)), .d e.d, .d f.d] o nx K X:=by
 have hc:=JM hp hw f hf env e hv he
 refine cK.JN mix TS TR ao ?_
 rw[XW,c52]
 refine iO ?_
 cases g:bd p f env e with
 |false=>
  rw[g,bI]at hc
  rw[g]at hK
  refine dX hc rfl ?_
  refine iO ?_
  refine wL ao ?_
  rw[c92]
  simp+contextual (disch:=first|omega|simp only[go_sem,false_implies]) only[go_sem,wrap64,if_pos,Rk,Nat.add_assoc,Nat.left_eq_add,Nat.add_eq_left,Nat.add_left_cancel_iff]
  simp+contextual (disch:=first|omega|simp only[go_sem,false_implies]) only[go_sem,wrap64,if_pos,Bl,oj,Nat.add_assoc,Nat.left_eq_add,Nat.add_eq_left,Nat.add_left_cancel_iff]
  exact hK _ _ ah dB (fun j hj=>by(repeat(first|rfl|rw[ad]|rw[ak _ _ _ _ (by omega)])))
 |true=>
  rw[g,eQ]at hc
  rw[g]at hK
  refine ai hc rfl ?_
  refine iO ?_
  refine wL ao ?_
  rw[c92]
  simp+contextual (disch:=first|omega|simp only[go_sem,false_implies]) only[go_sem,wrap64,if_pos,Z3,Nat.add_assoc,Nat.left_eq_add,Nat.add_eq_left,Nat.add_left_cancel_iff]
  exact hK _ _ ah dB (fun j hj=>by(repeat(first|rfl|rw[ad]|rw[ak _ _ _ _ (by omega)])))
end Go.Proofs.YtonbelhklnmjnaaGreat
