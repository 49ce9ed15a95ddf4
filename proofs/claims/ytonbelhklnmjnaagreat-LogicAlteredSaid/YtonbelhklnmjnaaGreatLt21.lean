/-
  LogicAltered: at every call the law answers true, and leaves all memory as it was. Conditions: none.
-/
import Derived.Test.YtonbelhklnmjnaaGreatRows
import Derived.Test.YtonbelhklnmjnaaGreatLt20
set_option linter.unusedSimpArgs false
set_option linter.unusedVariables false
namespace Go.Proofs.YtonbelhklnmjnaaGreat
theorem eP.alt {p:Pg}{env:List Tm}{e:Tm}{f:Pf}(h:eP p env e f){w:Tm}(hw:w.fits)(hs:iG w=true)(i:Int):eP p env e (dS w f i).1:=by
 refine⟨h.pf,h.ps,h.vf,h.vs,h.ef,h.es,MD hw f h.ff i, ?_⟩
 have:=h.fs
 simp only[kK,Bool.and_eq_true]at this|-
 rw[MC]
 exact⟨this.1,ME hs f this.2 i⟩
set_option maxHeartbeats 2000000 in
theorem wv(WT:a8 Tryz.prog 9 [] (.ret [.bool true]))(p:Pg)(env:List Tm)(e:Tm)(f:Pf)(u:Nat)(w:Tm)(hp:p.Fits)(hl:env.length<=9223372036854775807/\∀t∈env,t.fits)(he:e.fits)(hf:f.fits)(hu:u<=65535)(hw:w.fits):a8 Tryz.prog 5 [p.d, .sl (env.map Tm.d),e.d,f.d, .int .u16 u,w.d] (.ret [.bool true]):=by
 refine a8.aB mix fn5 aj ?_
 rw[c5]
 refine aJ ?_
 refine ai (Pr p env e f hp hl.1 hl.2 he hf) rfl ?_
 cases h0:wm p env e f with
 |false=>
  refine aJ ?_
  refine ai WT rfl ?_
  exact cI
 |true=>
 have sm:=abp hp hl.2 he hf h0
 refine aJ ?_
 refine ai (vH w hw) rfl ?_
 cases h1:iG w with
 |false=>
  refine aJ ?_
  refine ai WT rfl ?_
  exact cI
 |true=>
 refine aJ ?_
 refine ai (MB sm) rfl ?_
 cases h2:Ps p env e f with
 |false=>
  refine aJ ?_
  refine ai WT rfl ?_
  exact cI
 |true=>
 refine aJ ?_
 refine ai (EF p.sig sm.fin.sig w hw) rfl ?_
 cases h3:vF p.sig w with
 |false=>
  refine aJ ?_
  refine ai WT rfl ?_
  exact cI
 |true=>
 simp only[Ps,Bool.and_eq_true]at h2
 obtain⟨⟨g1,g2⟩,g3⟩:=h2
 have ac:=Dh sm
 have hc1:(eE p&&dT p.sig f&&gI p.sig env e)=true:=by rw[g1,g2,g3];rfl
 rw[Mx,hc1,if_pos rfl]at ac
 have hz:=sm.fsz
 refine aJ ?_
 cases h4:bf p f env e with
 |false=>
  rw[h4,if_neg Bool.false_ne_true,Az]at ac
  refine bg ac ?_
  refine aJ ?_
  refine ai WT rfl ?_
  exact cI
 |true=>
 rw[h4,if_pos rfl]at ac
 refine bg ac ?_
 refine aJ ?_
 have hn:=Mz f hf ad
 refine aq hn rfl ?_
 have fP:1<=f.sh.sz:=Tm.vy f.sh
 have hz0:((f.sh.sz:Int)=0)=False:=by simp;omega
 have i0:0<=(u:Int).tmod (f.sh.sz:Int):=Int.tmod_nonneg _ ad
 have i1:(u:Int).tmod (f.sh.sz:Int)<f.sh.sz:=Int.tmod_lt_of_pos _ ad
 refine dD hz0 ?_
 generalize (u:Int).tmod (f.sh.sz:Int)=i at i0 i1|-
 refine bw (IW hw f hf ad i i0 ad) ?_
 have sx:=sm.alt hw h1 i
 have pl:gf p.sig f=true:=by simp only[dT,Bool.and_eq_true]at g3;exact g3.2
 have al:=(Pv (p:=p) h3 f pl i i0 i1).2
 have gx:dT p.sig (dS w f i).1=true:=by
  simp only[dT,Bool.and_eq_true]at g3|-
  rw[MC]
  exact⟨g3.1,IV h3 f g3.2 i⟩
 have ax:=Dh sx
 have tl:(eE p&&dT p.sig (dS w f i).1&&gI p.sig env e)=true:=by rw[g1,g2,gx];rfl
 rw[Mx,tl,if_pos rfl]at ax
 generalize hq:dS w f i=q at*
 refine aJ ?_
 refine ao af ?_
 refine aJ ?_
 cases h5:q.2.2 with
 |true=>
  refine aJ ?_
  refine ai WT rfl ?_
  exact cI
 |false=>
 rw[al h5 env e h4,if_neg Bool.false_ne_true,Az]at ax
 refine aJ ?_
 refine bg ax ?_
 refine aJ ?_
 refine ai WT rfl ?_
 exact cI
end Go.Proofs.YtonbelhklnmjnaaGreat
section
namespace Go.Proofs.YtonbelhklnmjnaaGreat
open Go.ChangeShapes Go.WideShapes Go.RowKit
theorem MF:∀ (n:Nat) (x:D),SizeOf.sizeOf x<=n->D.jA Tryz.prog x 35->∃t:Pf,x=t.d/\t.fits:=by
 intro n
 induction n with
 |zero=>intro x hx _;cases x<;>simp at hx
 |succ n ih=>
  intro x hx h
  obtain⟨cs,rfl,hh⟩:=nR af (ls:=[32,29,3,28,3,28,33]) af h
  clear h;have h:=hh;clear hh
  obtain⟨a,cs,rfl,ha,h⟩:=br h
  obtain⟨b,cs,rfl,hb,h⟩:=br h
  obtain⟨c,cs,rfl,hc,h⟩:=br h
  obtain⟨d,cs,rfl,hd,h⟩:=br h
  obtain⟨e,cs,rfl,he,h⟩:=br h
  obtain⟨f,cs,rfl,hf,h⟩:=br h
  obtain⟨g,cs,rfl,hg,h⟩:=br h
  have:=j5 h;subst this
  obtain⟨r,hr,_⟩:=qP undT_32 ha
  subst hr
  obtain⟨o,rfl⟩:=Wy hb
  obtain⟨m,rfl⟩:=vW hc
  obtain⟨vk,rfl,v1,v2⟩:=C1 hd
  obtain⟨u,rfl⟩:=vW he
  obtain⟨bs,rfl,b1,b2⟩:=C1 hf
  obtain⟨es,rfl,h1,h2⟩:=oj (e:=35) af hg
  have Dm:SizeOf.sizeOf es<=n:=by simp at hx;omega
  have:∀es:List D,SizeOf.sizeOf es<=n->D.EU Tryz.prog es 35->∃l:List Pf,es=l.map Pf.d/\∀k∈l,k.fits:=by
   intro es
   induction es with
   |nil=>intro _ _;exact⟨[],rfl,fun _ h=>by cases h⟩
   |cons y es ihe=>
    intro hs h
    simp at hs
    obtain⟨t,rfl,ht⟩:=ih y ad h.1
    obtain⟨l,rfl,hl⟩:=ihe ad h.2
    exact⟨t::l,rfl,fun b hb=>(List.mem_cons.1 hb).elim (fun e=>e ▸ ht) (hl b)⟩
  obtain⟨l,rfl,hl⟩:=this es Dm h2
  refine⟨.mk r (.mk o m vk) u bs l,by rw[Pf.Ek];rfl, ?_⟩
  rw[Pf.aP]
  exact⟨(Tm.aP _).2 ⟨v1,v2⟩,b1,b2,by have:=lW;simp at h1;simp only[Pf.kids];omega,hl⟩
theorem ado{x:D}(h:D.jA Tryz.prog x 35):∃t:Pf,x=t.d/\t.fits:=MF _ x (Nat.le_refl _) h
theorem abq{x:D}(h:D.jA Tryz.prog x 57):∃n:Nat,x= .int .u16 n/\n<=65535:=by
 obtain⟨n,h,hw⟩:=qP undT_57 h
 simp[Lit.wf,show IntKind.u16.min=0 from by decide,show IntKind.u16.max=65535 from by decide]at hw
 exact⟨n.toNat,by rw[h];congr 1;omega,ad⟩
end Go.Proofs.YtonbelhklnmjnaaGreat
end
section
namespace Go.Proofs.YtonbelhklnmjnaaGreat
open Go
def WU:Nat->Bool:=fun g=> !([206,205,245,246,231,257,258,56,96,97,129,113,164,125,165,207,208,209,210,211,212,214,215,248,251,252,260,92,116,94]:List Nat).contains g
def xP:D:= .agg [.sl [.agg [.str [70,97,108,115,101], .i 0], .agg [.str [84,114,117,101], .i 0], .agg [.str [90], .i 0], .agg [.str [83], .i 1], .agg [.str [78,105,108], .i 0], .agg [.str [67,111,110,115], .i 2]], .sl [.agg [.str [97,100,100], .i 2], .agg [.str [111,114], .i 2], .agg [.str [99,111,105,110], .i 0], .agg [.str [108,101,110], .i 1]], .sl [.agg [.i 0, .sl [.agg [.i 3, .i 2, .sl []], .agg [.i 1, .i 0, .sl []]], .i 1, .i 0, .sl [], .i 1], .agg [.i 0, .sl [.agg [.i 3, .i 3, .sl [.agg [.i 1, .i 0, .sl []]]], .agg [.i 1, .i 1, .sl []]], .i 3, .i 3, .sl [.agg [.i 4, .i 0, .sl [.agg [.i 1, .i 0, .sl []], .agg [.i 1, .i 1, .sl []]]]], .i 2], .agg [.i 1, .sl [.agg [.i 3, .i 1, .sl []], .agg [.i 1, .i 0, .sl []]], .i 3, .i 1, .sl [], .i 1], .agg [.i 1, .sl [.agg [.i 1, .i 0, .sl []], .agg [.i 3, .i 1, .sl []]], .i 3, .i 1, .sl [], .i 1], .agg [.i 1, .sl [.agg [.i 3, .i 0, .sl []], .agg [.i 3, .i 0, .sl []]], .i 3, .i 0, .sl [], .i 0], .agg [.i 2, .sl [], .i 3, .i 2, .sl [], .i 0], .agg [.i 2, .sl [], .i 3, .i 3, .sl [.agg [.i 3, .i 2, .sl []]], .i 0], .agg [.i 3, .sl [.agg [.i 3, .i 5, .sl [.agg [.i 1, .i 0, .sl []], .agg [.i 1, .i 1, .sl []]]]], .i 3, .i 3, .sl [.agg [.i 4, .i 3, .sl [.agg [.i 1, .i 1, .sl []]]]], .i 2], .agg [.i 3, .sl [.agg [.i 1, .i 0, .sl []]], .i 4, .i 0, .sl [.agg [.i 1, .i 1, .sl []], .agg [.i 1, .i 1, .sl []]], .i 2]]]
def XT:D:= .agg [.i 6, .i 3, .i 3, .sl [.agg [.i 1, .i 7, .sl []]], .i 1, .sl [.agg [.i 3, .i 2, .sl []], .agg [.i 1, .i 7, .sl []]], .sl [.agg [.i 4, .i 3, .i 3, .sl [.agg [.i 3, .i 2, .sl []]], .i 0, .sl [], .sl [.agg [.i 4, .i 3, .i 2, .sl [], .i 0, .sl [], .sl []]]], .agg [.i 2, .i 1, .i 7, .sl [], .i 0, .sl [], .sl []], .agg [.i 4, .i 3, .i 3, .sl [.agg [.i 1, .i 7, .sl []]], .i 0, .sl [], .sl [.agg [.i 6, .i 1, .i 7, .sl [], .i 0, .sl [.agg [.i 1, .i 7, .sl []]], .sl [.agg [.i 2, .i 3, .i 2, .sl [], .i 0, .sl [], .sl []], .agg [.i 2, .i 1, .i 7, .sl [], .i 0, .sl [], .sl []], .agg [.i 2, .i 1, .i 7, .sl [], .i 0, .sl [], .sl []]]]]]]]
def x5e:D:= .agg [.i 4, .i 0, .sl [.agg [.i 3, .i 3, .sl [.agg [.i 3, .i 2, .sl []]]], .agg [.i 1, .i 0, .sl []]]]
def XU:D:= .agg [.i 4, .i 0, .sl [.agg [.i 4, .i 2, .sl []], .agg [.i 4, .i 2, .sl []]]]
def x6p:D:= .agg [.i 6, .i 3, .i 3, .sl [.agg [.i 3, .i 2, .sl []]], .i 0, .sl [.agg [.i 3, .i 3, .sl [.agg [.i 3, .i 2, .sl []]]]], .sl [.agg [.i 6, .i 3, .i 2, .sl [], .i 5, .sl [], .sl [.agg [.i 4, .i 3, .i 2, .sl [], .i 0, .sl [], .sl []]]], .agg [.i 6, .i 3, .i 3, .sl [.agg [.i 3, .i 2, .sl []]], .i 6, .sl [], .sl [.agg [.i 4, .i 3, .i 3, .sl [.agg [.i 3, .i 2, .sl []]], .i 0, .sl [], .sl [.agg [.i 4, .i 3, .i 2, .sl [], .i 0, .sl [], .sl []]]]]], .agg [.i 2, .i 3, .i 3, .sl [.agg [.i 3, .i 2, .sl []]], .i 0, .sl [], .sl []]]]
def x6q:D:= .agg [.i 6, .i 3, .i 3, .sl [.agg [.i 3, .i 2, .sl []]], .i 0, .sl [.agg [.i 3, .i 3, .sl [.agg [.i 3, .i 2, .sl []]]]], .sl [.agg [.i 6, .i 3, .i 2, .sl [], .i 5, .sl [], .sl [.agg [.i 4, .i 3, .i 2, .sl [], .i 0, .sl [], .sl []]]], .agg [.i 6, .i 3, .i 2, .sl [], .i 5, .sl [], .sl [.agg [.i 4, .i 3, .i 2, .sl [], .i 0, .sl [], .sl []]]], .agg [.i 2, .i 3, .i 3, .sl [.agg [.i 3, .i 2, .sl []]], .i 0, .sl [], .sl []]]]
def xv7:D:= .sl [.agg [.i 1, .i 7, .sl []]]
def abr:qx Tryz.prog:=qx.of WU [] (fun _ h=>by cases h)
theorem WV:Ab Tryz.prog cm abr 5000 42 []=some (.ret [xP]):=af
theorem adp:a8 Tryz.prog 42 [] (.ret [xP]):=a8.pv mix pw WV
theorem WW:Ab Tryz.prog cm abr 5000 54 [xP]=some (.ret [.i 0]):=af
theorem abt:a8 Tryz.prog 54 [xP] (.ret [.i 0]):=a8.pv mix pw WW
def Pw:qx Tryz.prog:=qx.of WU [(54,[xP], .ret [.i 0])] (fun x h=>by
 cases h with
 |head=>exact abt
 |tail _ h=>cases h)
end Go.Proofs.YtonbelhklnmjnaaGreat
end
section
namespace Go.Proofs.YtonbelhklnmjnaaGreat
open Go
theorem Px:Ab Tryz.prog cm Pw 5000 10 [xP,xv7,x5e,XT]=some (.ret [.agg [.i 3, .i 3, .sl [.agg [.i 1, .i 7, .sl []]]], .i 0]):=af
theorem abu:a8 Tryz.prog 10 [xP,xv7,x5e,XT] (.ret [.agg [.i 3, .i 3, .sl [.agg [.i 1, .i 7, .sl []]]], .i 0]):=a8.pv mix pw Px
end Go.Proofs.YtonbelhklnmjnaaGreat
end
section
namespace Go.Proofs.YtonbelhklnmjnaaGreat
open Go
theorem Py:Ab Tryz.prog cm Pw 5000 10 [xP, .sl [],XU,x6p]=some (.ret [.agg [.i 3, .i 3, .sl [.agg [.i 3, .i 2, .sl []]]], .i 0]):=af
theorem abv:a8 Tryz.prog 10 [xP, .sl [],XU,x6p] (.ret [.agg [.i 3, .i 3, .sl [.agg [.i 3, .i 2, .sl []]]], .i 0]):=a8.pv mix pw Py
end Go.Proofs.YtonbelhklnmjnaaGreat
end
section
namespace Go.Proofs.YtonbelhklnmjnaaGreat
open Go
theorem Pz:Ab Tryz.prog cm Pw 5000 10 [xP, .sl [],XU,x6q]=some (.ret [.agg [.i 0, .i 0, .sl []], .i 7]):=af
theorem abw:a8 Tryz.prog 10 [xP, .sl [],XU,x6q] (.ret [.agg [.i 0, .i 0, .sl []], .i 7]):=a8.pv mix pw Pz
end Go.Proofs.YtonbelhklnmjnaaGreat
end
section
namespace Go.Proofs.YtonbelhklnmjnaaGreat
open Go
theorem PA:Ab Tryz.prog cm Pw 5000 11 [xP,XT]=some (.ret [.sl [.i 1, .i 0], .i 9, .i 0]):=af
theorem abx:a8 Tryz.prog 11 [xP,XT] (.ret [.sl [.i 1, .i 0], .i 9, .i 0]):=a8.pv mix pw PA
end Go.Proofs.YtonbelhklnmjnaaGreat
end
section
namespace Go.Proofs.YtonbelhklnmjnaaGreat
open Go
def adq:qx Tryz.prog:=qx.of WU [(54,[xP], .ret [.i 0]),(42,[], .ret [xP]),(10,[xP,xv7,x5e,XT], .ret [.agg [.i 3, .i 3, .sl [.agg [.i 1, .i 7, .sl []]]], .i 0]),(10,[xP, .sl [],XU,x6p], .ret [.agg [.i 3, .i 3, .sl [.agg [.i 3, .i 2, .sl []]]], .i 0]),(10,[xP, .sl [],XU,x6q], .ret [.agg [.i 0, .i 0, .sl []], .i 7]),(11,[xP,XT], .ret [.sl [.i 1, .i 0], .i 9, .i 0])] (fun x h=>by
 simp only[List.mem_cons,List.not_mem_nil,or_false]at h
 rcases h with rfl|rfl|rfl|rfl|rfl|rfl
 ·exact abt
 ·exact adp
 ·exact abu
 ·exact abv
 ·exact abw
 ·exact abx
 )
theorem E5:Ab Tryz.prog cm adq 5000 9 []=some (.ret [.bool true]):=af
theorem WX:a8 Tryz.prog 9 [] (.ret [.bool true]):=a8.pv mix pw E5
end Go.Proofs.YtonbelhklnmjnaaGreat
end
section
namespace Go.Proofs.YtonbelhklnmjnaaGreat
open Go.ChangeShapes Go.WideShapes Go.RowKit
set_option maxRecDepth 100000 in
theorem oB(os:Os)(started:os.Started)(H:Type)(enc:TypeId×Value->H):
 ReturnsInHanded {} Tryz.checked os 5 .any (Rows.logicAlteredSpec.pre6 enc Tryz.prog Tryz.f5 Rows.logicAlteredRow.domain false) (Rows.logicAlteredSpec.post enc Tryz.prog Tryz.f5 Rows.logicAlteredRow.apart Rows.logicAlteredRow.fresh Rows.logicAlteredRow.handsOn Rows.logicAlteredRow.again):=by
 refine returnsInHanded_of_change (C:=Tryz.checked) af started af Tryz.func5
  (ChangeSpec.witness6 (enc:=enc) (C:=Tryz.checked) false ⟨#[],#[.agg #[.slice none 0 0, .slice none 0 0, .slice none 0 0], .slice none 0 0, .agg #[.int .i64 0, .int .i64 0, .slice none 0 0], .agg #[.int .i64 0, .int .i64 0, .int .i64 0, .slice none 0 0, .int .i64 0, .slice none 0 0, .slice none 0 0], .int .u16 0, .agg #[.int .i64 0, .int .i64 0, .slice none 0 0]],[]⟩ 8 af af af af) ?_
 intro W base args ds gs before fO hW _ _
 refine Ax (T:=[27,24,22,104,9,3,25,106,28,31,29,35,33,32,57]) (tb:=4) af af rfl (fun ds h=>by match ds,h with|[_,_,_,_,_,_],_=>rfl) af (by intro t ht;rw[Tryz.params5]at ht;simp at ht;rcases ht with rfl|rfl|rfl|rfl|rfl|rfl<;>simp) af (by intro t ht;rw[Tryz.params5]at ht;simp at ht;rcases ht with rfl|rfl|rfl|rfl|rfl|rfl<;>exact⟨af,of_decide_eq_true af⟩)
  (fun xs hx=> ?_) base args ds gs before fO hW
 rw[Tryz.params5]at hx
 obtain⟨x0,xs,rfl,rB,hx⟩:=br hx
 obtain⟨x1,xs,rfl,hx1,hx⟩:=br hx
 obtain⟨x2,xs,rfl,hx2,hx⟩:=br hx
 obtain⟨x3,xs,rfl,hx3,hx⟩:=br hx
 obtain⟨x4,xs,rfl,hx4,hx⟩:=br hx
 obtain⟨x5,xs,rfl,hx5,hx⟩:=br hx
 have:=j5 hx;subst this
 obtain⟨p0,rfl,WZ⟩:=adl rB
 obtain⟨e1,rfl,he1⟩:=C1 hx1
 obtain⟨t2,rfl,ht2⟩:=Wz hx2
 obtain⟨f3,rfl,hf3⟩:=ado hx3
 obtain⟨u4,rfl,hu4⟩:=abq hx4
 obtain⟨t5,rfl,ht5⟩:=Wz hx5
 exact wv WX p0 e1 t2 f3 u4 t5 WZ he1 ht2 hf3 hu4 ht5
theorem logicAltered_holds:Rows.LogicAlteredSaid:=
 OpenClaim.holds_of_wide 5 Tryz.f5 rfl rfl rfl rfl rfl rfl rfl ⟨rfl,rfl,rfl,rfl,rfl⟩ rfl rfl rfl rfl rfl af Tryz.func5 af
  (of_decide_eq_true af) (by unfold Func.isWrapper;first|(rw[if_pos (by decide+kernel)];kernel_rfl)|(rw[if_neg (by decide+kernel)];exact⟨rfl,rfl⟩))
  (fun os started H enc _=>oB os started H enc)
end Go.Proofs.YtonbelhklnmjnaaGreat
end
