/-
  A PART OF THE PROOF. Conditions: none.
-/
import Derived.OpenShut
import Derived.Carry
import Derived.Handed
import Derived.JoinedOf
import Derived.ProofKit
import Derived.Test.YtlhemmpklhhgoaaGreatQo21
set_option linter.unusedSimpArgs false
set_option linter.unusedVariables false
set_option maxHeartbeats 8000000
namespace Go.Proofs.YtlhemmpklhhgoaaGreat
theorem RQ(l:List Nt)(hl:l.length<=9223372036854775807){g p:Nat}{R:ad}(br:Nt->Bool)(hb:∀x∈l,∀ (o:Nat->ad) (nx:Nat),Good o nx->o p=R->∀ (K X:V->(Nat->ad)->Nat->Prop),(∀ (o':Nat->ad) (nx':Nat),nx<=nx'->Good o' nx'->(∀j,j<nx->o' j=o j)->K (.d (.bool (br x))) o' nx')->bP Tryz.prog g [.d x.d, .ptr p 0] o nx K X)
 (o:Nat->ad) (nx:Nat) (hg:Good o nx) (hp:o p=R) (lp:p<nx) (K X:V->(Nat->ad)->Nat->Prop)
 (hK:∀ (o':Nat->ad) (nx':Nat),nx<=nx'->Good o' nx'->(∀j,j<nx->o' j=o j)->K (.d (.bool (l.any br))) o' nx'):
 bP Tryz.prog 88 [.d (.sl (l.map Nt.d)), .func (.func g) [] [.ptr p 0]] o nx K X:=by
 refine bP.aG mix Xq aE ?_
 rw[c88]
 refine fY ?_
 have key:∀ (K X:V->(Nat->ad)->Nat->Prop),(∀r:Int,decide (0<=r)=l.any br->∀ (o':Nat->ad) (nx':Nat),nx+3<=nx'->Good o' nx'->(∀j,j<nx->o' j=o j)->K (.d (.i r)) o' nx')->
  bP Tryz.prog 126 [.d (.sl (l.map Nt.d)), .func (.func g) [] [.ptr p 0]] o (nx+3) K X:=by
  intro K X hK
  refine bP.aG mix Na aE ?_
  rw[QO]
  refine Ey ?_
  refine aD (fun i:Nat=>⟨aX [.d (.sl (l.map Nt.d)), .func (.func g) [] [.ptr p 0], .ab, .ab, .ab, .ab, .ab, .d (.i l.length), .d (.i i)],o,nx+3⟩)
   (fun i=>i<=l.length/\l.any br=(l.drop i).any br) (fun i=>l.length - i) 0 ⟨Nat.zero_le _,rfl⟩ ?_ ?_
  ·exact S2
  rintro k ⟨Mi,zV⟩
  refine Ey ?_
  refine ak (fun h1=> ?_) (fun h1=> ?_)
  ·have h1:k<l.length:=by simp at h1;omega
   obtain⟨x,hx⟩:=aB h1
   have cf:=List.mem_of_getElem? hx
   have hd:l.drop k=x::l.drop (k+1):=by
    exact LH
   rw[hd,List.any_cons]at zV
   refine aam hx ?_
   refine aT (hb x cf _ _ (hg.mono af) hp _ _ (fun o2 n2 m1 m2 m3=> ?_))
   cases ym:br x with
   |true=>
    rw[ym]at zV
    refine fY ?_
    exact aaJ
   |false=>
    exact abi
  ·have h1:k=l.length:=by simp at h1;omega
   subst h1
   refine fY ?_
   exact aaR
 exact abG
def IZ(P:List TB)(a c:Tm):Bool:=gY (aR (ag P) a) (aR (ag P) c)
theorem oQ{P:List TB}{a c:Tm}:IZ P a c=true↔aR (ag P) a=aR (ag P) c:=dR _ _
def Pj(P:List TB)(s:bU):Bool:=(s.binds.all fun x=>IZ P (Pf x) x.term)&& !(s.aI.any fun n=>IZ P n.a n.b)
theorem Bu{P:List TB}{s:bU}:Pj P s=true↔Pg (ag P) s:=by
 unfold Pj Pg Sat
 rw[Bool.and_eq_true,List.all_eq_true,Bool.not_eq_true',List.any_eq_false]
 refine and_congr ⟨fun h p hp=> ?_,fun h x hx=> ?_⟩ ⟨fun h n hn=> ?_,fun h n hn=> ?_⟩
 ·obtain⟨x,hx,rfl⟩:=dq hp
  have:=oQ.1 (h x hx)
  unfold Pf at this
  rwa [gv]at this
 ·rw[oQ]
  unfold Pf
  rw[gv]
  exact h _ (ez hx)
 ·exact fun e=>h n hn (oQ.2 e)
 ·exact fun e=>h n hn (oQ.1 e)
def hbB(P:List TB)(x:Sy):Bool:=IZ P x.a x.b==x.no
def hdB(P:List TB)(l:List Sy):Bool:= !(l.any (hbB P))
theorem Is{P:List TB}{l:List Sy}:hdB P l=true↔∀x∈l,Ph (ag P) x:=by
 unfold hdB Ph hbB
 rw[Bool.not_eq_true',List.any_eq_false]
 refine⟨fun h x hx=> ?_,fun h x hx=> ?_⟩
 ·have h1:=h x hx
  rw[<- oQ]
  exact SB
 ·have h1:=h x hx
  rw[<- oQ]at h1
  exact SB
theorem rM{s:bU}(h:bB s){P:List TB}(hP:x6 P):aW Tryz.prog 31 [s.d, .sl (P.map TB.d)] (.ret [.bool (Pj P s)]):=by
 have rY:=h.iS.len
 have uO:=h.tl
 have xM:=hP.len
 refine aW.aG mix agt aE ?_
 rw[c31]
 refine tv ?_
 refine aD (fun k:Nat=>⟨aX [.ab, .ab, .ptr 0 0, .ptr 1 0, .ab, .ab, .ab, .ab, .d (.sl (s.binds.map TB.d)), .d (.i s.binds.length), .d (.i k)],ay (ay (fun _=> .no) 0 (.row s.row)) 1 (.row [.d (.sl (P.map TB.d))]),2⟩)
  (fun k=>k<=s.binds.length/\(s.binds.all fun x=>IZ P (Pf x) x.term)=((s.binds.drop k).all fun x=>IZ P (Pf x) x.term)) (fun k=>s.binds.length - k) 0 ⟨Nat.zero_le _,rfl⟩ ?_ (fun k hk=> ?_)
 ·exact PF
 obtain⟨hk,ha⟩:=hk
 refine tv ?_
 refine ak (fun h6=> ?_) (fun h6=> ?_)
 ·replace h6:k<s.binds.length:=by simp at h6;omega
  obtain⟨x,hx⟩:=aB h6
  have cf:=List.mem_of_getElem? hx
  obtain⟨hr,hv⟩:=h.iS.ok x cf
  have FX:s.binds.drop k=x::s.binds.drop (k+1):=by
   exact LH
  rw[FX,List.all_cons]at ha
  have cs:aW Tryz.prog 36 [.sl (P.map TB.d),(Pf x).d,x.term.d] (.ret [.bool (IZ P (Pf x) x.term)]):=xq af hP.gN (Pf x) x.term (Vs.var hr) (Ik _) (bz hv).1 (il hv)
  refine rU hx ?_
  refine bC (Y0 _) ?_
  refine rU hx ?_
  refine aZ cs rfl ?_
  refine rU hx ?_
  refine aK (bp rfl) ?_
  cases hs:IZ P (Pf x) x.term with
  |false=>
   rw[hs,Bool.false_and]at ha
   have:Pj P s=false:=by unfold Pj;rw[ha];rfl
   exact yp
  |true=>
   rw[hs,Bool.true_and]at ha
   refine cK ?_
   refine aj (k+1) ⟨h6,ha⟩ af (bL.bS _ af af dh (fun j hj=> ?_) ?_)
   ·have hj:j<2:=hj
    rcases(by omega:j=0\/j=1)with rfl|rfl
    ·exact cg
    ·exact cg
   ·exact dT
 ·replace h6:k=s.binds.length:=by simp at h6;omega
  subst h6
  rw[List.drop_length]at ha
  have MH:Pj P s= !(s.aI.any fun n=>IZ P n.a n.b):=by unfold Pj;rw[ha];rfl
  rw[MH]
  refine tv ?_
  refine aT (RQ s.aI af (R:= .row [.d (.sl (P.map TB.d))]) (fun n=>IZ P n.a n.b) (fun n hn o nx hg hp K X hK=> ?_) _ _ ?_ ?_ ?_ _ _ fun o' nx' g2 g3 g4=> ?_)
  ·obtain⟨na,nb,_⟩:=h.aI n hn
   have lp:1<nx:=hg.lt BW
   have w1:∀k,(1:Nat)≠nx+k:=fun k=>af
   have w2:(1:Nat)≠nx:=af
   have cs:aW Tryz.prog 36 [.sl (P.map TB.d),n.a.d,n.b.d] (.ret [.bool (IZ P n.a n.b)]):=xq af hP.gN n.a n.b (bz na).1 (il na) (bz nb).1 (il nb)
   refine bP.aG mix agR aE ?_
   rw[c89]
   refine K0 w1 w2 ?_
   refine aq cs rfl ?_
   refine K0 w1 w2 ?_
   exact hK _ _ af ((hg.mono af).ay af rfl) (fun j hj=>by(repeat(first|rfl|rw[aa]|rw[ae _ _ _ _ (by omega)])))
  ·exact dh
  ·exact cg
  ·omega
  ·exact pD
theorem vf{sg:az}{l:List Sy}(hl:l.length<=1000)(hx:∀x∈l,x.Ok sg){P:List TB}(hP:x6 P):aW Tryz.prog 32 [.sl (P.map TB.d), .sl (l.map Sy.d)] (.ret [.bool (hdB P l)]):=by
 have xM:=hP.len
 refine aW.aG mix agu aE ?_
 rw[c32]
 refine tv ?_
 refine aT (Ip l af (R:= .row [.d (.sl (P.map TB.d))]) (hbB P) (fun x hm o nx hg hp K X hK=> ?_) _ _ ?_ ?_ ?_ _ _ fun o' nx' g2 g3 g4=> ?_)
 ·obtain⟨va,vb⟩:=hx x hm
  have lp:0<nx:=hg.lt BW
  have w1:∀k,(0:Nat)≠nx+k:=fun k=>af
  have w2:(0:Nat)≠nx:=af
  have cs:aW Tryz.prog 36 [.sl (P.map TB.d),x.a.d,x.b.d] (.ret [.bool (IZ P x.a x.b)]):=xq af hP.gN x.a x.b (bz va).1 (il va) (bz vb).1 (il vb)
  refine bP.aG mix agS aE ?_
  rw[c90]
  refine K0 w1 w2 ?_
  refine aZ cs rfl ?_
  refine K0 w1 w2 ?_
  refine aK (bp rfl) ?_
  refine K0 w1 w2 ?_
  refine hK _ _ ?_ ?_ (fun j hj=> ?_)
  ·omega
  ·exact(hg.mono af).ay af rfl
  ·exact cg
 ·exact dh
 ·exact cg
 ·omega
 ·refine cK ?_
  rfl
end Go.Proofs.YtlhemmpklhhgoaaGreat
set_option maxHeartbeats 8000000
namespace Go.Proofs.YtlhemmpklhhgoaaGreat
theorem qk(n:Int)(ks:List Tm):aW Tryz.prog 85 [.i n, .sl (ks.map Tm.d)] (.ret [(Tm.mk 3 n ks).d]):=by
 refine aW.aG mix ado aE ?_
 rw[c85]
 rw[Tm.Db]
 exact pD
def xr(sg:az)(j:Nat)(a:Int):Bool:=match sg.cons[j]? with|some c=>c.args==a|none=>false
theorem OE{sg:az}{j:Nat}{a:Int}(h:j<sg.cons.length):∃c,sg.cons[j]? =some c/\(c.args==a)=xr sg j a:=by
 obtain⟨c,hc⟩:=aB h
 exact⟨c,hc,by unfold xr;rw[hc]⟩
theorem OG{sg:az}{j:Nat}{a:Int}(h: ¬j<sg.cons.length):xr sg j a=false:=by
 unfold xr
 rw[List.getElem?_eq_none (by omega)]
theorem kq(sg:az)(j:Nat)(a:Int):(∃c,sg.cons[j]? =some c/\(c.args==a)=true/\xr sg j a=true/\j<sg.cons.length)\/(∃c,sg.cons[j]? =some c/\(c.args==a)=false/\xr sg j a=false/\j<sg.cons.length)\/(¬j<sg.cons.length/\xr sg j a=false):=by
 by_cases h:j<sg.cons.length
 ·obtain⟨c,h1,h2⟩:=OE (a:=a) h
  cases hh:xr sg j a with
  |true=>exact .inl ⟨c,h1,h2.trans hh,rfl,h⟩
  |false=>exact .inr (.inl ⟨c,h1,h2.trans hh,rfl,h⟩)
 ·exact .inr (.inr ⟨h,OG h⟩)
def byF(bs:List Int)(n:Nat):Int:=if bs=[]then 0 else(bs[n%bs.length]?).getD 0
def KY(sg:az)(k:Int)(i:Nat)(t:Tm):Tm:=
 let u:=if xr sg 3 1=true then .mk 3 3 [t]else t
 if i=1/\xr sg 5 2=true then .mk 3 5 [u, .mk 3 (k.tmod 2) []]else u
def lZ(sg:az)(k:Int)(t:Tm):Nat->Tm
 |0=>t
 |i+1=>KY sg k i (lZ sg k t i)
def x7(sg:az)(k:Int):Tm:=if k.tmod 5=4 then .mk 2 (k.tdiv 5) []else if xr sg 2 0=true then .mk 3 2 []else .mk 3 (k.tmod 2) []
def ptF(sg:az)(k:Int):Tm:=lZ sg k (x7 sg k) ((k.tdiv 16).tmod 4).toNat
noncomputable def OH:IC->IC
 | .block _ x=>x
 | .loop x=>x
 |x=>x
noncomputable def Bv:IC:=OH (OH (OH c28.snd.snd.fst.snd)).snd.snd.fst
noncomputable def ptR:IC:=Bv.snd.snd.snd.snd.snd.snd
def Pk(sg:az)(L:List TB)(a:Nat)(u:Tm):Nat->ad:=ay (ay (ay (fun _=> .no) 0 (.row sg.row)) 1 (.arr 0 59 4 (L.map TB.d))) a (.row u.row)
theorem OI{sg:az}{L:List TB}{a:Nat}{u:Tm}(ha:2<=a):Pk sg L a u 0= .row sg.row/\Pk sg L a u 1= .arr 0 59 4 (L.map TB.d)/\Pk sg L a u a= .row u.row:=by
 unfold Pk
 exact⟨by(repeat(first|rfl|rw[aa]|rw[ae _ _ _ _ (by omega)])),by(repeat(first|rfl|rw[aa]|rw[ae _ _ _ _ (by omega)])),by(repeat(first|rfl|rw[aa]|rw[ae _ _ _ _ (by omega)]))⟩
theorem vn{sg:az}{L:List TB}{a:Nat}{u:Tm}(ha:2<=a){env:List V}{e:Nat->V}{so:Nat->ad}{m:Nat}(h0:so 0= .row sg.row)(h1:so 1= .arr 0 59 4 (L.map TB.d))(h2:so a= .row u.row\/so a= .row [.d (.i u.op), .d (.i u.n), .ax]/\u.kids=[])(he:iP (a+1) [] so (fun _=>False) e env 0):bL 0 ⟨e,so,m⟩ ⟨aX env,Pk sg L a u,a+1⟩:=by
 obtain⟨u0,u1,ua⟩:=OI (sg:=sg) (L:=L) (u:=u) ha
 refine bL.see (fun _=>False) [] (a+1) env rfl af (fun j hj=> ?_) (fun i g h=>by cases h) (fun j hj=> ?_) (fun j h1 h2=>h1.elim) (fun i j gi gj id ep fT h h' e1 e2=>by cases h) he
 ·by_cases e0:j=0
  ·subst e0;rw[u0];exact bn h0 (fun r hr=>by simp[ad.refs,V.aL,V.refs]at hr)
  by_cases e1:j=1
  ·subst e1;rw[u1];exact bn h1 (fun r hr=>by simp[ad.refs]at hr)
  by_cases e2:j=a
  ·subst e2;rw[ua]
   rcases h2 with h2|⟨h2,hk⟩
   ·exact bn h2 (fun r hr=>by simp[ad.refs,V.aL,V.refs]at hr)
   ·rw[show u.row=[.d (.i u.op), .d (.i u.n), .d (.sl [])] by show [_,_,V.d (.sl (u.kids.map Tm.d))]=_;rw[hk];rfl]
    exact jM h2 (jN (jN (A5 rfl (fun id h=>by cases h) jO)))
  have:Pk sg L a u j= .no:=by unfold Pk;(repeat(first|rfl|rw[aa]|rw[ae _ _ _ _ (by omega)]))
  rw[this];exact js
 ·have hj:a+1<=j:=hj
  show Pk sg L a u j= .no
  unfold Pk;(repeat(first|rfl|rw[aa]|rw[ae _ _ _ _ (by omega)]))
theorem oR{sg:az}{k:Int}(hk:0<=k/\k<=255){t:Tm}{n:Nat}(hn:n<20){L:List TB}(hL:L.length=n){bs:List Int}{e:Nat->V}{o:Nat->ad}{nx a:Nat}(ha:2<=a/\a<nx)
 (e1:e 1= .d (.sl (bs.map (D.int .u8)))) (e2:e 2= .ptr 0 0) (e5:e 5= .osl 1 0) (e6:e 6= .d (.i n)) (e7:e 7= .d (.i k)) (e8:e 8= .ptr a 0) (Gp:e 10= .d (.i n)) (o0:o 0= .row sg.row) (o1:o 1= .arr 0 59 4 (L.map TB.d)) (oa:o a= .row t.row\/o a= .row [.d (.i t.op), .d (.i t.n), .ax]/\t.kids=[]) (Q:fK->S->Prop)
 (hQ:∀ (e':Nat->V) (o':Nat->ad) (nx':Nat),e' 1= .d (.sl (bs.map (D.int .u8)))->e' 2= .ptr 0 0->e' 5= .osl 1 1->e' 10= .d (.i n)->o' 0= .row sg.row->o' 1= .arr 1 59 4 ((L++[(⟨(n:Int),lZ sg k t ((k.tdiv 16).tmod 4).toNat⟩:TB)]).map TB.d)->Q .normal ⟨e',o',nx'⟩):
 j7 Tryz.prog 98 0 false ptR Q ⟨e,o,nx⟩:=by
 have hq0:0<=(k.tdiv 16).tmod 4:=Int.tmod_nonneg 4 (Int.tdiv_nonneg hk.1 bF)
 obtain⟨m,hm⟩:∃m:Nat,(k.tdiv 16).tmod 4=(m:Int):=⟨((k.tdiv 16).tmod 4).toNat,af⟩
 rw[hm,Int.toNat_natCast]at hQ
 have hm4:m<4:=by have:=Int.tmod_lt_of_pos (k.tdiv 16) (by decide:(0:Int)<4);omega
 have d1:(1:Nat)≠a:=af
 have d0:(0:Nat)≠a:=af
 simp only[ptR,Bv,OH,c28,IC.snd,IC.fst]
 have hw:IntKind.i64.wrap (k.tdiv 16)=k.tdiv 16:=by
  rw[Int.tdiv_eq_ediv_of_nonneg hk.1]
  exact wrap64 af af
 have EE:a≠0:=af
 have EF:a≠1:=af
 simp+contextual (disch:=first|omega|simp only[go_sem,false_implies]) only[go_sem,wrap64,if_pos,e1,e2,e5,e6,e7,e8,Gp,hw,hm]
 refine aD (fun i:Nat=>⟨aX [.ab, .d (.sl (bs.map (D.int .u8))), .ptr 0 0, .ab, .ab, .osl 1 0, .d (.i n), .d (.i k), .ptr a 0, .ab, .d (.i n), .ab, .ab, .ab, .ab, .ab, .ab, .ab, .ab, .ab, .ab, .ab, .ab, .ab, .ab, .ab, .ab, .ab, .ab, .ab, .ab, .ab, .ab, .ab, .ab, .ab, .ab, .ab, .ab, .ab, .ab, .ab, .ab, .ab, .ab, .ab, .ab, .ab, .d (.i m), .d (.i i)],Pk sg L a (lZ sg k t i),a+1⟩)
  (fun i=>i<=m) (fun i=>m - i) 0 (Nat.zero_le _) ?_ (fun i hi=> ?_)
 ·refine vn ha.1 o0 o1 oa ?_
  refine cD ?_
  refine cZ (by(repeat(first|rfl|rw[aa]|rw[ae _ _ _ _ (by omega)]));exact e1) ?_
  refine iA (by(repeat(first|rfl|rw[aa]|rw[ae _ _ _ _ (by omega)]));exact e2) oU ?_
  refine cD (cD ?_)
  refine iA Sj (by simp[V.refs];omega) ?_
  refine cZ (by(repeat(first|rfl|rw[aa]|rw[ae _ _ _ _ (by omega)]));exact e6) ?_
  refine cZ (by(repeat(first|rfl|rw[aa]|rw[ae _ _ _ _ (by omega)]));exact e7) ?_
  refine iA (by(repeat(first|rfl|rw[aa]|rw[ae _ _ _ _ (by omega)]));exact e8) oU ?_
  refine cD ?_
  refine cZ (by(repeat(first|rfl|rw[aa]|rw[ae _ _ _ _ (by omega)]));exact Gp) ?_
  exact jH
 have hi:i<=m:=hi
 obtain⟨u0,u1,ua⟩:=OI (sg:=sg) (L:=L) (u:=lZ sg k t i) ha.1
 refine BQ u0 u1 ua d0 d1 EE EF ?_
 refine ak (fun h6=> ?_) (fun h6=> ?_)
 ·replace h6:i<m:=by simp at h6;omega
  rcases kq sg 3 1 with⟨c3,M0,Y1,KZ,hl3⟩|⟨c3,M0,Y1,KZ,hl3⟩|⟨hl3,KZ⟩
  ·have OJ:decide ((sg.cons.length:Int)>3)=true:=decide_eq_true af
   simp+contextual (disch:=first|omega|simp only[go_sem,false_implies]) only[go_sem,wrap64,if_pos,u0,u1,ua,d0,d1,EE,EF,Nat.add_assoc,Nat.left_eq_add,Nat.add_eq_left,Nat.add_left_cancel_iff,List.length_map,OJ,M0,Y1]
   refine bE (qk 3 [lZ sg k t i]) ?_
   by_cases h1:i=1
   ·subst h1
    rcases kq sg 5 2 with⟨c5,SM,B2,Gk,Pl⟩|⟨c5,SM,B2,Gk,Pl⟩|⟨Pl,Gk⟩
    ·have xI:decide ((sg.cons.length:Int)>5)=true:=decide_eq_true af
     have hS:lZ sg k t (1+1)= .mk 3 5 [.mk 3 3 [lZ sg k t 1], .mk 3 (k.tmod 2) []]:=by rw[lZ,KY,KZ,Gk];simp
     simp+contextual (disch:=first|omega|simp only[go_sem,false_implies]) only[go_sem,wrap64,if_pos,u0,u1,ua,d0,d1,EE,EF,Nat.add_assoc,Nat.left_eq_add,Nat.add_eq_left,Nat.add_left_cancel_iff,List.length_map,xI,SM,B2]
     refine bC (qk (k.tmod 2) []) ?_
     refine BQ u0 u1 ua d0 d1 EE EF ?_
     refine bC (qk 5 [.mk 3 3 [lZ sg k t 1], .mk 3 (k.tmod 2) []]) ?_
     refine BQ u0 u1 ua d0 d1 EE EF ?_
     refine aK (bD (ids:=[a,a+40]) (nx:=a+43) aE aE [([0],[]),([],[]),([],[]),([],[]),([],[1]),([1],[1]),([0],[0])] bF) ?_
     exact abp
    ·have xI:decide ((sg.cons.length:Int)>5)=true:=decide_eq_true af
     have hS:lZ sg k t (1+1)= .mk 3 3 [lZ sg k t 1]:=by rw[lZ,KY,KZ,Gk];simp
     exact zw7
    ·have xI:decide ((sg.cons.length:Int)>5)=false:=decide_eq_false af
     have hS:lZ sg k t (1+1)= .mk 3 3 [lZ sg k t 1]:=by rw[lZ,KY,KZ,Gk];simp
     exact VN
   ·have fh:((i:Int)==1)=false:=by rw[beq_eq_false_iff_ne];omega
    have hS:lZ sg k t (i+1)= .mk 3 3 [lZ sg k t i]:=by rw[lZ,KY,KZ];simp[h1]
    exact VP
  ·have OJ:decide ((sg.cons.length:Int)>3)=true:=decide_eq_true af
   simp+contextual (disch:=first|omega|simp only[go_sem,false_implies]) only[go_sem,wrap64,if_pos,u0,u1,ua,d0,d1,EE,EF,Nat.add_assoc,Nat.left_eq_add,Nat.add_eq_left,Nat.add_left_cancel_iff,List.length_map,OJ,M0,Y1]
   by_cases h1:i=1
   ·subst h1
    rcases kq sg 5 2 with⟨c5,SM,B2,Gk,Pl⟩|⟨c5,SM,B2,Gk,Pl⟩|⟨Pl,Gk⟩
    ·have xI:decide ((sg.cons.length:Int)>5)=true:=decide_eq_true af
     have hS:lZ sg k t (1+1)= .mk 3 5 [lZ sg k t 1, .mk 3 (k.tmod 2) []]:=by rw[lZ,KY,KZ,Gk];simp
     simp+contextual (disch:=first|omega|simp only[go_sem,false_implies]) only[go_sem,wrap64,if_pos,u0,u1,ua,d0,d1,EE,EF,Nat.add_assoc,Nat.left_eq_add,Nat.add_eq_left,Nat.add_left_cancel_iff,List.length_map,xI,SM,B2]
     refine bC (qk (k.tmod 2) []) ?_
     refine BQ u0 u1 ua d0 d1 EE EF ?_
     refine bC (qk 5 [lZ sg k t 1, .mk 3 (k.tmod 2) []]) ?_
     refine BQ u0 u1 ua d0 d1 EE EF ?_
     refine aK (bD (ids:=[a,a+36]) (nx:=a+39) aE aE [([0],[]),([],[]),([],[]),([],[]),([],[1]),([1],[1]),([0],[0])] bF) ?_
     exact abp
    ·have xI:decide ((sg.cons.length:Int)>5)=true:=decide_eq_true af
     have hS:lZ sg k t (1+1)=lZ sg k t 1:=by rw[lZ,KY,KZ,Gk];simp
     exact zw7
    ·have xI:decide ((sg.cons.length:Int)>5)=false:=decide_eq_false af
     have hS:lZ sg k t (1+1)=lZ sg k t 1:=by rw[lZ,KY,KZ,Gk];simp
     exact VN
   ·have fh:((i:Int)==1)=false:=by rw[beq_eq_false_iff_ne];omega
    have hS:lZ sg k t (i+1)=lZ sg k t i:=by rw[lZ,KY,KZ];simp[h1]
    exact VP
  ·have OJ:decide ((sg.cons.length:Int)>3)=false:=decide_eq_false af
   refine K1 u0 u1 ua d0 d1 EE EF OJ ?_
   by_cases h1:i=1
   ·subst h1
    rcases kq sg 5 2 with⟨c5,SM,B2,Gk,Pl⟩|⟨c5,SM,B2,Gk,Pl⟩|⟨Pl,Gk⟩
    ·exact absurd Pl af
    ·exact absurd Pl af
    ·have xI:decide ((sg.cons.length:Int)>5)=false:=decide_eq_false af
     have hS:lZ sg k t (1+1)=lZ sg k t 1:=by rw[lZ,KY,KZ,Gk];simp
     exact VN
   ·have fh:((i:Int)==1)=false:=by rw[beq_eq_false_iff_ne];omega
    have hS:lZ sg k t (i+1)=lZ sg k t i:=by rw[lZ,KY,KZ];simp[h1]
    exact VP
 ·replace h6:i=m:=by simp at h6;omega
  subst h6
  have dV:n<=140737488355327/\(n+1)*48<=140737488355328:=af
  simp+contextual (disch:=first|omega|simp only[go_sem,false_implies]) only[go_sem,wrap64,if_pos,u0,u1,ua,d0,d1,EE,EF,Nat.add_assoc,Nat.left_eq_add,Nat.add_eq_left,Nat.add_left_cancel_iff,List.length_map,hL,dV]
  refine hQ _ _ _ rfl rfl rfl rfl ?_ ?_
  ·(repeat(first|rfl|rw[aa]|rw[ae _ _ _ _ (by omega)]));exact u0
  ·(repeat(first|rfl|rw[aa]|rw[ae _ _ _ _ (by omega)]));rw[List.map_append];rfl
end Go.Proofs.YtlhemmpklhhgoaaGreat
set_option maxHeartbeats 8000000
namespace Go.Proofs.YtlhemmpklhhgoaaGreat
noncomputable def ptB:IC:=Bv.snd.snd.snd
theorem It{sg:az}{k:Int}(hk:0<=k/\k<=255){n:Nat}(hn:n<20){L:List TB}(hL:L.length=n){bs:List Int}{e:Nat->V}{o:Nat->ad}{nx:Nat}(uq:2<=nx)
 (e1:e 1= .d (.sl (bs.map (D.int .u8)))) (e2:e 2= .ptr 0 0) (e5:e 5= .osl 1 0) (e6:e 6= .d (.i n)) (e7:e 7= .d (.i k)) (Gp:e 10= .d (.i n)) (o0:o 0= .row sg.row) (o1:o 1= .arr 0 59 4 (L.map TB.d)) (Q:fK->S->Prop)
 (hQ:∀ (e':Nat->V) (o':Nat->ad) (nx':Nat),e' 1= .d (.sl (bs.map (D.int .u8)))->e' 2= .ptr 0 0->e' 5= .osl 1 1->e' 10= .d (.i n)->o' 0= .row sg.row->o' 1= .arr 1 59 4 ((L++[(⟨(n:Int),ptF sg k⟩:TB)]).map TB.d)->Q .normal ⟨e',o',nx'⟩):
 j7 Tryz.prog 98 0 false ptB Q ⟨e,o,nx⟩:=by
 have hw:IntKind.i64.wrap (k.tdiv 5)=k.tdiv 5:=by
  rw[Int.tdiv_eq_ediv_of_nonneg hk.1]
  exact wrap64 af af
 have w0:∀j,(0:Nat)≠nx+j:=fun j=>af
 have w1:∀j,(1:Nat)≠nx+j:=fun j=>af
 have Pm:(0:Nat)≠nx:=af
 have Po:(1:Nat)≠nx:=af
 unfold ptF at hQ
 simp only[ptB,Bv,OH,c28,IC.snd,IC.fst]
 show j7 _ _ _ _ (.seq _ (.seq _ (.seq _ ptR))) _ _
 simp+contextual (disch:=first|omega|simp only[go_sem,false_implies]) only[go_sem,wrap64,if_pos,e1,e2,e5,e6,e7,Gp,o0,o1,w0,w1,Pm,Po,Nat.add_assoc,Nat.left_eq_add,Nat.add_eq_left,Nat.add_left_cancel_iff]
 refine bE (qk (k.tmod 2) []) ?_
 rcases kq sg 2 0 with⟨c2,sD,Y2,hA2,SL⟩|⟨c2,sD,Y2,hA2,SL⟩|⟨SL,hA2⟩
 ·have OK:decide ((sg.cons.length:Int)>2)=true:=decide_eq_true af
  simp+contextual (disch:=first|omega|simp only[go_sem,false_implies]) only[go_sem,wrap64,if_pos,e1,e2,e5,e6,e7,Gp,o0,o1,w0,w1,Pm,Po,Nat.add_assoc,Nat.left_eq_add,Nat.add_eq_left,Nat.add_left_cancel_iff,OK,sD,Y2]
  refine bE (qk 2 []) ?_
  by_cases h5:k.tmod 5=4
  ·have uJ:(k.tmod 5==4)=true:=by rw[beq_iff_eq];exact h5
   have hp:x7 sg k= .mk 2 (k.tdiv 5) []:=by unfold x7;rw[if_pos h5]
   simp+contextual (disch:=first|omega|simp only[go_sem,false_implies]) only[go_sem,wrap64,if_pos,e1,e2,e5,e6,e7,Gp,o0,o1,w0,w1,Pm,Po,Nat.add_assoc,Nat.left_eq_add,Nat.add_eq_left,Nat.add_left_cancel_iff,uJ,hw]
   refine oR (bs:=bs) hk hn hL (t:=x7 sg k) (a:=nx+3) ?_ ?_ ?_ ?_ ?_ ?_ ?_ ?_ ?_ ?_ ?_ Q hQ
   ·exact ye
   ·exact IF
   ·exact IG
   ·exact II
   ·exact IJ
   ·exact IK
   ·rfl
   ·exact IE
   ·exact IQ
   ·exact IU
   ·right;(repeat(first|rfl|rw[aa]|rw[ae _ _ _ _ (by omega)]));rw[hp];exact⟨rfl,rfl⟩
  ·have uJ:(k.tmod 5==4)=false:=by rw[beq_eq_false_iff_ne];exact h5
   have hp:x7 sg k= .mk 3 2 []:=by unfold x7;rw[if_neg h5,hA2];rfl
   simp+contextual (disch:=first|omega|simp only[go_sem,false_implies]) only[go_sem,wrap64,if_pos,e1,e2,e5,e6,e7,Gp,o0,o1,w0,w1,Pm,Po,Nat.add_assoc,Nat.left_eq_add,Nat.add_eq_left,Nat.add_left_cancel_iff,uJ,hw]
   refine oR (bs:=bs) hk hn hL (t:=x7 sg k) (a:=nx+3) ?_ ?_ ?_ ?_ ?_ ?_ ?_ ?_ ?_ ?_ ?_ Q hQ
   ·exact ye
   ·exact IF
   ·exact IG
   ·exact II
   ·exact IJ
   ·exact IK
   ·rfl
   ·exact IE
   ·exact IQ
   ·exact IU
   ·left;(repeat(first|rfl|rw[aa]|rw[ae _ _ _ _ (by omega)]));rw[hp]
 ·have OK:decide ((sg.cons.length:Int)>2)=true:=decide_eq_true af
  simp+contextual (disch:=first|omega|simp only[go_sem,false_implies]) only[go_sem,wrap64,if_pos,e1,e2,e5,e6,e7,Gp,o0,o1,w0,w1,Pm,Po,Nat.add_assoc,Nat.left_eq_add,Nat.add_eq_left,Nat.add_left_cancel_iff,OK,sD,Y2]
  by_cases h5:k.tmod 5=4
  ·have uJ:(k.tmod 5==4)=true:=by rw[beq_iff_eq];exact h5
   have hp:x7 sg k= .mk 2 (k.tdiv 5) []:=by unfold x7;rw[if_pos h5]
   simp+contextual (disch:=first|omega|simp only[go_sem,false_implies]) only[go_sem,wrap64,if_pos,e1,e2,e5,e6,e7,Gp,o0,o1,w0,w1,Pm,Po,Nat.add_assoc,Nat.left_eq_add,Nat.add_eq_left,Nat.add_left_cancel_iff,uJ,hw]
   refine oR (bs:=bs) hk hn hL (t:=x7 sg k) (a:=nx+3) ?_ ?_ ?_ ?_ ?_ ?_ ?_ ?_ ?_ ?_ ?_ Q hQ
   ·exact ye
   ·exact IF
   ·exact IG
   ·exact II
   ·exact IJ
   ·exact IK
   ·rfl
   ·exact IE
   ·exact IQ
   ·exact IU
   ·right;(repeat(first|rfl|rw[aa]|rw[ae _ _ _ _ (by omega)]));rw[hp];exact⟨rfl,rfl⟩
  ·have uJ:(k.tmod 5==4)=false:=by rw[beq_eq_false_iff_ne];exact h5
   have hp:x7 sg k= .mk 3 (k.tmod 2) []:=by unfold x7;rw[if_neg h5,hA2];rfl
   simp+contextual (disch:=first|omega|simp only[go_sem,false_implies]) only[go_sem,wrap64,if_pos,e1,e2,e5,e6,e7,Gp,o0,o1,w0,w1,Pm,Po,Nat.add_assoc,Nat.left_eq_add,Nat.add_eq_left,Nat.add_left_cancel_iff,uJ,hw]
   refine oR (bs:=bs) hk hn hL (t:=x7 sg k) (a:=nx+3) ?_ ?_ ?_ ?_ ?_ ?_ ?_ ?_ ?_ ?_ ?_ Q hQ
   ·exact ye
   ·exact IF
   ·exact IG
   ·exact II
   ·exact IJ
   ·exact IK
   ·rfl
   ·exact IE
   ·exact IQ
   ·exact IU
   ·left;(repeat(first|rfl|rw[aa]|rw[ae _ _ _ _ (by omega)]));rw[hp]
 ·have OK:decide ((sg.cons.length:Int)>2)=false:=decide_eq_false af
  simp+contextual (disch:=first|omega|simp only[go_sem,false_implies]) only[go_sem,wrap64,if_pos,e1,e2,e5,e6,e7,Gp,o0,o1,w0,w1,Pm,Po,Nat.add_assoc,Nat.left_eq_add,Nat.add_eq_left,Nat.add_left_cancel_iff,OK]
  by_cases h5:k.tmod 5=4
  ·have uJ:(k.tmod 5==4)=true:=by rw[beq_iff_eq];exact h5
   have hp:x7 sg k= .mk 2 (k.tdiv 5) []:=by unfold x7;rw[if_pos h5]
   simp+contextual (disch:=first|omega|simp only[go_sem,false_implies]) only[go_sem,wrap64,if_pos,e1,e2,e5,e6,e7,Gp,o0,o1,w0,w1,Pm,Po,Nat.add_assoc,Nat.left_eq_add,Nat.add_eq_left,Nat.add_left_cancel_iff,uJ,hw]
   refine oR (bs:=bs) hk hn hL (t:=x7 sg k) (a:=nx+3) ?_ ?_ ?_ ?_ ?_ ?_ ?_ ?_ ?_ ?_ ?_ Q hQ
   ·exact ye
   ·exact IF
   ·exact IG
   ·exact II
   ·exact IJ
   ·exact IK
   ·rfl
   ·exact IE
   ·exact IQ
   ·exact IU
   ·right;(repeat(first|rfl|rw[aa]|rw[ae _ _ _ _ (by omega)]));rw[hp];exact⟨rfl,rfl⟩
  ·have uJ:(k.tmod 5==4)=false:=by rw[beq_eq_false_iff_ne];exact h5
   have hp:x7 sg k= .mk 3 (k.tmod 2) []:=by unfold x7;rw[if_neg h5,hA2];rfl
   simp+contextual (disch:=first|omega|simp only[go_sem,false_implies]) only[go_sem,wrap64,if_pos,e1,e2,e5,e6,e7,Gp,o0,o1,w0,w1,Pm,Po,Nat.add_assoc,Nat.left_eq_add,Nat.add_eq_left,Nat.add_left_cancel_iff,uJ,hw]
   refine oR (bs:=bs) hk hn hL (t:=x7 sg k) (a:=nx+3) ?_ ?_ ?_ ?_ ?_ ?_ ?_ ?_ ?_ ?_ ?_ Q hQ
   ·exact ye
   ·exact IF
   ·exact IG
   ·exact II
   ·exact IJ
   ·exact IK
   ·rfl
   ·exact IE
   ·exact IQ
   ·exact IU
   ·left;(repeat(first|rfl|rw[aa]|rw[ae _ _ _ _ (by omega)]));rw[hp]
end Go.Proofs.YtlhemmpklhhgoaaGreat
set_option maxHeartbeats 8000000
namespace Go.Proofs.YtlhemmpklhhgoaaGreat
def Kn(sg:az)(bs:List Int)(n:Nat):List TB:=(List.range n).map (fun(j:Nat)=>(⟨(j:Int),ptF sg (byF bs j)⟩:TB))
theorem Bw(sg:az)(bs:List Int)(n:Nat):(Kn sg bs n).length=n:=by simp[Kn]
theorem Ek(sg:az)(bs:List Int)(n:Nat):Kn sg bs (n+1)=Kn sg bs n++[(⟨(n:Int),ptF sg (byF bs n)⟩:TB)]:=by
 unfold Kn
 rw[List.range_succ,List.map_append]
 rfl
def ptO(sg:az)(L:List TB):Nat->ad:=ay (ay (fun _=> .no) 0 (.row sg.row)) 1 (.arr 0 59 4 (L.map TB.d))
theorem RR(sg:az)(bs:List Int)(hb:∀x∈bs,0<=x/\x<=255)(rY:bs.length<=9223372036854775807):aW Tryz.prog 28 [sg.d, .sl (bs.map (D.int .u8))] (.ret [.sl ((Kn sg bs 20).map TB.d)]):=by
 have KW:Good (ay (fun _=> .no) 0 (.row sg.row)) 1:=dh
 refine aW.aG mix agr aE ?_
 rw[c28]
 refine cK ?_
 refine aD (fun n:Nat=>⟨aX [.ab, .d (.sl (bs.map (D.int .u8))), .ptr 0 0, .ab, .ab, .osl 1 0, .ab, .ab, .ab, .ab, .d (.i n)],ptO sg (Kn sg bs n),2⟩)
  (fun n=>n<=20) (fun n=>20 - n) 0 (Nat.zero_le _) ?_ (fun n hn=> ?_)
 ·refine dJ (O:=ay (fun _=> .no) 0 (.row sg.row)) (c:=1) KW af (fun _=>False) .ax _ (fun _ h=>h.elim) (.inl ⟨rfl,rfl,bF⟩) (fun j hj=> ?_) ?_
  ·have:j=0:=af
   subst this
   rfl
  ·exact jH
 have hn:n<=20:=hn
 have v0:ptO sg (Kn sg bs n) 0= .row sg.row:=rfl
 have v1:ptO sg (Kn sg bs n) 1= .arr 0 59 4 ((Kn sg bs n).map TB.d):=rfl
 show j7 _ _ _ _ (.seq _ (.seq _ (.seq (.block 1 (.seq _ (.seq _ (.seq _ ptB)))) _))) _ _
 refine IB v0 v1 ?_
 refine ak (fun h6=> ?_) (fun h6=> ?_)
 ·replace h6:n<20:=by simp at h6;omega
  refine sc v0 v1 ?_
  refine ak (fun h7=> ?_) (fun h7=> ?_)
  ·have h7:0<bs.length:=by simp at h7;omega
   have hm:n%bs.length<bs.length:=Nat.mod_lt _ h7
   obtain⟨x,hx⟩:=aB hm
   have RF:=hb x (List.mem_of_getElem? hx)
   have hw:IntKind.i64.wrap x=x:=wrap64 af af
   have ht:((n:Int).tmod (bs.length:Int))=((n%bs.length:Nat):Int):=by rw[Int.tmod_eq_emod_of_nonneg (by omega)];exact(Int.natCast_emod n bs.length).symm
   have hz:(bs.length:Int)≠0:=af
   have hby:byF bs n=x:=by unfold byF;rw[if_neg (by intro e;rw[e]at h7;cases h7),hx];rfl
   simp+contextual (disch:=first|omega|simp only[go_sem,false_implies]) only[go_sem,wrap64,if_pos,v0,v1,List.length_map,hx,hw,ht,hz]
   refine It (sg:=sg) (k:=x) RF h6 (Bw sg bs n) (bs:=bs) ?_ ?_ ?_ ?_ ?_ ?_ ?_ ?_ ?_ _ (fun e' o' nx' g1 g2 g3 g4 g5 g6=> ?_)
   ·omega
   ·exact cg
   ·exact cg
   ·exact cg
   ·exact cg
   ·exact cg
   ·exact cg
   ·exact v0
   ·exact v1
   refine BS g1 g2 g3 g4 g5 g6 ?_
   refine aj (n+1) h6 af (dJ (O:=ay (fun _=> .no) 0 (.row sg.row)) (c:=1) KW af (fun j=>j=1) (.osl 1 1) _ (fun j e=>af) (.inr ⟨1,1,rfl,rfl, ?_⟩) (fun j hj=> ?_) ?_)
   ·rw[Ek,hby]
    exact g6
   ·have:j=0:=af
    subst this
    exact g5
   ·exact abE
  ·have h7:bs=[]:=by simp at h7;exact h7
   have hby:byF bs n=0:=by unfold byF;rw[if_pos h7]
   refine sc v0 v1 ?_
   refine It (sg:=sg) (k:=0) af h6 (Bw sg bs n) (bs:=bs) ?_ ?_ ?_ ?_ ?_ ?_ ?_ ?_ ?_ _ (fun e' o' nx' g1 g2 g3 g4 g5 g6=> ?_)
   ·omega
   ·exact cg
   ·exact cg
   ·exact cg
   ·exact cg
   ·exact cg
   ·exact cg
   ·exact v0
   ·exact v1
   refine BS g1 g2 g3 g4 g5 g6 ?_
   refine aj (n+1) h6 af (dJ (O:=ay (fun _=> .no) 0 (.row sg.row)) (c:=1) KW af (fun j=>j=1) (.osl 1 1) _ (fun j e=>af) (.inr ⟨1,1,rfl,rfl, ?_⟩) (fun j hj=> ?_) ?_)
   ·rw[Ek,hby]
    exact g6
   ·have:j=0:=af
    subst this
    exact g5
   ·exact abE
 ·replace h6:n=20:=by simp at h6;omega
  subst h6
  exact K5 v0 v1
end Go.Proofs.YtlhemmpklhhgoaaGreat
set_option maxHeartbeats 8000000
namespace Go.Proofs.YtlhemmpklhhgoaaGreat
theorem RS(sg:az)(k:Int):(x7 sg k).gN:=by
 unfold x7
 split
 ·simp[Tm.gN,Tm.xh]
 ·split<;>simp[Tm.gN,Tm.xh]
theorem Iu(sg:az)(k:Int){t:Tm}(ht:t.gN):∀i,(lZ sg k t i).gN
 |0=>ht
 |i+1=>by
  have h:=Iu sg k ht i
  simp only[lZ,KY]
  split
  ·split
   ·simp[Tm.gN,Tm.xh,h]
   ·simp[Tm.gN,Tm.xh,h]
  ·split
   ·simp[Tm.gN,Tm.xh,h]
   ·exact h
theorem OL(sg:az)(bs:List Int):x6 (Kn sg bs 20):=by
 refine⟨Bw _ _ _,fun i y hy=> ?_,fun y hy=> ?_⟩
 ·unfold Kn at hy
  rw[List.getElem?_map]at hy
  cases h:(List.range 20)[i]? with
  |none=>rw[h]at hy;cases hy
  |some j=>
   exact abw
 ·obtain⟨j,_,rfl⟩:=List.mem_map.1 hy
  exact Iu sg _ (RS sg _) _
theorem RT{s:bU}(h:bB s){P:List TB}(hP:x6 P):x6 (exR s P):=by
 unfold exR
 have key:∀ (l:List TB),(∀x∈l,x∈s.binds)->∀P,x6 P->x6 (l.foldl Bs P):=by
  intro l
  induction l with
  |nil=>intro _ P hP;exact hP
  |cons x l ih=>
   intro hl P hP
   obtain⟨hr,hv⟩:=h.iS.ok x (hl x aE)
   exact ih (fun y hy=>hl y lD) _ (u9 hP hr (il hv))
 exact key _ (fun x hx=>hx) P hP
theorem vg{s:bU}(h:bB s):∀ (n:Nat) {P:List TB},x6 P->x6 (Bt s n P)
 |0,_,hP=>hP
 |n+1,_,hP=>vg h n (RT h hP)
end Go.Proofs.YtlhemmpklhhgoaaGreat
namespace Go.Proofs.YtlhemmpklhhgoaaGreat
section
theorem zO{α:Type}{p q:α->Bool}(hpq:∀x,p x=true->q x=true):∀ {l:List α} {a:α},a∈l->q a=true->p a=false->l.countP p<l.countP q
 |x::l,a,ha,hq,hp=>by
  have hle:=List.countP_mono_left (l:=l) (p:=p) (q:=q) (fun x _ h=>hpq x h)
  rw[List.countP_cons,List.countP_cons]
  rcases List.mem_cons.1 ha with rfl|ha
  ·rw[hq,hp]
   simp
   omega
  ·have:=zO hpq ha hq hp
   have h2:(if p x=true then 1 else 0)<=(if q x=true then 1 else 0):=by
    by_cases h:p x=true
    ·rw[if_pos h,if_pos (hpq x h)];exact Nat.le_refl _
    ·rw[if_neg h];exact Nat.zero_le _
   omega
theorem Bx{P:List TB}(hP:x6 P){i:Nat}{y:TB}(hy:P[i]? =some y):Lv (ag P) i=y.term:=by
 have hn:((ag P).map (·.1)).Nodup:=by
  rw[List.nodup_iff_pairwise_ne,List.pairwise_iff_getElem]
  intro a c h1 h2 h3 he
  simp only[ag,List.getElem_map,List.length_map]at h1 h2 he
  have e1:=hP.var a P[a] (List.getElem?_eq_getElem h1)
  have e2:=hP.var c P[c] (List.getElem?_eq_getElem h2)
  omega
 have e:=hP.var i y hy
 have hm:((i:Int),y.term)∈ag P:=by rw[<- e];exact ez (List.mem_of_getElem? hy)
 unfold Lv
 rw[(fW hn).2 hm]
theorem Gl{P:List TB}(hP:x6 P){x:TB}(hr:0<=x.var/\x.var<20)(hf:x.term.gN){v:Int}(hv:0<=v/\v<20):(v≠x.var->Lv (ag (Bs P x)) v=Lv (ag P) v)/\(0<=eQ (aR (ag P) x.term) 4000 400->Lv (ag (Bs P x)) x.var=aR (ag P) x.term):=by
 have hQ:=u9 hP hr hf
 have hl:=hP.len
 constructor
 ·intro iu
  obtain⟨i,rfl⟩:∃i:Nat,v=i:=⟨v.toNat,af⟩
  obtain⟨y,hy⟩:=aB (show i<P.length from af)
  have hy2:(Bs P x)[i]? =some y:=by
   unfold Bs
   split
   ·rw[List.getElem?_set,if_neg (by omega)];exact hy
   ·exact hy
  rw[Bx hP hy,Bx hQ hy2]
 ·intro hw
  have e:((x.var.toNat:Nat):Int)=x.var:=af
  have hy2:(Bs P x)[x.var.toNat]? =some ⟨x.var,aR (ag P) x.term⟩:=by
   unfold Bs
   rw[if_pos hw,List.getElem?_set,if_pos rfl,if_pos (by omega)]
  have:=Bx hQ hy2
  rw[e]at this
  exact this
def tu(n:Nat):List TB:=(List.range n).map (fun(j:Nat)=>(⟨(j:Int), .mk 2 (5000000+(j:Int)) []⟩:TB))
theorem rN:x6 (tu 20):=by
 refine⟨by simp[tu],fun i y hy=> ?_,fun y hy=> ?_⟩
 ·unfold tu at hy
  rw[List.getElem?_map]at hy
  cases h:(List.range 20)[i]? with
  |none=>rw[h]at hy;cases hy
  |some j=>
   exact abw
 ·obtain⟨j,_,rfl⟩:=List.mem_map.1 hy
  simp[Tm.gN,Tm.xh]
theorem rO{v:Int}(hv:0<=v/\v<20):Lv (ag (tu 20)) v= .mk 2 (5000000+v) []:=by
 obtain⟨i,rfl⟩:∃i:Nat,v=i:=⟨v.toNat,af⟩
 have hi:i<20:=af
 have hy:(tu 20)[i]? =some ⟨(i:Int), .mk 2 (5000000+(i:Int)) []⟩:=by
  unfold tu
  rw[List.getElem?_map,List.getElem?_range hi]
  rfl
 exact Bx rN hy
theorem Vs.int {s:az}{t:Tm}(h:Vs s t)(h2:t.op=2):t.n<=1000000:=by
 have:=(qf.1 h).1
 unfold bw at this
 rw[if_neg (by omega),if_pos h2,Bool.and_eq_true]at this
 have:=this.2
 simp only[dU,Bool.and_eq_true,decide_eq_true_eq]at this
 omega
theorem Ko{s:az}:∀x:Tm,Vs s x->∀y:Tm,Vs s y->aR (ag (tu 20)) x=aR (ag (tu 20)) y->x=y:=by
 refine Tm.ek fun x ih hx y hy he=> ?_
 by_cases h1:x.op=1
 ·have rx:=hx.range (v:=x.n) ((fG h1).2 rfl)
  rw[du hx h1,rO rx]at he
  by_cases h2:y.op=1
  ·have ry:=hy.range (v:=y.n) ((fG h2).2 rfl)
   rw[du hy h2,rO ry]at he
   injection he with _ e2
   rw[hx.eta h1,hy.eta h2]
   congr 1
   omega
  ·rw[dY h2]at he
   injection he with e1 e2
   have:=hy.int e1.symm
   omega
 ·rw[dY h1]at he
  by_cases h2:y.op=1
  ·have ry:=hy.range (v:=y.n) ((fG h2).2 rfl)
   rw[du hy h2,rO ry]at he
   injection he with e1 e2
   have:=hx.int e1
   omega
  ·rw[dY h2]at he
   injection he with e1 e2 e3
   have key:∀ (ks cE:List Tm),(∀k∈ks,k∈x.kids)->(∀k∈cE,Vs s k)->ks.map (aR (ag (tu 20)))=cE.map (aR (ag (tu 20)))->ks=cE:=by
    intro ks
    induction ks with
    |nil=>intro cE _ _ hm;cases cE with
     |nil=>rfl
     |cons _ _=>cases hm
    |cons k ks uF=>
     intro cE v1 v2 hm
     cases cE with
     |nil=>cases hm
     |cons k' cE=>
      simp only[List.map_cons]at hm
      injection hm with m1 m2
      have hk:=v1 k aE
      rw[ih k hk (hx.ki hk) k' (v2 k' (by simp)) m1,uF cE (fun z hz=>v1 z (by simp[hz])) (fun z hz=>v2 z (by simp[hz])) m2]
   have e4:=key _ _ (fun k hk=>hk) (fun k hk=>hy.ki hk) e3
   cases x;cases y
   simp only[Tm.op,Tm.n,Tm.kids]at e1 e2 e4
   rw[e1,e2,e4]
theorem Kp{s:az}:∀t:Tm,Vs s t->(aR (ag (tu 20)) t).sz=t.sz:=by
 refine Tm.ek fun t ih ht=> ?_
 by_cases h1:t.op=1
 ·have rx:=ht.range (v:=t.n) ((fG h1).2 rfl)
  rw[du ht h1,rO rx]
  rw[ht.eta h1]
  simp[Tm.iw,Tm.kids,oH]
 ·rw[dY h1,Tm.iw,Tm.iw t]
  show 1+oH (t.kids.map _)=1+oH t.kids
  have key:∀ks:List Tm,(∀k∈ks,k∈t.kids)->oH (ks.map (aR (ag (tu 20))))=oH ks:=by
   intro ks
   induction ks with
   |nil=>intro _;rfl
   |cons k ks uF=>
    intro hk
    have e1:=ih k (hk k aE) (ht.ki (hk k aE))
    have e2:=uF (fun z hz=>hk z qq)
    simp only[List.map_cons,oH,List.sum_cons]at e2|-
    rw[e1,e2]
  rw[key _ (fun k hk=>hk)]
section
variable {s:bU}{l:List TB}{ρ:Int->Nat}{R:Nat}
def cR(s:bU)(ρ:Int->Nat)(v:Int):Nat:=(ag s.binds).countP (fun p=>decide (ρ p.1<=ρ v))
def Rt(l P:List TB)(v:Int):Prop:=Lv (ag P) v=aR (ag (tu 20)) (Lv (ag l) v)
structure Y3 (s:bU) (l:List TB) (ρ:Int->Nat) (P:List TB) (k:Nat):Prop where
 pnt:x6 P
 un:∀v,0<=v/\v<20->bQ (ag s.binds) v=none->Rt l P v
 bd:∀x∈s.binds,cR s ρ x.var<=k->Rt l P x.var
theorem OM(h:bB s)(hS:kn s.sig (ag s.binds) l ρ R)(hl:iq s.sig l){P:List TB}{k:Nat}(hR:Y3 s l ρ P k){x:TB}(hx:x∈s.binds):
 Y3 s l ρ (Bs P x) k/\∀y∈s.binds,cR s ρ y.var<=k+1->(Rt l P y.var\/y.var=x.var)->Rt l (Bs P x) y.var:=by
 obtain⟨hr,hv⟩:=h.iS.ok x hx
 have hlk:bQ (ag s.binds) x.var=some x.term:=(fW h.iS.keys).2 (ez hx)
 obtain⟨q1,q2,q3⟩:=hS.ok _ _ hlk
 have RU:=il hv
 have cu:cR s ρ x.var<=k+1->Rt l (Bs P x) x.var:=fun hc=>by
  have e:aR (ag (tu 20)) (aR (ag l) x.term)=aR (ag P) x.term:=by
   refine mI x.term q1 (fun u hu=> ?_)
   have hur:=q1.range hu
   cases hb:bQ (ag s.binds) u with
   |none=>exact(hR.un u hur hb).symm
   |some z=>
    obtain⟨y,hy,e⟩:=dq (ck hb)
    injection e with e1 e2
    have cq:cR s ρ u<cR s ρ x.var:=by
     refine zO (fun p hp=> ?_) (ez hx) ?_ ?_
     ·have:=q3 u hu
      simp only[decide_eq_true_eq]at hp|-
      omega
     ·simp
     ·have:=q3 u hu
      simp only[decide_eq_false_iff_not]
      omega
    rw[e1]at cq|-
    exact(hR.bd y hy af).symm
  have eA:(aR (ag l) x.term).sz<=40:=F2 hS q1 (h.iS.Vd x hx)
  have FN:Vs s.sig (aR (ag l) x.term):=Vs.sub hl.bd _ q1
  have hw:0<=eQ (aR (ag P) x.term) 4000 400:=by
   rw[<- e,nW]
   have h1:=Kp _ FN
   have h2:=Tm.s8 (aR (ag (tu 20)) (aR (ag l) x.term))
   omega
  unfold Rt
  rw[(Gl hR.pnt hr RU hr).2 hw,q2,e]
 have all:∀y∈s.binds,cR s ρ y.var<=k+1->(Rt l P y.var\/y.var=x.var)->Rt l (Bs P x) y.var:=fun y hy hc ho=>by
  by_cases e:y.var=x.var
  ·rw[e];rw[e]at hc;exact cu hc
  ·unfold Rt
   rw[(Gl hR.pnt hr RU (h.iS.ok y hy).1).1 e]
   rcases ho with ho|ho
   ·exact ho
   ·exact absurd ho e
 refine⟨⟨u9 hR.pnt hr RU,fun v hvr hn=> ?_,fun y hy hc=>all y hy af (.inl (hR.bd y hy hc))⟩,all⟩
 have iu:v≠x.var:=fun e=>by rw[e,hlk]at hn;cases hn
 unfold Rt
 rw[(Gl hR.pnt hr RU hvr).1 iu]
 exact hR.un v hvr hn
theorem El(h:bB s)(hS:kn s.sig (ag s.binds) l ρ R)(hl:iq s.sig l){k:Nat}:∀ (bs:List TB) {P:List TB},Y3 s l ρ P k->(∀x∈bs,x∈s.binds)->
 Y3 s l ρ (bs.foldl Bs P) k/\∀y∈s.binds,cR s ρ y.var<=k+1->(Rt l P y.var\/y∈bs)->Rt l (bs.foldl Bs P) y.var
 |[],P,hR,_=>⟨hR,fun y _ _ ho=>by
  rcases ho with ho|ho
  ·exact ho
  ·cases ho⟩
 |x::bs,P,hR,hb=>by
  obtain⟨g1,g2⟩:=OM h hS hl hR (hb x aE)
  obtain⟨g3,g4⟩:=El h hS hl bs g1 (fun y hy=>hb y lD)
  refine⟨g3,fun y hy hc ho=> ?_⟩
  rw[List.foldl_cons]
  refine g4 y hy hc ?_
  rcases ho with ho|ho
  ·exact .inl (g2 y hy hc (.inl ho))
  ·rcases List.mem_cons.1 ho with rfl|ho
   ·exact .inl (g2 y hy hc (.inr rfl))
   ·exact .inr ho
theorem Iv(h:bB s)(hS:kn s.sig (ag s.binds) l ρ R)(hl:iq s.sig l):∀ (n k:Nat) {P:List TB},Y3 s l ρ P k->Y3 s l ρ (Bt s n P) (k+n)
 |0,k,P,hR=>hR
 |n+1,k,P,hR=>by
  obtain⟨g1,g2⟩:=El h hS hl s.binds hR (fun x hx=>hx)
  have:=Iv h hS hl n (k+1) (P:=exR s P) ⟨g1.pnt,g1.un,fun y hy hc=>g2 y hy hc (.inr hy)⟩
  rw[show k+(n+1)=k+1+n by omega]
  exact this
theorem Kq(h:bB s):Pg (ag (Bt s s.binds.length (tu 20))) s:=by
 obtain⟨l,ρ,R,hS,hl⟩:=jv h.iS.keys h.iS.ok h.iS.FW
 have h0:Y3 s l ρ (tu 20) 0:=by
  refine⟨rN,fun v hv hn=> ?_,fun x hx hc=> ?_⟩
  ·unfold Rt
   rw[show Lv (ag l) v= .mk 1 v [] by simp[Lv,(hS.xC v).1 hn],gv]
  ·have:0<cR s ρ x.var:=List.countP_pos_iff.2 ⟨_,ez hx,aE⟩
   omega
 have hR:=Iv h hS hl s.binds.length 0 h0
 generalize Bt s s.binds.length (tu 20)=P at hR
 have rt:∀v,0<=v/\v<20->Rt l P v:=fun v hv=>by
  cases hb:bQ (ag s.binds) v with
  |none=>exact hR.un v hv hb
  |some z=>
   obtain⟨y,hy,e⟩:=dq (ck hb)
   injection e with e1 e2
   rw[e1]
   refine hR.bd y hy ?_
   have:cR s ρ y.var<=(ag s.binds).length:=List.countP_le_length
   have e:(ag s.binds).length=s.binds.length:=by unfold ag;rw[List.length_map]
   omega
 have val:∀t:Tm,Vs s.sig t->aR (ag P) t=aR (ag (tu 20)) (aR (ag l) t):=fun t ht=>
  (mI t ht (fun u hu=>(rt u (ht.range hu)).symm)).symm
 refine⟨fun p hp=> ?_,fun n hn he=> ?_⟩
 ·obtain⟨x,hx,rfl⟩:=dq hp
  obtain⟨q1,q2,_⟩:=hS.ok _ _ ((fW h.iS.keys).2 (ez hx))
  dsimp only
  rw[rt _ (h.iS.ok x hx).1,q2,val _ q1]
 ·obtain⟨na,nb,nn⟩:=h.aI n hn
  have va:=(bz na).1
  have vb:=(bz nb).1
  rw[val _ va,val _ vb]at he
  have:=Ko _ (Vs.sub hl.bd _ va) _ (Vs.sub hl.bd _ vb) he
  exact nn ((rE hS va vb).2 this)
end
end
end Go.Proofs.YtlhemmpklhhgoaaGreat
set_option maxHeartbeats 8000000
namespace Go.Proofs.YtlhemmpklhhgoaaGreat
theorem Iw{nb nn:Int}:∀ (l:List (Int×Int)) (a:Int×Int),mJ nb nn a l=true->a.1<=nb->a.2<=nn->mJ nb nn a (l++[(nb,nn)])=true
 |[],a,_,h1,h2=>by simp[mJ];omega
 |x::l,a,h,h1,h2=>by
  simp only[List.cons_append,mJ,Bool.and_eq_true,Bool.not_eq_true',Bool.or_eq_false_iff,decide_eq_false_iff_not]at h|-
  exact⟨h.1,Iw l x h.2 af af⟩
theorem RV{s:bU}(h:bB s)(hm:s.marks.length<8):bB s.mark:=
 ⟨h.sig,h.tl,by show(s.marks++_).length<=8;simp;omega,h.iS,h.aI,Iw _ _ h.marks aE aE⟩
theorem Kr(s:bU):s.mark.Kk=s:=by
 unfold bU.Kk bU.mark
 simp
theorem Ks{s T:bU}(h:bB s)(iu:s.marks≠[])(hs:T.sig=s.sig)(hm:T.marks=s.marks)(hb:∃E,T.binds=s.binds++E)(hn:∃F,T.aI=s.aI++F):T.Kk=s.Kk:=by
 obtain⟨E,hE⟩:=hb
 obtain⟨F,hF⟩:=hn
 unfold bU.Kk
 rw[hm]
 cases hl:s.marks.getLast? with
 |none=>exact absurd (List.getLast?_eq_none_iff.1 hl) iu
 |some m=>
  have mW:=List.mem_of_getLast? hl
  obtain⟨q1,q2,q3,q4⟩:=Ea aE aE h.marks m mW
  dsimp only
  rw[hs,hE,hF,List.take_append_of_le_length (by omega),List.take_append_of_le_length (by omega)]
def Em(sg:az):bU:=⟨sg,[],[],[]⟩
theorem ON{sg:az}(h:ji sg=true):bB (Em sg):=
 ⟨h,Nat.zero_le _,Nat.zero_le _,⟨Nat.zero_le _,List.nodup_nil,fun _ h=>jQ,fun _ _ h=>jQ,fun _ h=>jQ⟩,fun _ h=>jQ,rfl⟩
def Bz:Nat->bU->bU->Prop
 |0,t,s=>t=s/\bB s/\s.marks=[]
 |n+1,t,s=>bB t/\t.marks.length=n+1/\t.sig=s.sig/\Bz n t.Kk s
theorem Bz.ok {n:Nat}{t s:bU}(h:Bz n t s):bB t/\t.marks.length=n/\t.sig=s.sig:=by
 cases n with
 |zero=>obtain⟨rfl,h2,h3⟩:=h;exact⟨h2,by rw[h3];rfl,rfl⟩
 |succ n=>exact⟨h.1,h.2.1,h.2.2.1⟩
theorem Bz.mark {n:Nat}{t s:bU}(h:Bz n t s)(hn:n<8):Bz (n+1) t.mark s:=by
 obtain⟨h1,h2,h3⟩:=h.ok
 refine⟨RV h1 af,by show(t.marks++_).length=_;simp[h2],h3, ?_⟩
 rw[Kr];exact h
theorem Bz.more {n:Nat}{t s T:bU}(h:Bz (n+1) t s)(hT:bB T)(hs:T.sig=t.sig)(hm:T.marks=t.marks)(hb:∃E,T.binds=t.binds++E)(hn:∃F,T.aI=t.aI++F):Bz (n+1) T s:=by
 obtain⟨h1,h2,h3,h4⟩:=h
 refine⟨hT,by rw[hm];exact h2,hs.trans h3, ?_⟩
 rw[Ks h1 (fun e=>by rw[e]at h2;cases h2) hs hm hb hn]
 exact h4
end Go.Proofs.YtlhemmpklhhgoaaGreat
set_option maxHeartbeats 8000000
namespace Go.Proofs.YtlhemmpklhhgoaaGreat
def Eu(s:bU):Nat->ad:=ay (fun _=> .no) 8 (.row s.row)
def Gs(s:bU)(own:List Sy):Nat->ad:=ay (Eu s) 9 (.arr 0 53 7 (own.map Sy.d))
theorem rP(s:bU):Good (Eu s) 9:=by unfold Eu;exact dh
def Eqv(s:bU)(own:List Sy):Prop:=∀θ,Pg θ s↔∀x∈own,Ph θ x
theorem RW(sg:az):Eqv (Em sg) []:=fun θ=>⟨fun _ x hx=>(by cases hx),fun _=>⟨fun p hp=>(by cases hp),fun n hn=>(by cases hn)⟩⟩
theorem RX{s T:bU}{own:List Sy}(h:bB s){x:Sy}(hx:x.Ok s.sig)(sd:SdP s x T 0)(he:Eqv s own):Eqv T (own++[x]):=fun θ=>by
 rw[(Ej h hx sd θ).1 rfl,he θ]
 constructor
 ·rintro⟨h1,h2⟩ y hy
  rcases List.mem_append.1 hy with hy|hy
  ·exact h1 y hy
  ·simp at hy;subst hy;exact h2
 ·intro h1
  exact⟨fun y hy=>h1 y (List.mem_append_left _ hy),h1 x aE⟩
theorem ae2{s:bU}{own:List Sy}(he:Eqv s own)(P:List TB):hdB P own=Pj P s:=by
 rw[Bool.eq_iff_iff,Is,Bu]
 exact(he _).symm
theorem BA(hkn:aW Tryz.prog 14 [] (.ret [.bool true]))(sg:az)(hs:sg.Fits)(l:List Sy)(hl:l.length<=9223372036854775807)(LY:∀x∈l,x.a.fits/\x.b.fits)(bs:List Int)(rY:bs.length<=9223372036854775807)(OX:∀x∈bs,0<=x/\x<=255):
 aW Tryz.prog 5 [sg.d, .sl (l.map Sy.d), .sl (bs.map (D.int .u8))] (.ret [.bool true]):=by
 obtain⟨r1,hr1⟩:∃r1:Bool,r1=true↔Iq sg l:=by
  classical
  exact⟨decide (Iq sg l),aE⟩
 have c1:=RL sg hs l hl LY hr1
 refine aW.aG mix fn5 aE ?_
 rw[c5]
 refine tv ?_
 refine aq c1 rfl ?_
 cases r1 with
 |false=>
  refine cK ?_
  refine aq hkn rfl ?_
  exact pD
 |true=>
  have R1:=hr1.1 rfl
  have cpt:=RR sg bs OX rY
  have Y4:=OL sg bs
  have h14:=R1.len
  refine tv ?_
  refine bE cpt ?_
  refine tv ?_
  generalize Kn sg bs 20=P at Y4|-
  refine aD (fun i:Nat×bU×List Sy=>⟨aX [.ab, .ab, .ab, .ab, .ab, .ab, .ab, .ptr 8 0, .d (.sl (P.map TB.d)), .osl 9 0, .ab, .ab, .ab, .ab, .ab, .ab, .ab, .ab, .ab, .ab, .ab, .ab, .ab, .ab, .ab, .ab, .ab, .ab, .ab, .ab, .d (.sl (l.map Sy.d)), .d (.i l.length), .d (.i i.1)],Gs i.2.1 i.2.2,10⟩)
   (fun i=>i.1<=l.length/\i.2.2.length<=i.1/\bB i.2.1/\i.2.1.sig=sg/\(∀x∈i.2.2,x.Ok sg)/\Eqv i.2.1 i.2.2) (fun i=>l.length - i.1) (0,Em sg,[]) ⟨Nat.zero_le _,Nat.le_refl _,ON R1.sig,rfl,fun _ h=>jQ,RW sg⟩ ?_ ?_
  ·refine bL.see (fun _=>False) [⟨.ax,53,7,[]⟩] 9 _ rfl af (fun j hj=> ?_) (fun i g hg=> ?_) (fun j hj=> ?_) (fun _ h=>h.elim) (fun i j gi gj id ep fT h1 h2 h3 h4=> ?_) ?_
   ·by_cases e8:j=8
    ·subst e8
     refine jM (cs:=[V.d (D.sl (List.map dX.d sg.cons)),V.d (D.sl (List.map dX.d sg.bZ)),V.ax,V.ax,V.ax]) cg (jN (jN (A5 rfl (fun id h=>by cases h) (A5 rfl (fun id h=>by cases h) (A5 rfl (fun id h=>by cases h) jO)))))
    ·have:Gs (Em sg) [] j= .no:=by unfold Gs Eu;(repeat(first|rfl|rw[aa]|rw[ae _ _ _ _ (by omega)]))
     rw[this];exact js
   ·cases i with
    |zero=>
     injection hg with hg
     subst hg
     exact⟨rfl, .inl ⟨rfl,rfl,bF⟩⟩
    |succ i=>cases hg
   ·have hj:10<=j:=hj
    show Gs (Em sg) [] j= .no
    unfold Gs Eu
    exact cg
   ·have q1:=(List.getElem?_eq_some_iff.1 h1).1
    have q2:=(List.getElem?_eq_some_iff.1 h2).1
    simp at q1 q2
    omega
   ·exact jH
  rintro⟨k,s,own⟩ ⟨hk,ho,h,OB,KM,hE⟩
  dsimp only at hk ho h OB KM hE|-
  have v8:Gs s own 8= .row s.row:=rfl
  have v9:Gs s own 9= .arr 0 53 7 (own.map Sy.d):=rfl
  have dV:own.length<=140737488355327/\(own.length+1)*80<=140737488355328:=af
  have Zh:s.sig.Fits:=by rw[OB];exact hs
  refine sc v8 v9 ?_
  refine ak (fun h6=> ?_) (fun h6=> ?_)
  ·replace h6:k<l.length:=by simp at h6;omega
   obtain⟨x,OO⟩:=aB h6
   have cf:=R1.ok x (List.mem_of_getElem? OO)
   have Af:x.Ok s.sig:=by rw[OB];exact cf
   have sd:=ae0 h Zh Af
   cases hp:syF s x with
   |mk T e=>
   rw[hp]at sd
   dsimp only at sd
   have hQ:x6 (Bt s s.binds.length P):=vg h _ Y4
   refine pE v8 v9 OO ?_
   refine bE sd.call ?_
   refine pE v8 v9 OO ?_
   refine bE (qj h Y4) ?_
   rcases sd.err with rfl|rfl|rfl
   ·obtain⟨k1,k2,k3,_⟩:=sd.ok rfl
    have uE:T.sig=sg:=k2.trans OB
    have hfT:T.sig.Fits:=by rw[uE];exact hs
    refine pE v8 v9 OO ?_
    refine aq (Gf T (k1.fits hfT) (ok:=true) ⟨fun _=>k1.sm (by rw[uE];exact R1.sm),fun _=>rfl⟩) rfl ?_
    refine pE v8 v9 OO ?_
    refine aq (Ge T (k1.fin hfT) (ok:=true) ⟨fun _=>k1,fun _=>rfl⟩) rfl ?_
    refine K4 v8 v9 OO dV ?_
    refine aj (k+1,T,own++[x]) ⟨h6,by rw[List.length_append,List.length_singleton];omega,k1,uE,fun y hy=>(by rcases List.mem_append.1 hy with hy|hy;exact KM y hy;simp at hy;subst hy;exact cf),RX h Af sd hE⟩ kV (dJ (rP T) af (fun j=>9<=j) (.osl 9 1) _ (fun _ h=>h) (.inr ⟨9,1,af,rfl,by(repeat(first|rfl|rw[aa]|rw[ae _ _ _ _ (by omega)]));rw[List.map_append];rfl⟩) (fun j hj=> ?_) ?_)
    ·by_cases e8:j=8
     ·exact Py
     ·have e1:Eu T j= .no:=by unfold Eu;(repeat(first|rfl|rw[aa]|rw[ae _ _ _ _ (by omega)]))
      rw[e1]
      (repeat(first|rfl|rw[aa]|rw[ae _ _ _ _ (by omega)]))
      exact Pw
    ·exact jH
   ·have mP: ¬ (Pg (ag (Bt s s.binds.length P)) s/\Ph (ag (Bt s s.binds.length P)) x):=(Ej h Af sd _).2 rfl
    refine pE v8 v9 OO ?_
    refine aq (rM h hQ) rfl ?_
    cases MH:Pj (Bt s s.binds.length P) s with
    |true=>
     have hh:hdB (Bt s s.binds.length P) [x]=false:=by
      cases hd:hdB (Bt s s.binds.length P) [x]with
      |false=>rfl
      |true=>exact absurd ⟨Bu.1 MH,Is.1 hd x aE⟩ mP
     have ch:=vf (sg:=s.sig) (l:=[x]) aE (fun y hy=>by simp at hy;subst hy;exact Af) hQ
     rw[hh]at ch
     refine pE v8 v9 OO ?_
     refine aq ch rfl ?_
     refine pE v8 v9 OO ?_
     refine aj (k+1,s,own) ⟨h6,Nat.le_succ_of_le ho,h,OB,KM,hE⟩ kV (dJ (rP s) af (fun j=>9<=j) (.osl 9 0) _ (fun _ h=>h) (.inr ⟨9,0,af,rfl,by(repeat(first|rfl|rw[aa]|rw[ae _ _ _ _ (by omega)]))⟩) (fun j hj=> ?_) ?_)
     ·by_cases e8:j=8
      ·exact Py
      ·have e1:Eu s j= .no:=by unfold Eu;(repeat(first|rfl|rw[aa]|rw[ae _ _ _ _ (by omega)]))
       rw[e1]
       (repeat(first|rfl|rw[aa]|rw[ae _ _ _ _ (by omega)]))
       exact Pw
     ·exact jH
    |false=>
     refine pE v8 v9 OO ?_
     refine aj (k+1,s,own) ⟨h6,Nat.le_succ_of_le ho,h,OB,KM,hE⟩ kV (dJ (rP s) af (fun j=>9<=j) (.osl 9 0) _ (fun _ h=>h) (.inr ⟨9,0,af,rfl,by(repeat(first|rfl|rw[aa]|rw[ae _ _ _ _ (by omega)]))⟩) (fun j hj=> ?_) ?_)
     ·by_cases e8:j=8
      ·exact Py
      ·have e1:Eu s j= .no:=by unfold Eu;(repeat(first|rfl|rw[aa]|rw[ae _ _ _ _ (by omega)]))
       rw[e1]
       (repeat(first|rfl|rw[aa]|rw[ae _ _ _ _ (by omega)]))
       exact Pw
     ·exact jH
   ·refine pE v8 v9 OO ?_
    refine aj (k+1,s,own) ⟨h6,Nat.le_succ_of_le ho,h,OB,KM,hE⟩ kV (dJ (rP s) af (fun j=>9<=j) (.osl 9 0) _ (fun _ h=>h) (.inr ⟨9,0,af,rfl,by(repeat(first|rfl|rw[aa]|rw[ae _ _ _ _ (by omega)]))⟩) (fun j hj=> ?_) ?_)
    ·by_cases e8:j=8
     ·exact Py
     ·have e1:Eu s j= .no:=by unfold Eu;(repeat(first|rfl|rw[aa]|rw[ae _ _ _ _ (by omega)]))
      rw[e1]
      (repeat(first|rfl|rw[aa]|rw[ae _ _ _ _ (by omega)]))
      exact Pw
    ·exact jH
  ·replace h6:k=l.length:=by simp at h6;omega
   subst h6
   have hQ:x6 (Bt s s.binds.length P):=vg h _ Y4
   have hF:x6 (Bt s s.binds.length (tu 20)):=vg h _ rN
   have Af:∀x∈own,x.Ok s.sig:=fun x hx=>by rw[OB];exact KM x hx
   have so1:=rM h Y4
   have uh:=vf af Af Y4
   have so2:=rM h hQ
   have Qw:=vf af Af hQ
   have so3:=rM h hF
   have HI:=vf af Af hF
   have cx3:=qj h rN
   have sl3:Pj (Bt s s.binds.length (tu 20)) s=true:=Bu.2 (Kq h)
   rw[ae2 hE]at uh Qw HI
   rw[sl3]at so3 HI
   refine sc v8 v9 ?_
   refine bE (qj h Y4) ?_
   generalize Bt s s.binds.length P=P2 at so2 Qw|-
   refine sc v8 v9 ?_
   have hB:Good (ay (Gs s own) 15 (.arr 0 25 1 [D.sl (P.map TB.d),D.sl (P2.map TB.d)])) 18:=by unfold Gs Eu;exact dh
   refine aD (fun i:Nat=>⟨aX [.ab, .ab, .ab, .ab, .ab, .ab, .ab, .ptr 8 0, .ab, .osl 9 0, .ab, .ab, .ab, .ab, .ab, .ab, .ab, .ab, .ab, .ab, .ab, .ab, .ab, .ab, .ab, .ab, .ab, .ab, .ab, .ab, .ab, .ab, .ab, .ab, .ab, .ab, .ab, .ab, .ab, .ab, .ab, .ab, .ab, .ab, .ab, .ab, .ab, .ab, .ab, .ab, .ab, .ab, .ab, .ab, .ab, .ab, .ab, .ab, .ab, .ab, .ab, .ab, .ab, .ab, .ab, .ab, .ab, .ab, .ab, .ab, .ab, .ab, .ab, .ab, .ab, .ab, .ab, .ab, .ab, .osl 15 0, .d (.i 2), .d (.i i)],ay (Gs s own) 15 (.arr 0 25 1 [D.sl (P.map TB.d),D.sl (P2.map TB.d)]),18⟩)
    (fun i=>i<=2) (fun i=>2 - i) 0 (Nat.zero_le _) ?_ (fun i hi=> ?_)
   ·refine bL.bS _ af af hB (fun j hj=>rfl) ?_
    exact dT
   have hi:i<=2:=hi
   rcases(by omega:i=0\/i=1\/i=2)with rfl|rfl|rfl
   ·refine sc v8 v9 ?_
    refine aq so1 rfl ?_
    refine sc v8 v9 ?_
    refine aq uh rfl ?_
    refine aaq v8 v9 ?_
    refine aj 1 af af (bL.bS _ af af hB (fun j hj=>rfl) ?_)
    exact dT
   ·refine sc v8 v9 ?_
    refine aq so2 rfl ?_
    refine sc v8 v9 ?_
    refine aq Qw rfl ?_
    refine aaq v8 v9 ?_
    refine aj 2 af af (bL.bS _ af af hB (fun j hj=>rfl) ?_)
    exact dT
   ·refine sc v8 v9 ?_
    have ae3:Good (Gs s own) 10:=by unfold Gs Eu;exact dh
    refine aD (fun n:Nat=>⟨aX [.ab, .ab, .ab, .ab, .ab, .ab, .ab, .ptr 8 0, .ab, .osl 9 0, .ab, .ab, .ab, .ab, .ab, .ab, .ab, .osl 10 0, .ab, .ab, .ab, .ab, .ab, .ab, .ab, .ab, .ab, .ab, .ab, .ab, .ab, .ab, .ab, .ab, .ab, .ab, .ab, .ab, .ab, .ab, .ab, .ab, .ab, .ab, .ab, .ab, .ab, .ab, .ab, .ab, .ab, .ab, .ab, .ab, .ab, .ab, .ab, .ab, .ab, .ab, .ab, .ab, .ab, .ab, .ab, .ab, .ab, .ab, .ab, .ab, .ab, .ab, .ab, .ab, .ab, .ab, .ab, .ab, .ab, .ab, .ab, .ab, .ab, .ab, .ab, .ab, .ab, .ab, .ab, .ab, .ab, .ab, .ab, .d (.i n)],ay (Gs s own) 10 (.arr 0 59 4 ((tu n).map TB.d)),11⟩)
     (fun n=>n<=20) (fun n=>20 - n) 0 (Nat.zero_le _) ?_ (fun n hn=> ?_)
    ·refine dJ ae3 af (fun _=>False) .ax _ (fun _ h=>h.elim) (.inl ⟨rfl,rfl,bF⟩) (fun j hj=>by(repeat(first|rfl|rw[aa]|rw[ae _ _ _ _ (by omega)]))) ?_
     exact jH
    have hn:n<=20:=hn
    have oV:(tu n).length=n:=by simp[tu]
    refine pE v8 v9 oV ?_
    refine ak (fun h7=> ?_) (fun h7=> ?_)
    ·replace h7:n<20:=by simp at h7;omega
     have hw:IntKind.i64.wrap (5000000+(n:Int))=5000000+(n:Int):=wrap64 af af
     have Zh:tu (n+1)=tu n++[⟨(n:Int), .mk 2 (5000000+(n:Int)) []⟩]:=by
      unfold tu
      rw[List.range_succ,List.map_append]
      rfl
     have dV:n<=140737488355327/\(n+1)*48<=140737488355328:=af
     simp+contextual (disch:=first|omega|simp only[go_sem,false_implies]) only[go_sem,wrap64,if_pos,v8,v9,List.length_map,oV,hw,dV]
     refine aj (n+1) h7 af (dJ ae3 af (fun j=>10<=j) (.osl 10 1) _ (fun _ h=>h) (.inr ⟨10,1,af,rfl,by(repeat(first|rfl|rw[aa]|rw[ae _ _ _ _ (by omega)]));rw[Zh,List.map_append];rfl⟩) (fun j hj=>by(repeat(first|rfl|rw[aa]|rw[ae _ _ _ _ (by omega)]))) ?_)
     exact jH
    ·replace h7:n=20:=by simp at h7;omega
     subst h7
     refine sc v8 v9 ?_
     refine bE cx3 ?_
     refine sc v8 v9 ?_
     refine aq so3 rfl ?_
     refine sc v8 v9 ?_
     refine aq HI rfl ?_
     refine sc v8 v9 ?_
     refine aq hkn rfl ?_
     exact pD
end Go.Proofs.YtlhemmpklhhgoaaGreat
section
namespace Go.Proofs.YtlhemmpklhhgoaaGreat
open Go.ChangeShapes Go.WideShapes Go.RowKit
def xw(P:Program)(rec:TypeId->Option (List TypeId)):Nat->List Field->Option (List TypeId)
 |_,[]=>some []
 |off,f::fs=>if f.offset=off then match rec f.type with
  |some l=>if P.cellsOf f.type=l.length then(xw P rec (off+l.length) fs).map (l++·)else none
  |none=>none else none
def mU(P:Program):Nat->TypeId->Option (List TypeId)
 |0,_=>none
 |n+1,t=>match P.underlying t with
  |some .bool|some (.int _)|some .string|some (.slice _)=>some [t]
  |some (.struct fs)=>xw P (mU P n) 0 fs.toList
  |some (.array k e)=>match mU P n e with
   |some l=>if P.cellsOf e=l.length then some (List.replicate k l).flatten else none
   |none=>none
  |_=>none
def isAgg(P:Program)(t:TypeId):Bool:=match P.underlying t with
 |some (.struct _)|some (.array _ _)=>true
 |_=>false
mutual
def D.ir (P:Program):D->TypeId->Prop
 | .int k n,t=>P.underlying t=some (.int k)/\(Lit.int k n).wf=true
 | .bool _,t=>P.underlying t=some .bool
 | .str l,t=>P.underlying t=some .string/\l.length<=maxLen
 | .sl es,t=>∃e,P.underlying t=some (.slice e)/\es.length<=maxLen/\D.Ku P es e
 | .agg cs,t=>isAgg P t=true/\∃ls,mU P 20 t=some ls/\D.jc P cs ls
 |_,_=>False
def D.Ku (P:Program):List D->TypeId->Prop
 |[],_=>True
 |x::l,e=>D.ir P x e/\D.Ku P l e
def D.jc (P:Program):List D->List TypeId->Prop
 |[],ts=>ts=[]
 |x::l,ts=>∃t r,ts=t::r/\D.ir P x t/\D.jc P l r
end
def vh(P:Program)(T:List TypeId):Bool:=T.all fun t=>match mU P 20 t with
 |some l=>decide (l.length=P.cellsOf t)&&decide (0<l.length)&&l.all fun u=>match P.underlying u with
  |some (.slice e)=>T.contains e
  |_=>true
 |none=>false
theorem rQ{P:Program}:∀ {xs ys:List D} {l r:List TypeId},D.jc P xs l->D.jc P ys r->D.jc P (xs++ys) (l++r)
 |[],_,_,_,h,h'=>by simp only[D.jc]at h;subst h;exact h'
 |x::xs,_,_,_,h,h'=>by
  obtain⟨t,r,rfl,h1,h2⟩:=h
  exact⟨t,_,rfl,h1,rQ h2 h'⟩
theorem bu{B:Nat->Prop}{w:World}:∀ {xs ys:List D} {l r:List Value},D.aF B w xs l->D.aF B w ys r->D.aF B w (xs++ys) (l++r)
 |[],_,_,_,h,h'=>by simp only[D.aF]at h;subst h;exact h'
 |x::xs,_,_,_,h,h'=>by
  obtain⟨t,r,rfl,h1,h2⟩:=h
  exact⟨t,_,rfl,h1,bu h2 h'⟩
theorem Flat.append {l r:List Value}(h:Flat l)(h':Flat r):Flat (l++r):=fun u hu=>(List.mem_append.1 hu).elim (h u) (h' u)
abbrev Y5:Nat->Prop:=fun _=>False
section
variable {H:Type}{enc:TypeId×Value->H}{P:Program}{W:World}{T:List TypeId}{b0:Nat}
def dD(P:Program)(W:World)(l:List TypeId)(cs:List Value):Prop:=∃xs,D.jc P xs l/\D.aF Y5 W xs cs/\Flat cs
theorem dD.append {l r:List TypeId}{cs ds:List Value}(h:dD P W l cs)(h':dD P W r ds):dD P W (l++r) (cs++ds):=by
 obtain⟨xs,a1,a2,a3⟩:=h
 obtain⟨ys,b1,b2,b3⟩:=h'
 exact⟨xs++ys,rQ a1 b1,bu a2 b2,a3.append b3⟩
theorem dD.length {l:List TypeId}{cs:List Value}(h:dD P W l cs):cs.length=l.length:=by
 obtain⟨xs,a1,a2,_⟩:=h
 rw[D.aC _ _ a2]
 clear a2
 induction xs generalizing l with
 |nil=>simp only[D.jc]at a1;simp[a1]
 |cons x xs ih=>obtain⟨t,r,rfl,_,h⟩:=a1;simp[ih h]
theorem dD.nil:dD P W [] []:=⟨[],rfl,rfl,fun _ h=>by cases h⟩
theorem En{α:Type}(cs:List α)(o k:Nat):cs.drop o=(cs.drop o).take k++cs.drop (o+k):=by
 rw[<- List.drop_drop];exact(List.take_append_drop k _).symm
theorem rR{rec:TypeId->Option (List TypeId)}{cs:List Value}{rd:TypeId->List Value->Prop}
 (bI:∀t l vs,rec t=some l->(∀u∈l,∀e,P.underlying u=some (.slice e)->e∈T)->P.cellsOf t=l.length->rd t vs->dD P W l vs):
 ∀ (fs:List Field) (off:Nat) (l:List TypeId),xw P rec off fs=some l->(∀u∈l,∀e,P.underlying u=some (.slice e)->e∈T)->(∀f∈fs,rd f.type ((cs.drop f.offset).take (P.cellsOf f.type)))->
   off+l.length=cs.length->dD P W l (cs.drop off)
 |[],off,l,h,_,_,hl=>by
  simp only[xw,Option.some.injEq]at h
  subst h
  have:cs.drop off=[]:=List.drop_eq_nil_of_le (by simp at hl;omega)
  rw[this];exact dD.nil
 |f::fs,off,l,h,hT,hr,hl=>by
  simp only[xw]at h
  split at h
  ·rename_i ho
   split at h
   ·rename_i l1 h1
    split at h
    ·rename_i hc
     simp only[Option.map_eq_some_iff]at h
     obtain⟨r,h2,rfl⟩:=h
     have hd:=hr f aE
     rw[ho,hc]at hd
     rw[En cs off l1.length]
     simp only[List.length_append]at hl
     exact(bI f.type l1 _ h1 (fun u hu=>hT u (by simp[hu])) hc hd).append (rR bI fs _ r h2 (fun u hu=>hT u (by simp[hu])) (fun f hf=>hr f (by simp[hf])) af)
    ·cases h
   ·cases h
  ·cases h
theorem ud{l:List TypeId}{cs:List Value}:∀ (k i:Nat),(∀j,j<k->dD P W l ((cs.drop ((i+j)*l.length)).take l.length))->(i+k)*l.length=cs.length->dD P W (List.replicate k l).flatten (cs.drop (i*l.length))
 |0,i,_,hl=>by
  have:cs.drop (i*l.length)=[]:=List.drop_eq_nil_of_le (by simp at hl;omega)
  rw[this];exact dD.nil
 |k+1,i,h,hl=>by
  rw[List.replicate_succ,List.flatten_cons,En cs (i*l.length) l.length]
  refine(by simpa using h 0 af:dD P W l _).append ?_
  rw[show i*l.length+l.length=(i+1)*l.length by rw[Nat.add_mul];omega]
  refine ud k (i+1) (fun j hj=> ?_) (by rw[<- hl];congr 1;omega)
  have:=h (j+1) af
  rwa [show i+(j+1)=i+1+j by omega]at this
theorem Eo{e:TypeId}{l:List TypeId}{cs:List Value}(hl:mU P 20 e=some l)(h:dD P W l cs):∃ (ev:Value) (x:D),ev.cells.toList=cs/\D.ir P x e/\D.den Y5 W x ev/\(isAgg P e=true->ev= .agg cs.toArray)/\(isAgg P e=false->cs=[ev]/\ev.oneCell'=true):=by
 obtain⟨xs,h1,h2,h3⟩:=h
 cases ha:isAgg P e with
 |true=>exact⟨.agg cs.toArray, .agg xs,by simp[Value.cells],⟨ha,l,hl,h1⟩,⟨_,rfl,by simpa using h2,by simpa using h3⟩,fun _=>rfl,(fun h=>by cases h)⟩
 |false=>
  have:l=[e]:=by
   unfold mU at hl
   unfold isAgg at ha
   split at hl<;>simp_all
  subst this
  obtain⟨t,r,e1,h4,h5⟩:∃x r,xs=x::r/\D.ir P x e/\D.jc P r []:=by
   cases xs with
   |nil=>simp[D.jc]at h1
   |cons x r=>obtain⟨t,r',e1,h4,h5⟩:=h1;injection e1 with e1 e2;subst e1;subst e2;exact⟨x,r,rfl,h4,h5⟩
  subst e1
  have:r=[]:=by cases r with
   |nil=>rfl
   |cons y r=>obtain⟨_,_,e,_⟩:=h5;cases e
  subst this
  obtain⟨u,us,rfl,h6,h7⟩:=h2
  simp only[D.aF]at h7
  subst h7
  have ho:=h3 u aE
  refine⟨u,t, ?_,h4,h6,(fun h=>by cases h),fun _=>⟨rfl,ho⟩⟩
  cases u<;>simp_all[Value.oneCell',Value.cells]
theorem Ep(hp:vh P T=true){t:TypeId}(ht:t∈T):∃l,mU P 20 t=some l/\l.length=P.cellsOf t/\0<l.length/\∀u∈l,∀e,P.underlying u=some (.slice e)->e∈T:=by
 have:=List.all_eq_true.1 hp t ht
 split at this
 ·rename_i l hl
  simp only[Bool.and_eq_true,decide_eq_true_eq,List.all_eq_true]at this
  refine⟨l,hl,this.1.1,this.1.2,fun u hu e he=> ?_⟩
  have:=this.2 u hu
  rw[he]at this
  simpa using this
 ·cases this
theorem Gm(hp:vh P T=true):∀ (n m:Nat) (t:TypeId) (l:List TypeId) (cs:List Value) (x:DataW H×List MemPlace),mU P m t=some l->(∀u∈l,∀e,P.underlying u=some (.slice e)->e∈T)->
 P.cellsOf t=l.length->DataW.trod enc P W 0 (fun _=>true) true n t cs=some x->dD P W l cs:=by
 intro n
 induction n with
 |zero=>intro m t l cs x _ _ _ h;simp[DataW.trod]at h
 |succ n ih=>
  intro m t l cs x hl hT hc h
  cases m with
  |zero=>simp[mU]at hl
  |succ m=>
  unfold mU at hl
  split at hl
  ·rename_i hu
   injection hl with hl;subst hl
   obtain⟨b,rfl,_⟩:=DataW.trod_bool hu h
   exact⟨[.bool b],⟨t,[],rfl,hu,rfl⟩,⟨_,_,rfl,rfl,rfl⟩,by simp[Flat,Value.oneCell']⟩
  ·rename_i k hu
   injection hl with hl;subst hl
   obtain⟨b,rfl,_,hw⟩:=DataW.trod_int hu h
   exact⟨[.int k b],⟨t,[],rfl,⟨hu,hw⟩,rfl⟩,⟨_,_,rfl,rfl,rfl⟩,by simp[Flat,Value.oneCell']⟩
  ·rename_i hu
   injection hl with hl;subst hl
   obtain⟨s,rfl,_,hw⟩:=DataW.trod_string hu h
   exact⟨[.str s.data.toList],⟨t,[],rfl,⟨hu,by simpa using hw⟩,rfl⟩,⟨_,_,rfl,⟨s,rfl,rfl⟩,rfl⟩,by simp[Flat,Value.oneCell']⟩
  ·rename_i e hu
   injection hl with hl;subst hl
   rcases DataW.trod_slice hu h with⟨rfl,_⟩|⟨a,len,cap,elems,rest,n',hn,rfl,_,_,h2,h3,h4,h5,h6,_⟩
   ·exact⟨[.sl []],⟨t,[],rfl,⟨e,hu,aE,trivial⟩,rfl⟩,⟨_,_,rfl,⟨none,0,0,rfl,rfl,aE,fun _=>rfl,0,(fun a ha=>by cases ha)⟩,rfl⟩,by simp[Flat,Value.oneCell']⟩
   ·injection hn with hn;subst hn
    obtain⟨l',g1,g2,g3,g4⟩:=Ep hp (hT t aE e hu)
    have at':∀i,i<len->∃ev:Value,∃y:D,ev.cells.size=P.cellsOf e/\gR Y5 W (a.add (i*P.cellsOf e)) ev.cells/\D.den Y5 W y ev/\D.ir P y e:=by
     intro i hi
     have:=h5 i hi
     rw[List.getElem?_eq_getElem (by omega)]at this
     obtain⟨ci,k1,k2⟩:=Option.bind_eq_some_iff.1 this
     obtain⟨_,k3,k4⟩:=World.cells?_some k1
     have k5:=ih 20 e l' ci _ g1 g4 g2.symm k2
     obtain⟨ev,y,q1,q2,q3,_,_⟩:=Eo g1 k5
     have q4:ev.cells=ci.toArray:=by rw[<- q1]
     refine⟨ev,y,by rw[q4];simp[k5.length,g2],fun j u hj=>⟨?_,fun h=>h⟩,q3,q2⟩
     rw[q4]at hj
     have Kz:ci[j]? =some u:=by simpa using hj
     have cq:j<P.cellsOf e:=by rw[<- g2, <- k5.length];exact(List.getElem?_eq_some_iff.1 Kz).1
     rw[k4 j cq];exact Kz
    have list:∀k i,i+k=len->∃es,es.length=k/\D.Ku P es e/\D.elems Y5 W (P.cellsOf e) a i es:=by
     intro k
     induction k with
     |zero=>intro i _;exact⟨[],rfl,trivial,trivial⟩
     |succ k uF=>
      intro i hi
      obtain⟨es,e1,e2,e3⟩:=uF (i+1) af
      obtain⟨ev,y,y1,y2,y3,y4⟩:=at' i af
      exact⟨y::es,by simp[e1],⟨y4,e2⟩,⟨ev,y1,y2,y3⟩,e3⟩
    obtain⟨es,e1,e2,e3⟩:=list len 0 af
    have ae4:cap≠0->a.spot=none:=by
     intro dV
     have Vp:∀z,(W.cells? 0 (a.add (0*P.cellsOf e)) (P.cellsOf e)).bind (DataW.trod enc P W 0 (fun _=>true) true n e)=some z->a.spot=none:=by
      intro z hz
      obtain⟨ci,k1,k2⟩:=Option.bind_eq_some_iff.1 hz
      obtain⟨_,k3,k4⟩:=World.cells?_some k1
      have k5:=k4 0 af
      rw[List.getElem?_eq_getElem (by omega)]at k5
      simpa[Addr.add]using World.cell?_spot k5
     by_cases hlen:0<len
     ·have:=h5 0 hlen
      rw[List.getElem?_eq_getElem (by omega)]at this
      exact Vp _ this
     ·obtain⟨h7,h8⟩:=h6 rfl
      have:=h8 0 af
      rw[List.getElem?_eq_getElem (by omega),show(len+0)=0 by omega]at this
      exact Vp _ this
    exact⟨[.sl es],⟨t,[],rfl,⟨e,hu,af,e2⟩,rfl⟩,⟨_,_,rfl,⟨some a,len,cap,rfl,e1.symm,h2,(fun h=>by cases h),P.cellsOf e,(fun a' Vc=>by injection Vc with Vc;subst Vc;exact⟨ae4,e3⟩)⟩,rfl⟩,by simp[Flat,Value.oneCell']⟩
  ·rename_i fs hu
   obtain⟨xs,n',hn,_,h2,h3,h4⟩:=DataW.trod_struct hu h
   injection hn with hn;subst hn
   have:=rR (P:=P) (W:=W) (T:=T) (cs:=cs) (rd:=fun t vs=>∃y,DataW.trod enc P W 0 (fun _=>true) true n t vs=some y) (rec:=mU P m) (fun t l vs q1 q2 q3 ⟨y,q4⟩=>ih m t l vs y q1 q2 q3 q4) fs.toList 0 l hl hT ?_ af
   ·simpa using this
   ·intro f hf
    obtain⟨i,hi,hfi⟩:=List.getElem_of_mem hf
    have:=h4 i f (by simp at hi;simp[<- hfi,Array.getElem?_eq_getElem hi])
    rw[List.getElem?_eq_getElem (by simp at hi;omega)]at this
    exact⟨_,this⟩
  ·rename_i k e hu
   split at hl
   ·rename_i l' G0
    split at hl
    ·rename_i hce
     injection hl with hl;subst hl
     obtain⟨xs,n',hn,_,h2,h3,h4⟩:=DataW.trod_array hu h
     injection hn with hn;subst hn
     have hlen:cs.length=k*l'.length:=by rw[h2,hc];simp
     have hT':0<k->∀u∈l',∀e,P.underlying u=some (.slice e)->e∈T:=fun hk u hu=>hT u (List.mem_flatten.2 ⟨l',List.mem_replicate.2 ⟨af,rfl⟩,hu⟩)
     have:=ud (P:=P) (W:=W) (l:=l') (cs:=cs) k 0 (fun j hj=> ?_) (by rw[hlen];simp)
     ·simpa using this
     ·have:=h4 j hj
      rw[hce,List.getElem?_eq_getElem (by omega)]at this
      rw[Nat.zero_add]
      exact ih m e l' _ _ G0 (hT' af) hce this
    ·cases hl
   ·cases hl
  ·cases hl
theorem zP(hp:vh P T=true):∀ (ts:List TypeId) (vs:List Value) (ds:List (DataW H)) (p:List MemPlace),(∀t∈ts,t∈T)->DataW.TrodAll enc P W 0 (fun _=>true) true ts vs ds p->
 (∀ (j:Nat) t v,ts[j]? =some t->vs[j]? =some v->Value.okWide P W .any b0 t v)->∃xs,D.jc P xs ts/\D.aF Y5 W xs vs
 |[],vs,ds,p,_,h,_=>by
  obtain⟨rfl,rfl,rfl⟩:=trodAll_nil h
  exact⟨[],rfl,rfl⟩
 |t::ts,vs,ds,p,hT,h,hv=>by
  obtain⟨v,vs',d,ds',p1,q1,rfl,rfl,rfl,⟨n,h1⟩,h2⟩:=trodAll_cons h
  obtain⟨xs,a1,a2⟩:=zP hp ts vs' ds' q1 (fun t ht=>hT t (by simp[ht])) h2 (fun j t v h1 h2=>hv (j+1) t v (by simpa using h1) vm)
  obtain⟨l,g1,g2,g3,g4⟩:=Ep hp (hT t aE)
  obtain⟨ev,x,q1,q2,q3,q4,q5⟩:=Eo g1 (Gm hp n 20 t l _ _ g1 g4 g2.symm h1)
  have aY:=hv 0 t v rfl rfl
  have:ev=v:=by
   cases ha:isAgg P t with
   |true=>
    have:∃cs,v= .agg cs:=by
     unfold isAgg at ha
     unfold Value.okWide at aY
     split at ha
     ·rename_i hu;rw[hu]at aY;obtain⟨cs,rfl,_⟩:=aY;exact⟨cs,rfl⟩
     ·rename_i hu;rw[hu]at aY;obtain⟨cs,rfl,_⟩:=aY;exact⟨cs,rfl⟩
     ·cases ha
    obtain⟨cs,rfl⟩:=this
    rw[q4 ha]
    simp[Value.cells]
   |false=>
    obtain⟨q6,q7⟩:=q5 ha
    cases v with
    |agg cs=>
     exfalso
     unfold isAgg at ha
     unfold Value.okWide at aY
     split at aY
     ·rename_i hu;rw[hu]at ha;cases ha
     ·rename_i hu;rw[hu]at ha;cases ha
     ·unfold Cell.okWide at aY
      split at aY
      case h_8=>
       unfold Cell.ok at aY
       split at aY<;>first|exact aY|contradiction
      all_goals contradiction
    |_=>simp only[Value.cells,List.cons.injEq,and_true]at q6;exact q6.symm
  subst this
  exact⟨x::xs,⟨t,ts,rfl,q2,a1⟩,⟨_,_,rfl,q3,a2⟩⟩
theorem eC.below {w w':World}(h:eC (fun _=>False) w w'):Below w.heap.size w w':=⟨h.os,h.tape,h.output,h.size,fun k hk=>h.block k hk (fun h=>h)⟩
theorem zQ(hl:laidOutB P=true){W':World}{sp:Nat->Bool}:∀ {ts:List TypeId} {vs:List Value} {ds:List (DataW H)} {p:List MemPlace},(∀t∈ts,P.readableRec t=true/\t<P.types.size)->DataW.TrodAll enc P W 0 (fun _=>true) true ts vs ds p->
 (∀x∈p,W.sameAt W' x/\sp x.block=true)->DataW.TrodAll enc P W' 0 sp true ts vs ds p
 |[],vs,ds,p,_,h,_=>by
  obtain⟨rfl,rfl,rfl⟩:=trodAll_nil h
  exact trodAll_mk0
 |t::ts,vs,ds,p,hr,h,hs=>by
  obtain⟨v,vs',d,ds',p1,q1,rfl,rfl,rfl,h1,h2⟩:=trodAll_cons h
  exact⟨p1,q1,WideElems.Trod_stays hl (hr t aE).1 (hr t aE).2 h1 (fun x hx=>(hs x kE).1) (fun x hx=>(hs x kE).2),zQ hl (fun t ht=>hr t (by simp[ht])) h2 (fun x hx=>hs x kE),rfl⟩
theorem OP{sp:Nat->Bool}:∀ {ts:List TypeId} {vs:List Value} {ds:List (DataW H)} {ps:List MemPlace},DataW.TrodAll enc P W 0 sp true ts vs ds ps->ds.length=ts.length
 |[],_,_,_,h=>by obtain⟨_,rfl,_⟩:=trodAll_nil h;rfl
 |_::_,_,_,_,h=>by
  obtain⟨_,_,_,_,_,_,_,rfl,_,_,h2⟩:=trodAll_cons h
  simp[OP h2]
theorem BB{f:FuncId}{fn:Func}{s:ChangeSpec}{tb:TypeId}{fresh handsOn again:Bool}(CF:fn.resultTypes=#[tb])(KQ:P.underlying tb=some .bool)(Vq:s.vars=[])
 (OQ:∀ds:List (DataW H),ds.length=fn.params.toList.length->s.fn H ds={results:=[.lit (.bool true)],args:=ds}) (hp:vh P T=true) (hT:∀t∈fn.params.toList,t∈T) (hl:laidOutB P=true)
 (hr:∀t∈fn.params.toList,P.readableRec t=true/\t<P.types.size) (law:∀xs,D.jc P xs fn.params.toList->aW P f xs (.ret [.bool true]))
 (base:Nat) (args:Array Value) (ds gs:List (DataW H)) (before:List MemPlace)
 (fS:∀ (j:Nat) t v,fn.params[j]? =some t->args[j]? =some v->Value.okWide P W .any base t v) (hW:DataW.Whole enc P fn.params.toList s.vars false W args.toList ds gs before):
 Calls P f args W fun e W'=>∃v,e= .returned v/\s.post enc P fn false fresh handsOn again W args v W':=by
 have hW':=hW
 obtain⟨p,q,hA,hV,rfl,hfz,Ar⟩:=hW
 rw[Vq]at hV
 obtain⟨rfl,rfl⟩:=trodVars_none hV
 obtain⟨xs,a1,a2⟩:=zP (b0:=base) hp fn.params.toList args.toList ds p hT hA (fun j t v h1 h2=>fS j t v (by simpa using h1) vm)
 refine((law xs a1).2 Y5 W args (fun _ h=>h.elim) a2).mono fun e W' ⟨hk,ho⟩=> ?_
 have hb:=hk.below
 cases e with
 |panicked ch=>exact ho.elim
 |outgrown=>exact ho.elim
 |returned v=>
  simp only[R.is,D.den]at ho
  subst ho
  refine⟨_,rfl, ?_⟩
  have hlen:ds.length=fn.params.toList.length:=(OP hA)
  have hold:∀x∈p,x.block<W.heap.size:=fun x hx=>by simpa using hW'.lt x yi
  have dE:∀sp:Nat->Bool,(∀x∈p,sp x.block=true)->DataW.TrodAll enc P W' 0 sp true fn.params.toList args.toList ds p:=fun sp Tj=>zQ hl hr hA fun x hx=>⟨hb.same (hold x hx),Tj x hx⟩
  have Vr:∀ (b:Nat) (sp:Nat->Bool) (hd:Bool),DataW.TrodAll enc P W' b sp hd fn.resultTypes.toList ((Value.bool true).resultList fn.resultTypes.size) [.lit (.bool true)] []:=fun b sp hd=>by
   rw[CF]
   exact trodAll_cons_mk (p:=[]) (p':=[]) ⟨1,by simp[DataW.trod,Value.cells,KQ]⟩ trodAll_mk0
  have OR:∀sp:Nat->Bool,DataW.TrodVars enc P W' sp s.vars [] []:=fun sp=>by rw[Vq];rfl
  refine⟨ds,[],p++[],[],p,[],hW', ?_, ?_, ?_,World.keptBut_mono (fun _ h=>h.elim) (hb.frame (fun _=>False)),fun _=>⟨?_,[.lit (.bool true)]++ds,[],([]++p)++[],⟨[]++p,[],trodAll_append (dE _ fun _ _=>rfl) (Vr 0 (fun _=>true) true),OR _,rfl, ?_,(fun h=>by cases h)⟩,fun x hx _=>by simpa using hx⟩⟩
  ·rw[List.append_nil,OQ ds hlen];exact Vr _ _ _
  ·rw[List.append_nil,OQ ds hlen];exact dE _ fun x hx=>by simpa using hold x hx
  ·rw[List.append_nil,OQ ds hlen];exact OR _
  ·intro j t r h1 h2
   rw[CF]at h1 h2
   match j,h1,h2 with
   |0,h1,h2=>
    simp[Value.resultList]at h1 h2
    subst h1;subst h2
    simp[Value.okWide,KQ,Cell.okWide,Cell.ok]
  ·intro b off hx
   rw[hb.frozen (by simpa[MemPlace.block]using hold _ (by simpa using hx))]
   exact hfz b off yi
end
section
variable {P:Program}{t e:TypeId}{x:D}
theorem xy{k:IntKind}(ht:P.underlying t=some (.int k))(h:D.ir P x t):∃n,x= .int k n/\(Lit.int k n).wf=true:=by
 cases x<;>simp only[D.ir]at h
 case int k' n=>
  rw[ht]at h
  obtain⟨h1,h2⟩:=h
  injection h1 with h1;injection h1 with h1;subst h1
  exact⟨n,rfl,h2⟩
 case bool=>rw[ht]at h;cases h
 case str=>rw[ht]at h;cases h.1
 case sl=>obtain⟨e,h,_⟩:=h;rw[ht]at h;cases h
 case agg=>have:=h.1;unfold isAgg at this;rw[ht]at this;cases this
theorem Kv(ht:P.underlying t=some .bool)(h:D.ir P x t):∃b,x= .bool b:=by
 cases x<;>simp only[D.ir]at h
 case int k' n=>rw[ht]at h;cases h.1
 case bool b=>exact⟨b,rfl⟩
 case str=>rw[ht]at h;cases h.1
 case sl=>obtain⟨e,h,_⟩:=h;rw[ht]at h;cases h
 case agg=>have:=h.1;unfold isAgg at this;rw[ht]at this;cases this
theorem OS(ht:P.underlying t=some .string)(h:D.ir P x t):∃l,x= .str l/\l.length<=maxLen:=by
 cases x<;>simp only[D.ir]at h
 case int k' n=>rw[ht]at h;cases h.1
 case bool b=>rw[ht]at h;cases h
 case str l=>exact⟨l,rfl,h.2⟩
 case sl=>obtain⟨e,h,_⟩:=h;rw[ht]at h;cases h
 case agg=>have:=h.1;unfold isAgg at this;rw[ht]at this;cases this
theorem oS(ht:P.underlying t=some (.slice e))(h:D.ir P x t):∃es,x= .sl es/\es.length<=maxLen/\D.Ku P es e:=by
 cases x<;>simp only[D.ir]at h
 case int k' n=>rw[ht]at h;cases h.1
 case bool b=>rw[ht]at h;cases h
 case str l=>rw[ht]at h;cases h.1
 case sl es=>
  obtain⟨e',h,h2,h3⟩:=h
  rw[ht]at h;injection h with h;injection h with h;subst h
  exact⟨es,rfl,h2,h3⟩
 case agg=>have:=h.1;unfold isAgg at this;rw[ht]at this;cases this
theorem rS{ls:List TypeId}(ha:isAgg P t=true)(hl:mU P 20 t=some ls)(h:D.ir P x t):∃cs,x= .agg cs/\D.jc P cs ls:=by
 have no:∀u,P.underlying t=some u->(∀fs,u≠ .struct fs)->(∀k e,u≠ .array k e)->False:=by
  intro u hu h1 h2
  unfold isAgg at ha
  rw[hu]at ha
  split at ha
  ·rename_i e;injection e with e;exact h1 _ e
  ·rename_i e;injection e with e;exact h2 _ _ e
  ·cases ha
 cases x<;>simp only[D.ir]at h
 case int k' n=>exact(no _ h.1 (fun _ h=>by cases h) (fun _ _ h=>by cases h)).elim
 case bool b=>exact(no _ h (fun _ h=>by cases h) (fun _ _ h=>by cases h)).elim
 case str l=>exact(no _ h.1 (fun _ h=>by cases h) (fun _ _ h=>by cases h)).elim
 case sl es=>obtain⟨e',h,_⟩:=h;exact(no _ h (fun _ h=>by cases h) (fun _ _ h=>by cases h)).elim
 case agg cs=>
  obtain⟨_,ls',h1,h2⟩:=h
  rw[hl]at h1;injection h1 with h1;subst h1
  exact⟨cs,rfl,h2⟩
theorem bT{t:TypeId}{ts:List TypeId}{cs:List D}(h:D.jc P cs (t::ts)):∃x xs,cs=x::xs/\D.ir P x t/\D.jc P xs ts:=by
 cases cs with
 |nil=>simp[D.jc]at h
 |cons x xs=>obtain⟨_,_,e,h1,h2⟩:=h;injection e with e1 e2;subst e1;subst e2;exact⟨x,xs,rfl,h1,h2⟩
theorem lX{cs:List D}(h:D.jc P cs []):cs=[]:=by
 cases cs with
 |nil=>rfl
 |cons x xs=>obtain⟨_,_,e,_⟩:=h;cases e
theorem lY{α:Type}{f:α->D}{q:α->Prop}(hf:∀x,D.ir P x e->∃a,x=f a/\q a):∀ (es:List D),D.Ku P es e->∃l:List α,es=l.map f/\∀a∈l,q a
 |[],_=>⟨[],rfl,fun _ h=>by cases h⟩
 |x::es,h=>by
  obtain⟨a,rfl,h1⟩:=hf x h.1
  obtain⟨l,rfl,h2⟩:=lY hf es h.2
  exact⟨a::l,rfl,fun b hb=>(List.mem_cons.1 hb).elim (fun e=>e ▸ h1) (h2 b)⟩
end
end Go.Proofs.YtlhemmpklhhgoaaGreat
end
section
namespace Go.Proofs.YtlhemmpklhhgoaaGreat
open Go.ChangeShapes Go.WideShapes Go.RowKit
theorem jG:maxLen<=9223372036854775807:=bF
theorem Ix{x:D}(h:D.ir Tryz.prog x 3):∃n:Int,x= .i n:=by
 obtain⟨n,h,_⟩:=xy undT_3 h
 exact⟨n,h⟩
theorem Y6{x:D}(h:D.ir Tryz.prog x 30):∃n:Int,x= .i n:=by
 obtain⟨n,h,_⟩:=xy undT_30 h
 exact⟨n,h⟩
theorem ae5{x:D}(h:D.ir Tryz.prog x 124):∃r:dX,x=r.d/\r.name.length<=9223372036854775807:=by
 obtain⟨cs,rfl,hh⟩:=rS ai (ls:=[9,3]) ai h
 clear h;have h:=hh;clear hh
 obtain⟨a,cs,rfl,ha,h⟩:=bT h
 obtain⟨b,cs,rfl,hb,h⟩:=bT h
 have:=lX h;subst this
 obtain⟨l,rfl,hl⟩:=OS ai ha
 obtain⟨n,rfl⟩:=Ix hb
 exact⟨⟨l,n⟩,rfl,by have:=jG;simp only;omega⟩
theorem ae6{x:D}(h:D.ir Tryz.prog x 24):∃s:az,x=s.d/\s.Fits:=by
 obtain⟨cs,rfl,hh⟩:=rS ai (ls:=[22,22]) ai h
 clear h;have h:=hh;clear hh
 obtain⟨a,cs,rfl,ha,h⟩:=bT h
 obtain⟨b,cs,rfl,hb,h⟩:=bT h
 have:=lX h;subst this
 obtain⟨es,rfl,h1,h2⟩:=oS undT_22 ha
 obtain⟨l,rfl,hl⟩:=lY (fun x h=>ae5 h) es h2
 obtain⟨es',rfl,h3,h4⟩:=oS undT_22 hb
 obtain⟨l',rfl,G0⟩:=lY (fun x h=>ae5 h) es' h4
 have:=jG
 exact⟨⟨l,l'⟩,rfl,⟨by simp at h1;simp only;omega,by simp at h3;simp only;omega,hl,G0⟩⟩
theorem OT:∀ (n:Nat) (x:D),SizeOf.sizeOf x<=n->D.ir Tryz.prog x 33->∃t:Tm,x=t.d/\t.fits:=by
 intro n
 induction n with
 |zero=>intro x hx _;cases x<;>simp at hx
 |succ n ih=>
  intro x hx h
  obtain⟨cs,rfl,hh⟩:=rS ai (ls:=[30,3,31]) ai h
  clear h;have h:=hh;clear hh
  obtain⟨a,cs,rfl,ha,h⟩:=bT h
  obtain⟨b,cs,rfl,hb,h⟩:=bT h
  obtain⟨c,cs,rfl,hc,h⟩:=bT h
  have:=lX h;subst this
  obtain⟨o,rfl⟩:=Y6 ha
  obtain⟨m,rfl⟩:=Ix hb
  obtain⟨es,rfl,h1,h2⟩:=oS undT_31 hc
  have GX:SizeOf.sizeOf es<=n:=by simp at hx;omega
  have:∀es:List D,SizeOf.sizeOf es<=n->D.Ku Tryz.prog es 33->∃l:List Tm,es=l.map Tm.d/\∀k∈l,k.fits:=by
   intro es
   induction es with
   |nil=>intro _ _;exact⟨[],rfl,fun _ h=>by cases h⟩
   |cons y es ihe=>
    intro hs h
    simp at hs
    obtain⟨t,rfl,ht⟩:=ih y af h.1
    obtain⟨l,rfl,hl⟩:=ihe af h.2
    exact⟨t::l,rfl,fun b hb=>(List.mem_cons.1 hb).elim (fun e=>e ▸ ht) (hl b)⟩
  obtain⟨l,rfl,hl⟩:=this es GX h2
  refine⟨.mk o m l,by rw[Tm.Db], ?_⟩
  rw[Tm.cj]
  exact⟨by have:=jG;simp at h1;simp only[Tm.kids];omega,hl⟩
theorem ahg{x:D}(h:D.ir Tryz.prog x 33):∃t:Tm,x=t.d/\t.fits:=OT _ x (Nat.le_refl _) h
end Go.Proofs.YtlhemmpklhhgoaaGreat
end
section
namespace Go.Proofs.YtlhemmpklhhgoaaGreat
open Go.ChangeShapes Go.WideShapes Go.RowKit
end Go.Proofs.YtlhemmpklhhgoaaGreat
end
section
namespace Go.Proofs.YtlhemmpklhhgoaaGreat
open Go.ChangeShapes Go.WideShapes Go.RowKit
theorem OU{x:D}(h:D.ir Tryz.prog x 31):∃l:List Tm,x= .sl (l.map Tm.d)/\l.length<=9223372036854775807/\∀t∈l,t.fits:=by
 obtain⟨es,rfl,h1,h2⟩:=oS undT_31 h
 obtain⟨l,rfl,hl⟩:=lY (fun x h=>ahg h) es h2
 have:=jG
 exact Lq
end Go.Proofs.YtlhemmpklhhgoaaGreat
end
