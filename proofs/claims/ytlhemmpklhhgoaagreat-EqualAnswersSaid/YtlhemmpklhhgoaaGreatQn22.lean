/-
  A PART OF THE PROOF. Conditions: none.
-/
import Derived.OpenShut
import Derived.Carry
import Derived.Handed
import Derived.JoinedOf
import Derived.ProofKit
import Derived.Test.YtlhemmpklhhgoaaGreatQn21
set_option linter.unusedSimpArgs false
set_option linter.unusedVariables false
set_option maxHeartbeats 8000000
namespace Go.Proofs.YtlhemmpklhhgoaaGreat
theorem RK(l:List Nt)(hl:l.length<=9223372036854775807){g p:Nat}{R:ab}(br:Nt->Bool)(hb:∀x∈l,∀ (o:Nat->ab) (nx:Nat),Good o nx->o p=R->∀ (K X:V->(Nat->ab)->Nat->Prop),(∀ (o':Nat->ab) (nx':Nat),nx<=nx'->Good o' nx'->(∀j,j<nx->o' j=o j)->K (.d (.bool (br x))) o' nx')->bQ Tryz.prog g [.d x.d, .ptr p 0] o nx K X)
 (o:Nat->ab) (nx:Nat) (hg:Good o nx) (hp:o p=R) (lp:p<nx) (K X:V->(Nat->ab)->Nat->Prop)
 (hK:∀ (o':Nat->ab) (nx':Nat),nx<=nx'->Good o' nx'->(∀j,j<nx->o' j=o j)->K (.d (.bool (l.any br))) o' nx'):
 bQ Tryz.prog 88 [.d (.sl (l.map Nt.d)), .func (.func g) [] [.ptr p 0]] o nx K X:=by
 refine bQ.aG mix Xq aE ?_
 rw[c88]
 refine fZ ?_
 have key:∀ (K X:V->(Nat->ab)->Nat->Prop),(∀r:Int,decide (0<=r)=l.any br->∀ (o':Nat->ab) (nx':Nat),nx+3<=nx'->Good o' nx'->(∀j,j<nx->o' j=o j)->K (.d (.i r)) o' nx')->
  bQ Tryz.prog 126 [.d (.sl (l.map Nt.d)), .func (.func g) [] [.ptr p 0]] o (nx+3) K X:=by
  intro K X hK
  refine bQ.aG mix Nd aE ?_
  rw[QJ]
  refine EJ ?_
  refine aD (fun i:Nat=>⟨aZ [.d (.sl (l.map Nt.d)), .func (.func g) [] [.ptr p 0], .ad, .ad, .ad, .ad, .ad, .d (.i l.length), .d (.i i)],o,nx+3⟩)
   (fun i=>i<=l.length/\l.any br=(l.drop i).any br) (fun i=>l.length - i) 0 ⟨Nat.zero_le _,rfl⟩ ?_ ?_
  ·exact SZ
  rintro k ⟨Mn,Ag⟩
  refine EJ ?_
  refine ao (fun h1=> ?_) (fun h1=> ?_)
  ·have h1:k<l.length:=by simp at h1;omega
   obtain⟨x,hx⟩:=aB h1
   have ck:=List.mem_of_getElem? hx
   have hd:l.drop k=x::l.drop (k+1):=by
    exact LN
   rw[hd,List.any_cons]at Ag
   refine aap hx ?_
   refine aU (hb x ck _ _ (hg.mono af) hp _ _ (fun o2 n2 m1 m2 m3=> ?_))
   cases yy:br x with
   |true=>
    rw[yy]at Ag
    refine fZ ?_
    exact aaL
   |false=>
    exact abk
  ·have h1:k=l.length:=by simp at h1;omega
   subst h1
   refine fZ ?_
   exact aaT
 exact abI
def IE(P:List TB)(a c:Tm):Bool:=hY (aS (ah P) a) (aS (ah P) c)
theorem pa{P:List TB}{a c:Tm}:IE P a c=true↔aS (ah P) a=aS (ah P) c:=dR _ _
def OD(P:List TB)(s:bU):Bool:=(s.binds.all fun x=>IE P (Pb x) x.term)&& !(s.aH.any fun n=>IE P n.a n.b)
theorem IF{P:List TB}{s:bU}:OD P s=true↔Slv (ah P) s:=by
 unfold OD Slv Sat
 rw[Bool.and_eq_true,List.all_eq_true,Bool.not_eq_true',List.any_eq_false]
 refine and_congr ⟨fun h p hp=> ?_,fun h x hx=> ?_⟩ ⟨fun h n hn=> ?_,fun h n hn=> ?_⟩
 ·obtain⟨x,hx,rfl⟩:=ez hp
  have:=pa.1 (h x hx)
  unfold Pb at this
  rwa [il]at this
 ·rw[pa]
  unfold Pb
  rw[il]
  exact h _ (ir hx)
 ·exact fun e=>h n hn (pa.2 e)
 ·exact fun e=>h n hn (pa.1 e)
theorem OE{s:bU}(h:bw s){P:List TB}(hP:IA P):aX Tryz.prog 31 [s.d, .sl (P.map TB.d)] (.ret [.bool (OD P s)]):=by
 have ss:=h.jk.len
 have uD:=h.rW
 have yH:=hP.len
 refine aX.aG mix agv aE ?_
 rw[c31]
 refine uL ?_
 refine aD (fun k:Nat=>⟨aZ [.ad, .ad, .ptr 0 0, .ptr 1 0, .ad, .ad, .ad, .ad, .d (.sl (s.binds.map TB.d)), .d (.i s.binds.length), .d (.i k)],ay (ay (fun _=> .no) 0 (.row s.row)) 1 (.row [.d (.sl (P.map TB.d))]),2⟩)
  (fun k=>k<=s.binds.length/\(s.binds.all fun x=>IE P (Pb x) x.term)=((s.binds.drop k).all fun x=>IE P (Pb x) x.term)) (fun k=>s.binds.length - k) 0 ⟨Nat.zero_le _,rfl⟩ ?_ (fun k hk=> ?_)
 ·exact PB
 obtain⟨hk,ha⟩:=hk
 refine uL ?_
 refine ao (fun h6=> ?_) (fun h6=> ?_)
 ·replace h6:k<s.binds.length:=by simp at h6;omega
  obtain⟨x,hx⟩:=aB h6
  have ck:=List.mem_of_getElem? hx
  obtain⟨hr,hv⟩:=h.jk.ok x ck
  have D5:s.binds.drop k=x::s.binds.drop (k+1):=by
   exact LN
  rw[D5,List.all_cons]at ha
  have cs:aX Tryz.prog 36 [.sl (P.map TB.d),(Pb x).d,x.term.d] (.ret [.bool (IE P (Pb x) x.term)]):=xy af hP.iz (Pb x) x.term (Vs.var hr) (Iv _) (bz hv).1 (iY hv)
  refine mV hx ?_
  refine aV (Y1 _) ?_
  refine mV hx ?_
  refine a7 cs rfl ?_
  refine mV hx ?_
  refine aI (a8 rfl) ?_
  cases hs:IE P (Pb x) x.term with
  |false=>
   rw[hs,Bool.false_and]at ha
   have:OD P s=false:=by unfold OD;rw[ha];rfl
   exact yz
  |true=>
   rw[hs,Bool.true_and]at ha
   refine bY ?_
   refine aj (k+1) ⟨h6,ha⟩ af (bO.cc _ af af dt (fun j hj=> ?_) ?_)
   ·have hj:j<2:=hj
    rcases(by omega:j=0\/j=1)with rfl|rfl
    ·exact cg
    ·exact cg
   ·exact dW
 ·replace h6:k=s.binds.length:=by simp at h6;omega
  subst h6
  rw[List.drop_length]at ha
  have FJ:OD P s= !(s.aH.any fun n=>IE P n.a n.b):=by unfold OD;rw[ha];rfl
  rw[FJ]
  refine uL ?_
  refine aU (RK s.aH af (R:= .row [.d (.sl (P.map TB.d))]) (fun n=>IE P n.a n.b) (fun n hn o nx hg hp K X hK=> ?_) _ _ ?_ ?_ ?_ _ _ fun o' nx' g2 g3 g4=> ?_)
  ·obtain⟨na,nb,_⟩:=h.aH n hn
   have lp:1<nx:=hg.lt GJ
   have w1:∀k,(1:Nat)≠nx+k:=fun k=>af
   have w2:(1:Nat)≠nx:=af
   have cs:aX Tryz.prog 36 [.sl (P.map TB.d),n.a.d,n.b.d] (.ret [.bool (IE P n.a n.b)]):=xy af hP.iz n.a n.b (bz na).1 (iY na) (bz nb).1 (iY nb)
   refine bQ.aG mix agT aE ?_
   rw[c89]
   refine R0 w1 w2 ?_
   refine ak cs rfl ?_
   refine R0 w1 w2 ?_
   exact hK _ _ af ((hg.mono af).ay af rfl) (fun j hj=>by(repeat(first|rfl|rw[aa]|rw[ae _ _ _ _ (by omega)])))
  ·exact dt
  ·exact cg
  ·omega
  ·exact pX
end Go.Proofs.YtlhemmpklhhgoaaGreat
set_option maxHeartbeats 8000000
namespace Go.Proofs.YtlhemmpklhhgoaaGreat
theorem qE(n:Int)(ks:List Tm):aX Tryz.prog 85 [.i n, .sl (ks.map Tm.d)] (.ret [(Tm.mk 3 n ks).d]):=by
 refine aX.aG mix adp aE ?_
 rw[c85]
 rw[Tm.Df]
 exact pX
def xA(sg:aA)(j:Nat)(a:Int):Bool:=match sg.cons[j]? with|some c=>c.args==a|none=>false
theorem OG{sg:aA}{j:Nat}{a:Int}(h:j<sg.cons.length):∃c,sg.cons[j]? =some c/\(c.args==a)=xA sg j a:=by
 obtain⟨c,hc⟩:=aB h
 exact⟨c,hc,by unfold xA;rw[hc]⟩
theorem OH{sg:aA}{j:Nat}{a:Int}(h: ¬j<sg.cons.length):xA sg j a=false:=by
 unfold xA
 rw[List.getElem?_eq_none (by omega)]
theorem kx(sg:aA)(j:Nat)(a:Int):(∃c,sg.cons[j]? =some c/\(c.args==a)=true/\xA sg j a=true/\j<sg.cons.length)\/(∃c,sg.cons[j]? =some c/\(c.args==a)=false/\xA sg j a=false/\j<sg.cons.length)\/(¬j<sg.cons.length/\xA sg j a=false):=by
 by_cases h:j<sg.cons.length
 ·obtain⟨c,h1,h2⟩:=OG (a:=a) h
  cases hh:xA sg j a with
  |true=>exact .inl ⟨c,h1,h2.trans hh,rfl,h⟩
  |false=>exact .inr (.inl ⟨c,h1,h2.trans hh,rfl,h⟩)
 ·exact .inr (.inr ⟨h,OH h⟩)
def byF(bs:List Int)(n:Nat):Int:=if bs=[]then 0 else(bs[n%bs.length]?).getD 0
def K9(sg:aA)(k:Int)(i:Nat)(t:Tm):Tm:=
 let u:=if xA sg 3 1=true then .mk 3 3 [t]else t
 if i=1/\xA sg 5 2=true then .mk 3 5 [u, .mk 3 (k.tmod 2) []]else u
def mg(sg:aA)(k:Int)(t:Tm):Nat->Tm
 |0=>t
 |i+1=>K9 sg k i (mg sg k t i)
def yf(sg:aA)(k:Int):Tm:=if k.tmod 5=4 then .mk 2 (k.tdiv 5) []else if xA sg 2 0=true then .mk 3 2 []else .mk 3 (k.tmod 2) []
def ptF(sg:aA)(k:Int):Tm:=mg sg k (yf sg k) ((k.tdiv 16).tmod 4).toNat
noncomputable def OI:IC->IC
 | .block _ x=>x
 | .loop x=>x
 |x=>x
noncomputable def BG:IC:=OI (OI (OI c28.snd.snd.fst.snd)).snd.snd.fst
noncomputable def ptR:IC:=BG.snd.snd.snd.snd.snd.snd
def Pf(sg:aA)(L:List TB)(a:Nat)(u:Tm):Nat->ab:=ay (ay (ay (fun _=> .no) 0 (.row sg.row)) 1 (.arr 0 59 4 (L.map TB.d))) a (.row u.row)
theorem OJ{sg:aA}{L:List TB}{a:Nat}{u:Tm}(ha:2<=a):Pf sg L a u 0= .row sg.row/\Pf sg L a u 1= .arr 0 59 4 (L.map TB.d)/\Pf sg L a u a= .row u.row:=by
 unfold Pf
 exact⟨by(repeat(first|rfl|rw[aa]|rw[ae _ _ _ _ (by omega)])),by(repeat(first|rfl|rw[aa]|rw[ae _ _ _ _ (by omega)])),by(repeat(first|rfl|rw[aa]|rw[ae _ _ _ _ (by omega)]))⟩
theorem vo{sg:aA}{L:List TB}{a:Nat}{u:Tm}(ha:2<=a){env:List V}{e:Nat->V}{so:Nat->ab}{m:Nat}(h0:so 0= .row sg.row)(h1:so 1= .arr 0 59 4 (L.map TB.d))(h2:so a= .row u.row\/so a= .row [.d (.i u.op), .d (.i u.n), .aw]/\u.kids=[])(he:iV (a+1) [] so (fun _=>False) e env 0):bO 0 ⟨e,so,m⟩ ⟨aZ env,Pf sg L a u,a+1⟩:=by
 obtain⟨u0,u1,ua⟩:=OJ (sg:=sg) (L:=L) (u:=u) ha
 refine bO.see (fun _=>False) [] (a+1) env rfl af (fun j hj=> ?_) (fun i g h=>by cases h) (fun j hj=> ?_) (fun j h1 h2=>h1.elim) (fun i j gi gj id ep gr h h' e1 e2=>by cases h) he
 ·by_cases e0:j=0
  ·subst e0;rw[u0];exact bD h0 (fun r hr=>by simp[ab.refs,V.aL,V.refs]at hr)
  by_cases e1:j=1
  ·subst e1;rw[u1];exact bD h1 (fun r hr=>by simp[ab.refs]at hr)
  by_cases e2:j=a
  ·subst e2;rw[ua]
   rcases h2 with h2|⟨h2,hk⟩
   ·exact bD h2 (fun r hr=>by simp[ab.refs,V.aL,V.refs]at hr)
   ·rw[show u.row=[.d (.i u.op), .d (.i u.n), .d (.sl [])] by show [_,_,V.d (.sl (u.kids.map Tm.d))]=_;rw[hk];rfl]
    exact lL h2 (mi (mi (Yh rfl (fun id h=>by cases h) lM)))
  have:Pf sg L a u j= .no:=by unfold Pf;(repeat(first|rfl|rw[aa]|rw[ae _ _ _ _ (by omega)]))
  rw[this];exact kW
 ·have hj:a+1<=j:=hj
  show Pf sg L a u j= .no
  unfold Pf;(repeat(first|rfl|rw[aa]|rw[ae _ _ _ _ (by omega)]))
theorem pb{sg:aA}{k:Int}(hk:0<=k/\k<=255){t:Tm}{n:Nat}(hn:n<20){L:List TB}(hL:L.length=n){bs:List Int}{e:Nat->V}{o:Nat->ab}{nx a:Nat}(ha:2<=a/\a<nx)
 (e1:e 1= .d (.sl (bs.map (D.int .u8)))) (e2:e 2= .ptr 0 0) (e5:e 5= .osl 1 0) (e6:e 6= .d (.i n)) (e7:e 7= .d (.i k)) (e8:e 8= .ptr a 0) (GC:e 10= .d (.i n)) (o0:o 0= .row sg.row) (o1:o 1= .arr 0 59 4 (L.map TB.d)) (oa:o a= .row t.row\/o a= .row [.d (.i t.op), .d (.i t.n), .aw]/\t.kids=[]) (Q:fS->S->Prop)
 (hQ:∀ (e':Nat->V) (o':Nat->ab) (nx':Nat),e' 1= .d (.sl (bs.map (D.int .u8)))->e' 2= .ptr 0 0->e' 5= .osl 1 1->e' 10= .d (.i n)->o' 0= .row sg.row->o' 1= .arr 1 59 4 ((L++[(⟨(n:Int),mg sg k t ((k.tdiv 16).tmod 4).toNat⟩:TB)]).map TB.d)->Q .normal ⟨e',o',nx'⟩):
 ke Tryz.prog 98 0 false ptR Q ⟨e,o,nx⟩:=by
 have hq0:0<=(k.tdiv 16).tmod 4:=Int.tmod_nonneg 4 (Int.tdiv_nonneg hk.1 bC)
 obtain⟨m,hm⟩:∃m:Nat,(k.tdiv 16).tmod 4=(m:Int):=⟨((k.tdiv 16).tmod 4).toNat,af⟩
 rw[hm,Int.toNat_natCast]at hQ
 have hm4:m<4:=by have:=Int.tmod_lt_of_pos (k.tdiv 16) (by decide:(0:Int)<4);omega
 have d1:(1:Nat)≠a:=af
 have d0:(0:Nat)≠a:=af
 simp only[ptR,BG,OI,c28,IC.snd,IC.fst]
 have hw:IntKind.i64.wrap (k.tdiv 16)=k.tdiv 16:=by
  rw[Int.tdiv_eq_ediv_of_nonneg hk.1]
  exact wrap64 af af
 have ER:a≠0:=af
 have ES:a≠1:=af
 simp+contextual (disch:=first|omega|simp only[go_sem,false_implies]) only[go_sem,wrap64,if_pos,e1,e2,e5,e6,e7,e8,GC,hw,hm]
 refine aD (fun i:Nat=>⟨aZ [.ad, .d (.sl (bs.map (D.int .u8))), .ptr 0 0, .ad, .ad, .osl 1 0, .d (.i n), .d (.i k), .ptr a 0, .ad, .d (.i n), .ad, .ad, .ad, .ad, .ad, .ad, .ad, .ad, .ad, .ad, .ad, .ad, .ad, .ad, .ad, .ad, .ad, .ad, .ad, .ad, .ad, .ad, .ad, .ad, .ad, .ad, .ad, .ad, .ad, .ad, .ad, .ad, .ad, .ad, .ad, .ad, .ad, .d (.i m), .d (.i i)],Pf sg L a (mg sg k t i),a+1⟩)
  (fun i=>i<=m) (fun i=>m - i) 0 (Nat.zero_le _) ?_ (fun i hi=> ?_)
 ·refine vo ha.1 o0 o1 oa ?_
  refine cD ?_
  refine c7 (by(repeat(first|rfl|rw[aa]|rw[ae _ _ _ _ (by omega)]));exact e1) ?_
  refine iG (by(repeat(first|rfl|rw[aa]|rw[ae _ _ _ _ (by omega)]));exact e2) pk ?_
  refine cD (cD ?_)
  refine iG Se (by simp[V.refs];omega) ?_
  refine c7 (by(repeat(first|rfl|rw[aa]|rw[ae _ _ _ _ (by omega)]));exact e6) ?_
  refine c7 (by(repeat(first|rfl|rw[aa]|rw[ae _ _ _ _ (by omega)]));exact e7) ?_
  refine iG (by(repeat(first|rfl|rw[aa]|rw[ae _ _ _ _ (by omega)]));exact e8) pk ?_
  refine cD ?_
  refine c7 (by(repeat(first|rfl|rw[aa]|rw[ae _ _ _ _ (by omega)]));exact GC) ?_
  exact kG
 have hi:i<=m:=hi
 obtain⟨u0,u1,ua⟩:=OJ (sg:=sg) (L:=L) (u:=mg sg k t i) ha.1
 refine BV u0 u1 ua d0 d1 ER ES ?_
 refine ao (fun h6=> ?_) (fun h6=> ?_)
 ·replace h6:i<m:=by simp at h6;omega
  rcases kx sg 3 1 with⟨c3,M5,Y3,La,hl3⟩|⟨c3,M5,Y3,La,hl3⟩|⟨hl3,La⟩
  ·have OK:decide ((sg.cons.length:Int)>3)=true:=decide_eq_true af
   simp+contextual (disch:=first|omega|simp only[go_sem,false_implies]) only[go_sem,wrap64,if_pos,u0,u1,ua,d0,d1,ER,ES,Nat.add_assoc,Nat.left_eq_add,Nat.add_eq_left,Nat.add_left_cancel_iff,List.length_map,OK,M5,Y3]
   refine bc (qE 3 [mg sg k t i]) ?_
   by_cases h1:i=1
   ·subst h1
    rcases kx sg 5 2 with⟨c5,SH,B6,Gy,Pg⟩|⟨c5,SH,B6,Gy,Pg⟩|⟨Pg,Gy⟩
    ·have xN:decide ((sg.cons.length:Int)>5)=true:=decide_eq_true af
     have hS:mg sg k t (1+1)= .mk 3 5 [.mk 3 3 [mg sg k t 1], .mk 3 (k.tmod 2) []]:=by rw[mg,K9,La,Gy];simp
     simp+contextual (disch:=first|omega|simp only[go_sem,false_implies]) only[go_sem,wrap64,if_pos,u0,u1,ua,d0,d1,ER,ES,Nat.add_assoc,Nat.left_eq_add,Nat.add_eq_left,Nat.add_left_cancel_iff,List.length_map,xN,SH,B6]
     refine aV (qE (k.tmod 2) []) ?_
     refine BV u0 u1 ua d0 d1 ER ES ?_
     refine aV (qE 5 [.mk 3 3 [mg sg k t 1], .mk 3 (k.tmod 2) []]) ?_
     refine BV u0 u1 ua d0 d1 ER ES ?_
     refine aI (bu (ids:=[a,a+40]) (nx:=a+43) aE aE [([0],[]),([],[]),([],[]),([],[]),([],[1]),([1],[1]),([0],[0])] bC) ?_
     exact abr
    ·have xN:decide ((sg.cons.length:Int)>5)=true:=decide_eq_true af
     have hS:mg sg k t (1+1)= .mk 3 3 [mg sg k t 1]:=by rw[mg,K9,La,Gy];simp
     exact zw7
    ·have xN:decide ((sg.cons.length:Int)>5)=false:=decide_eq_false af
     have hS:mg sg k t (1+1)= .mk 3 3 [mg sg k t 1]:=by rw[mg,K9,La,Gy];simp
     exact VN
   ·have eW:((i:Int)==1)=false:=by rw[beq_eq_false_iff_ne];omega
    have hS:mg sg k t (i+1)= .mk 3 3 [mg sg k t i]:=by rw[mg,K9,La];simp[h1]
    exact VO
  ·have OK:decide ((sg.cons.length:Int)>3)=true:=decide_eq_true af
   simp+contextual (disch:=first|omega|simp only[go_sem,false_implies]) only[go_sem,wrap64,if_pos,u0,u1,ua,d0,d1,ER,ES,Nat.add_assoc,Nat.left_eq_add,Nat.add_eq_left,Nat.add_left_cancel_iff,List.length_map,OK,M5,Y3]
   by_cases h1:i=1
   ·subst h1
    rcases kx sg 5 2 with⟨c5,SH,B6,Gy,Pg⟩|⟨c5,SH,B6,Gy,Pg⟩|⟨Pg,Gy⟩
    ·have xN:decide ((sg.cons.length:Int)>5)=true:=decide_eq_true af
     have hS:mg sg k t (1+1)= .mk 3 5 [mg sg k t 1, .mk 3 (k.tmod 2) []]:=by rw[mg,K9,La,Gy];simp
     simp+contextual (disch:=first|omega|simp only[go_sem,false_implies]) only[go_sem,wrap64,if_pos,u0,u1,ua,d0,d1,ER,ES,Nat.add_assoc,Nat.left_eq_add,Nat.add_eq_left,Nat.add_left_cancel_iff,List.length_map,xN,SH,B6]
     refine aV (qE (k.tmod 2) []) ?_
     refine BV u0 u1 ua d0 d1 ER ES ?_
     refine aV (qE 5 [mg sg k t 1, .mk 3 (k.tmod 2) []]) ?_
     refine BV u0 u1 ua d0 d1 ER ES ?_
     refine aI (bu (ids:=[a,a+36]) (nx:=a+39) aE aE [([0],[]),([],[]),([],[]),([],[]),([],[1]),([1],[1]),([0],[0])] bC) ?_
     exact abr
    ·have xN:decide ((sg.cons.length:Int)>5)=true:=decide_eq_true af
     have hS:mg sg k t (1+1)=mg sg k t 1:=by rw[mg,K9,La,Gy];simp
     exact zw7
    ·have xN:decide ((sg.cons.length:Int)>5)=false:=decide_eq_false af
     have hS:mg sg k t (1+1)=mg sg k t 1:=by rw[mg,K9,La,Gy];simp
     exact VN
   ·have eW:((i:Int)==1)=false:=by rw[beq_eq_false_iff_ne];omega
    have hS:mg sg k t (i+1)=mg sg k t i:=by rw[mg,K9,La];simp[h1]
    exact VO
  ·have OK:decide ((sg.cons.length:Int)>3)=false:=decide_eq_false af
   refine Lb u0 u1 ua d0 d1 ER ES OK ?_
   by_cases h1:i=1
   ·subst h1
    rcases kx sg 5 2 with⟨c5,SH,B6,Gy,Pg⟩|⟨c5,SH,B6,Gy,Pg⟩|⟨Pg,Gy⟩
    ·exact absurd Pg af
    ·exact absurd Pg af
    ·have xN:decide ((sg.cons.length:Int)>5)=false:=decide_eq_false af
     have hS:mg sg k t (1+1)=mg sg k t 1:=by rw[mg,K9,La,Gy];simp
     exact VN
   ·have eW:((i:Int)==1)=false:=by rw[beq_eq_false_iff_ne];omega
    have hS:mg sg k t (i+1)=mg sg k t i:=by rw[mg,K9,La];simp[h1]
    exact VO
 ·replace h6:i=m:=by simp at h6;omega
  subst h6
  have eE:n<=140737488355327/\(n+1)*48<=140737488355328:=af
  simp+contextual (disch:=first|omega|simp only[go_sem,false_implies]) only[go_sem,wrap64,if_pos,u0,u1,ua,d0,d1,ER,ES,Nat.add_assoc,Nat.left_eq_add,Nat.add_eq_left,Nat.add_left_cancel_iff,List.length_map,hL,eE]
  refine hQ _ _ _ rfl rfl rfl rfl ?_ ?_
  ·(repeat(first|rfl|rw[aa]|rw[ae _ _ _ _ (by omega)]));exact u0
  ·(repeat(first|rfl|rw[aa]|rw[ae _ _ _ _ (by omega)]));rw[List.map_append];rfl
end Go.Proofs.YtlhemmpklhhgoaaGreat
set_option maxHeartbeats 8000000
namespace Go.Proofs.YtlhemmpklhhgoaaGreat
noncomputable def ptB:IC:=BG.snd.snd.snd
theorem IG{sg:aA}{k:Int}(hk:0<=k/\k<=255){n:Nat}(hn:n<20){L:List TB}(hL:L.length=n){bs:List Int}{e:Nat->V}{o:Nat->ab}{nx:Nat}(uz:2<=nx)
 (e1:e 1= .d (.sl (bs.map (D.int .u8)))) (e2:e 2= .ptr 0 0) (e5:e 5= .osl 1 0) (e6:e 6= .d (.i n)) (e7:e 7= .d (.i k)) (GC:e 10= .d (.i n)) (o0:o 0= .row sg.row) (o1:o 1= .arr 0 59 4 (L.map TB.d)) (Q:fS->S->Prop)
 (hQ:∀ (e':Nat->V) (o':Nat->ab) (nx':Nat),e' 1= .d (.sl (bs.map (D.int .u8)))->e' 2= .ptr 0 0->e' 5= .osl 1 1->e' 10= .d (.i n)->o' 0= .row sg.row->o' 1= .arr 1 59 4 ((L++[(⟨(n:Int),ptF sg k⟩:TB)]).map TB.d)->Q .normal ⟨e',o',nx'⟩):
 ke Tryz.prog 98 0 false ptB Q ⟨e,o,nx⟩:=by
 have hw:IntKind.i64.wrap (k.tdiv 5)=k.tdiv 5:=by
  rw[Int.tdiv_eq_ediv_of_nonneg hk.1]
  exact wrap64 af af
 have w0:∀j,(0:Nat)≠nx+j:=fun j=>af
 have w1:∀j,(1:Nat)≠nx+j:=fun j=>af
 have Ph:(0:Nat)≠nx:=af
 have Pj:(1:Nat)≠nx:=af
 unfold ptF at hQ
 simp only[ptB,BG,OI,c28,IC.snd,IC.fst]
 show ke _ _ _ _ (.seq _ (.seq _ (.seq _ ptR))) _ _
 simp+contextual (disch:=first|omega|simp only[go_sem,false_implies]) only[go_sem,wrap64,if_pos,e1,e2,e5,e6,e7,GC,o0,o1,w0,w1,Ph,Pj,Nat.add_assoc,Nat.left_eq_add,Nat.add_eq_left,Nat.add_left_cancel_iff]
 refine bc (qE (k.tmod 2) []) ?_
 rcases kx sg 2 0 with⟨c2,sN,Y4,hA2,SG⟩|⟨c2,sN,Y4,hA2,SG⟩|⟨SG,hA2⟩
 ·have OL:decide ((sg.cons.length:Int)>2)=true:=decide_eq_true af
  simp+contextual (disch:=first|omega|simp only[go_sem,false_implies]) only[go_sem,wrap64,if_pos,e1,e2,e5,e6,e7,GC,o0,o1,w0,w1,Ph,Pj,Nat.add_assoc,Nat.left_eq_add,Nat.add_eq_left,Nat.add_left_cancel_iff,OL,sN,Y4]
  refine bc (qE 2 []) ?_
  by_cases h5:k.tmod 5=4
  ·have uP:(k.tmod 5==4)=true:=by rw[beq_iff_eq];exact h5
   have hp:yf sg k= .mk 2 (k.tdiv 5) []:=by unfold yf;rw[if_pos h5]
   simp+contextual (disch:=first|omega|simp only[go_sem,false_implies]) only[go_sem,wrap64,if_pos,e1,e2,e5,e6,e7,GC,o0,o1,w0,w1,Ph,Pj,Nat.add_assoc,Nat.left_eq_add,Nat.add_eq_left,Nat.add_left_cancel_iff,uP,hw]
   refine pb (bs:=bs) hk hn hL (t:=yf sg k) (a:=nx+3) ?_ ?_ ?_ ?_ ?_ ?_ ?_ ?_ ?_ ?_ ?_ Q hQ
   ·exact yl
   ·exact IZ
   ·exact I0
   ·exact I1
   ·exact I2
   ·exact I3
   ·rfl
   ·exact IY
   ·exact I7
   ·exact I8
   ·right;(repeat(first|rfl|rw[aa]|rw[ae _ _ _ _ (by omega)]));rw[hp];exact⟨rfl,rfl⟩
  ·have uP:(k.tmod 5==4)=false:=by rw[beq_eq_false_iff_ne];exact h5
   have hp:yf sg k= .mk 3 2 []:=by unfold yf;rw[if_neg h5,hA2];rfl
   simp+contextual (disch:=first|omega|simp only[go_sem,false_implies]) only[go_sem,wrap64,if_pos,e1,e2,e5,e6,e7,GC,o0,o1,w0,w1,Ph,Pj,Nat.add_assoc,Nat.left_eq_add,Nat.add_eq_left,Nat.add_left_cancel_iff,uP,hw]
   refine pb (bs:=bs) hk hn hL (t:=yf sg k) (a:=nx+3) ?_ ?_ ?_ ?_ ?_ ?_ ?_ ?_ ?_ ?_ ?_ Q hQ
   ·exact yl
   ·exact IZ
   ·exact I0
   ·exact I1
   ·exact I2
   ·exact I3
   ·rfl
   ·exact IY
   ·exact I7
   ·exact I8
   ·left;(repeat(first|rfl|rw[aa]|rw[ae _ _ _ _ (by omega)]));rw[hp]
 ·have OL:decide ((sg.cons.length:Int)>2)=true:=decide_eq_true af
  simp+contextual (disch:=first|omega|simp only[go_sem,false_implies]) only[go_sem,wrap64,if_pos,e1,e2,e5,e6,e7,GC,o0,o1,w0,w1,Ph,Pj,Nat.add_assoc,Nat.left_eq_add,Nat.add_eq_left,Nat.add_left_cancel_iff,OL,sN,Y4]
  by_cases h5:k.tmod 5=4
  ·have uP:(k.tmod 5==4)=true:=by rw[beq_iff_eq];exact h5
   have hp:yf sg k= .mk 2 (k.tdiv 5) []:=by unfold yf;rw[if_pos h5]
   simp+contextual (disch:=first|omega|simp only[go_sem,false_implies]) only[go_sem,wrap64,if_pos,e1,e2,e5,e6,e7,GC,o0,o1,w0,w1,Ph,Pj,Nat.add_assoc,Nat.left_eq_add,Nat.add_eq_left,Nat.add_left_cancel_iff,uP,hw]
   refine pb (bs:=bs) hk hn hL (t:=yf sg k) (a:=nx+3) ?_ ?_ ?_ ?_ ?_ ?_ ?_ ?_ ?_ ?_ ?_ Q hQ
   ·exact yl
   ·exact IZ
   ·exact I0
   ·exact I1
   ·exact I2
   ·exact I3
   ·rfl
   ·exact IY
   ·exact I7
   ·exact I8
   ·right;(repeat(first|rfl|rw[aa]|rw[ae _ _ _ _ (by omega)]));rw[hp];exact⟨rfl,rfl⟩
  ·have uP:(k.tmod 5==4)=false:=by rw[beq_eq_false_iff_ne];exact h5
   have hp:yf sg k= .mk 3 (k.tmod 2) []:=by unfold yf;rw[if_neg h5,hA2];rfl
   simp+contextual (disch:=first|omega|simp only[go_sem,false_implies]) only[go_sem,wrap64,if_pos,e1,e2,e5,e6,e7,GC,o0,o1,w0,w1,Ph,Pj,Nat.add_assoc,Nat.left_eq_add,Nat.add_eq_left,Nat.add_left_cancel_iff,uP,hw]
   refine pb (bs:=bs) hk hn hL (t:=yf sg k) (a:=nx+3) ?_ ?_ ?_ ?_ ?_ ?_ ?_ ?_ ?_ ?_ ?_ Q hQ
   ·exact yl
   ·exact IZ
   ·exact I0
   ·exact I1
   ·exact I2
   ·exact I3
   ·rfl
   ·exact IY
   ·exact I7
   ·exact I8
   ·left;(repeat(first|rfl|rw[aa]|rw[ae _ _ _ _ (by omega)]));rw[hp]
 ·have OL:decide ((sg.cons.length:Int)>2)=false:=decide_eq_false af
  simp+contextual (disch:=first|omega|simp only[go_sem,false_implies]) only[go_sem,wrap64,if_pos,e1,e2,e5,e6,e7,GC,o0,o1,w0,w1,Ph,Pj,Nat.add_assoc,Nat.left_eq_add,Nat.add_eq_left,Nat.add_left_cancel_iff,OL]
  by_cases h5:k.tmod 5=4
  ·have uP:(k.tmod 5==4)=true:=by rw[beq_iff_eq];exact h5
   have hp:yf sg k= .mk 2 (k.tdiv 5) []:=by unfold yf;rw[if_pos h5]
   simp+contextual (disch:=first|omega|simp only[go_sem,false_implies]) only[go_sem,wrap64,if_pos,e1,e2,e5,e6,e7,GC,o0,o1,w0,w1,Ph,Pj,Nat.add_assoc,Nat.left_eq_add,Nat.add_eq_left,Nat.add_left_cancel_iff,uP,hw]
   refine pb (bs:=bs) hk hn hL (t:=yf sg k) (a:=nx+3) ?_ ?_ ?_ ?_ ?_ ?_ ?_ ?_ ?_ ?_ ?_ Q hQ
   ·exact yl
   ·exact IZ
   ·exact I0
   ·exact I1
   ·exact I2
   ·exact I3
   ·rfl
   ·exact IY
   ·exact I7
   ·exact I8
   ·right;(repeat(first|rfl|rw[aa]|rw[ae _ _ _ _ (by omega)]));rw[hp];exact⟨rfl,rfl⟩
  ·have uP:(k.tmod 5==4)=false:=by rw[beq_eq_false_iff_ne];exact h5
   have hp:yf sg k= .mk 3 (k.tmod 2) []:=by unfold yf;rw[if_neg h5,hA2];rfl
   simp+contextual (disch:=first|omega|simp only[go_sem,false_implies]) only[go_sem,wrap64,if_pos,e1,e2,e5,e6,e7,GC,o0,o1,w0,w1,Ph,Pj,Nat.add_assoc,Nat.left_eq_add,Nat.add_eq_left,Nat.add_left_cancel_iff,uP,hw]
   refine pb (bs:=bs) hk hn hL (t:=yf sg k) (a:=nx+3) ?_ ?_ ?_ ?_ ?_ ?_ ?_ ?_ ?_ ?_ ?_ Q hQ
   ·exact yl
   ·exact IZ
   ·exact I0
   ·exact I1
   ·exact I2
   ·exact I3
   ·rfl
   ·exact IY
   ·exact I7
   ·exact I8
   ·left;(repeat(first|rfl|rw[aa]|rw[ae _ _ _ _ (by omega)]));rw[hp]
end Go.Proofs.YtlhemmpklhhgoaaGreat
set_option maxHeartbeats 8000000
namespace Go.Proofs.YtlhemmpklhhgoaaGreat
def Es(sg:aA)(bs:List Int)(n:Nat):List TB:=(List.range n).map (fun(j:Nat)=>(⟨(j:Int),ptF sg (byF bs j)⟩:TB))
theorem BH(sg:aA)(bs:List Int)(n:Nat):(Es sg bs n).length=n:=by simp[Es]
theorem Et(sg:aA)(bs:List Int)(n:Nat):Es sg bs (n+1)=Es sg bs n++[(⟨(n:Int),ptF sg (byF bs n)⟩:TB)]:=by
 unfold Es
 rw[List.range_succ,List.map_append]
 rfl
def ptO(sg:aA)(L:List TB):Nat->ab:=ay (ay (fun _=> .no) 0 (.row sg.row)) 1 (.arr 0 59 4 (L.map TB.d))
theorem RL(sg:aA)(bs:List Int)(hb:∀x∈bs,0<=x/\x<=255)(ss:bs.length<=9223372036854775807):aX Tryz.prog 28 [sg.d, .sl (bs.map (D.int .u8))] (.ret [.sl ((Es sg bs 20).map TB.d)]):=by
 have Ec:Good (ay (fun _=> .no) 0 (.row sg.row)) 1:=dt
 refine aX.aG mix agt aE ?_
 rw[c28]
 refine bY ?_
 refine aD (fun n:Nat=>⟨aZ [.ad, .d (.sl (bs.map (D.int .u8))), .ptr 0 0, .ad, .ad, .osl 1 0, .ad, .ad, .ad, .ad, .d (.i n)],ptO sg (Es sg bs n),2⟩)
  (fun n=>n<=20) (fun n=>20 - n) 0 (Nat.zero_le _) ?_ (fun n hn=> ?_)
 ·refine eV (O:=ay (fun _=> .no) 0 (.row sg.row)) (c:=1) Ec af (fun _=>False) .aw _ (fun _ h=>h.elim) (.inl ⟨rfl,rfl,bC⟩) (fun j hj=> ?_) ?_
  ·have:j=0:=af
   subst this
   rfl
  ·exact kG
 have hn:n<=20:=hn
 have v0:ptO sg (Es sg bs n) 0= .row sg.row:=rfl
 have v1:ptO sg (Es sg bs n) 1= .arr 0 59 4 ((Es sg bs n).map TB.d):=rfl
 show ke _ _ _ _ (.seq _ (.seq _ (.seq (.block 1 (.seq _ (.seq _ (.seq _ ptB)))) _))) _ _
 refine IW v0 v1 ?_
 refine ao (fun h6=> ?_) (fun h6=> ?_)
 ·replace h6:n<20:=by simp at h6;omega
  refine pf v0 v1 ?_
  refine ao (fun h7=> ?_) (fun h7=> ?_)
  ·have h7:0<bs.length:=by simp at h7;omega
   have hm:n%bs.length<bs.length:=Nat.mod_lt _ h7
   obtain⟨x,hx⟩:=aB hm
   have Rz:=hb x (List.mem_of_getElem? hx)
   have hw:IntKind.i64.wrap x=x:=wrap64 af af
   have ht:((n:Int).tmod (bs.length:Int))=((n%bs.length:Nat):Int):=by rw[Int.tmod_eq_emod_of_nonneg (by omega)];exact(Int.natCast_emod n bs.length).symm
   have hz:(bs.length:Int)≠0:=af
   have hby:byF bs n=x:=by unfold byF;rw[if_neg (by intro e;rw[e]at h7;cases h7),hx];rfl
   simp+contextual (disch:=first|omega|simp only[go_sem,false_implies]) only[go_sem,wrap64,if_pos,v0,v1,List.length_map,hx,hw,ht,hz]
   refine IG (sg:=sg) (k:=x) Rz h6 (BH sg bs n) (bs:=bs) ?_ ?_ ?_ ?_ ?_ ?_ ?_ ?_ ?_ _ (fun e' o' nx' g1 g2 g3 g4 g5 g6=> ?_)
   ·omega
   ·exact cg
   ·exact cg
   ·exact cg
   ·exact cg
   ·exact cg
   ·exact cg
   ·exact v0
   ·exact v1
   refine BX g1 g2 g3 g4 g5 g6 ?_
   refine aj (n+1) h6 af (eV (O:=ay (fun _=> .no) 0 (.row sg.row)) (c:=1) Ec af (fun j=>j=1) (.osl 1 1) _ (fun j e=>af) (.inr ⟨1,1,rfl,rfl, ?_⟩) (fun j hj=> ?_) ?_)
   ·rw[Et,hby]
    exact g6
   ·have:j=0:=af
    subst this
    exact g5
   ·exact abG
  ·have h7:bs=[]:=by simp at h7;exact h7
   have hby:byF bs n=0:=by unfold byF;rw[if_pos h7]
   refine pf v0 v1 ?_
   refine IG (sg:=sg) (k:=0) af h6 (BH sg bs n) (bs:=bs) ?_ ?_ ?_ ?_ ?_ ?_ ?_ ?_ ?_ _ (fun e' o' nx' g1 g2 g3 g4 g5 g6=> ?_)
   ·omega
   ·exact cg
   ·exact cg
   ·exact cg
   ·exact cg
   ·exact cg
   ·exact cg
   ·exact v0
   ·exact v1
   refine BX g1 g2 g3 g4 g5 g6 ?_
   refine aj (n+1) h6 af (eV (O:=ay (fun _=> .no) 0 (.row sg.row)) (c:=1) Ec af (fun j=>j=1) (.osl 1 1) _ (fun j e=>af) (.inr ⟨1,1,rfl,rfl, ?_⟩) (fun j hj=> ?_) ?_)
   ·rw[Et,hby]
    exact g6
   ·have:j=0:=af
    subst this
    exact g5
   ·exact abG
 ·replace h6:n=20:=by simp at h6;omega
  subst h6
  exact Lf v0 v1
end Go.Proofs.YtlhemmpklhhgoaaGreat
set_option maxHeartbeats 8000000
namespace Go.Proofs.YtlhemmpklhhgoaaGreat
theorem RM(sg:aA)(k:Int):(yf sg k).iz:=by
 unfold yf
 split
 ·simp[Tm.iz,Tm.ya]
 ·split<;>simp[Tm.iz,Tm.ya]
theorem II(sg:aA)(k:Int){t:Tm}(ht:t.iz):∀i,(mg sg k t i).iz
 |0=>ht
 |i+1=>by
  have h:=II sg k ht i
  simp only[mg,K9]
  split
  ·split
   ·simp[Tm.iz,Tm.ya,h]
   ·simp[Tm.iz,Tm.ya,h]
  ·split
   ·simp[Tm.iz,Tm.ya,h]
   ·exact h
theorem Eu(sg:aA)(bs:List Int):IA (Es sg bs 20):=by
 refine⟨BH _ _ _,fun i y hy=> ?_,fun y hy=> ?_⟩
 ·unfold Es at hy
  rw[List.getElem?_map]at hy
  cases h:(List.range 20)[i]? with
  |none=>rw[h]at hy;cases hy
  |some j=>
   rw[h]at hy
   injection hy with hy
   obtain⟨h1,h2⟩:=List.getElem?_eq_some_iff.1 h
   rw[List.getElem_range]at h2
   rw[<- hy, <- h2]
 ·obtain⟨j,_,rfl⟩:=List.mem_map.1 hy
  exact II sg _ (RM sg _) _
theorem RN{s:bU}(h:bw s){P:List TB}(hP:IA P):IA (exR s P):=by
 unfold exR
 have key:∀ (l:List TB),(∀x∈l,x∈s.binds)->∀P,IA P->IA (l.foldl Y2 P):=by
  intro l
  induction l with
  |nil=>intro _ P hP;exact hP
  |cons x l ih=>
   intro hl P hP
   obtain⟨hr,hv⟩:=h.jk.ok x (hl x aE)
   exact ih (fun y hy=>hl y lh) _ (IB hP hr (iY hv))
 exact key _ (fun x hx=>hx) P hP
theorem IJ{s:bU}(h:bw s):∀ (n:Nat) {P:List TB},IA P->IA (Pc s n P)
 |0,_,hP=>hP
 |n+1,_,hP=>IJ h n (RN h hP)
theorem RP{s:aA}{b:List (Int×Tm)}{l:List TB}{ρ:Int->Nat}{R:Nat}(h:kq s b l ρ R):Sat (ah l) b:=fun p hp=>(h.ok p.1 p.2 ((jj h.keys).2 hp)).2.1
theorem Ev{s:aA}{lim:Bool}{b:List (Int×Tm)}{l:List TB}{ρ:Int->Nat}{R:Nat}(h:kq s b l ρ R):∀ (f:Nat) (a c:Tm),Vs s a->Vs s c->aS (ah l) a=aS (ah l) c->∀ {r:Int×List (Int×Tm)},iw lim f a c b=some r->r=(0,b)
 |0,_,_,_,_,_,_,hr=>by cases hr
 |f+1,a,c,ha,hc,he,r,hr=>by
  obtain⟨x,a1,a2,a3,a4,_,_⟩:=h.root ha
  obtain⟨y,b1,b2,b3,b4,_,_⟩:=h.root hc
  obtain⟨p1,p2,p3,p4,p5⟩:=oX h a2 a4
  obtain⟨q1,q2,q3,q4,q5⟩:=oX h b2 b4
  have exy:aS (ah l) x=aS (ah l) y:=by rw[a3,b3,he]
  have eo:x.op=y.op:=by rw[<- p1, <- q1,exy]
  have en:x.n=y.n:=by rw[<- p2, <- q2,exy]
  have ek:x.kids.length=y.kids.length:=by rw[<- p3, <- q3,exy]
  simp only[iw,cC a1,cC b1]at hr
  by_cases h1:x.op=1
  ·rw[if_pos h1,if_pos (eo ▸ h1),if_pos en]at hr
   injection hr with hr
   exact hr.symm
  ·have eW: ¬y.op=1:=eo ▸ h1
   rw[if_neg h1,if_neg eW,if_pos ⟨eo,en,ek⟩]at hr
   have hk:x.kids.map (aS (ah l))=y.kids.map (aS (ah l)):=by rw[<- p5 h1, <- q5 eW,exy]
   have key:∀ (ks cE:List Tm),(∀k∈ks,Vs s k)->(∀k∈cE,Vs s k)->ks.map (aS (ah l))=cE.map (aS (ah l))->∀ {r},lJ (iw lim f) ks cE b=some r->r=(0,b):=by
    intro ks
    induction ks with
    |nil=>
     intro cE _ _ _ r hr
     cases cE<;>(simp only[lJ]at hr;injection hr with hr;exact hr.symm)
    |cons k ks ih=>
     intro cE v1 v2 hm r hr
     cases cE with
     |nil=>cases hm
     |cons k' cE=>
      simp only[List.map_cons]at hm
      injection hm with m1 m2
      simp only[lJ]at hr
      cases hq:iw lim f k k' b with
      |none=>rw[hq]at hr;cases hr
      |some q=>
       have:=Ev h f k k' (v1 k aE) (v2 k' aE) m1 hq
       rw[hq,this]at hr
       simp only[if_true]at hr
       exact ih cE (fun z hz=>v1 z pE) (fun z hz=>v2 z pE) m2 hr
   exact key _ _ (fun k hk=>a2.kA hk) (fun k hk=>b2.kA hk) hk hr
theorem RQ{s:bU}(h:bw s){a c:Tm}(va:bB s.sig a=true)(vc:bB s.sig c=true)(hb:oZ (ah s.binds) ⟨a,c⟩){f:Nat}{e:Int}{b':List (Int×Tm)}(hq:iw true f a c (ah s.binds)=some (e,b')){bk:Nt->Bool}(py:∀n,bk n=true↔oZ b' n):dE e (s.aH.any bk)=0/\s.tell b'=s:=by
 obtain⟨l,ρ,R,hS,hl⟩:=iu h.jk.keys h.jk.ok h.jk.DZ
 have wa:=(bz va).1
 have wc:=(bz vc).1
 have he:=(o6 hS (n:=⟨a,c⟩) wa wc).1 hb
 have:=Ev hS f a c wa wc he hq
 injection this with e1 e2
 subst e1
 subst e2
 have hn:s.aH.any bk=false:=by
  rw[List.any_eq_false]
  intro n hn hk
  exact(h.aH n hn).2.2 ((py n).1 hk)
 rw[hn]
 exact⟨rfl,by unfold bU.tell;rw[la]⟩
theorem Y5{s:bU}(h:bw s){a c:Tm}(va:bB s.sig a=true)(vc:bB s.sig c=true){f:Nat}{e:Int}{b':List (Int×Tm)}(hq:iw true f a c (ah s.binds)=some (e,b')){bk:Nt->Bool}(py:∀n,bk n=true↔oZ b' n)(hw:dE e (s.aH.any bk)=5){θ:List (Int×Tm)}(hs:Slv θ s):aS θ a≠aS θ c:=fun k3=>by
 obtain⟨k1,k2⟩:=hs
 unfold dE at hw
 split at hw
 ·rename_i h0
  subst h0
  split at hw
  ·rename_i hb
   obtain⟨n,KY,KM⟩:=List.any_eq_true.1 hb
   obtain⟨E,hE,hB⟩:=ma h va vc hq
   have k4:=((xz h va vc hq k1).1 rfl).2 k3
   subst hE
   exact k2 n KY (ID hB (h.aH n KY).1 (h.aH n KY).2.1 ((py n).1 KM) k4)
  ·exact absurd hw bC
 ·exact(xz h va vc hq k1).2 hw k3
theorem OM{s:bU}(h:bw s){a c:Tm}(va:bB s.sig a=true)(vc:bB s.sig c=true){f:Nat}{b':List (Int×Tm)}(hq:iw true f a c (ah s.binds)=some (0,b')){l:List TB}{ρ:Int->Nat}{R:Nat}(hS:kq s.sig (ah s.binds) l ρ R)(hl:iE s.sig l){g:Nat}{r:List TB×Bool}(hr:fN g (aS (ah l) a) (aS (ah l) c) []=some r):
 oZ b' ⟨a,c⟩/\r.2=true:=by
 have wa:=(bz va).1
 have wc:=(bz vc).1
 obtain⟨E,hE,hB⟩:=ma h va vc hq
 obtain⟨l',K4,R',Il,yT⟩:=iu hB.keys hB.ok hB.DZ
 have ae3:=RP Il
 have nm:Sat (ah l') (ah s.binds):=fun p hp=>ae3 p (by rw[dS];exact List.mem_append_left _ hp)
 have he:=((xz h va vc hq nm).1 rfl).1 (by rw[hE];exact ae3)
 refine⟨by rw[hE];exact(o6 Il (n:=⟨a,c⟩) wa wc).2 he, ?_⟩
 cases h2:r.2 with
 |true=>rfl
 |false=>exact absurd he (OC hS hl wa wc hr h2 nm)
end Go.Proofs.YtlhemmpklhhgoaaGreat
set_option maxHeartbeats 8000000
namespace Go.Proofs.YtlhemmpklhhgoaaGreat
theorem IK{nb nn:Int}:∀ (l:List (Int×Int)) (a:Int×Int),mR nb nn a l=true->a.1<=nb->a.2<=nn->mR nb nn a (l++[(nb,nn)])=true
 |[],a,_,h1,h2=>by simp[mR];omega
 |x::l,a,h,h1,h2=>by
  simp only[List.cons_append,mR,Bool.and_eq_true,Bool.not_eq_true',Bool.or_eq_false_iff,decide_eq_false_iff_not]at h|-
  exact⟨h.1,IK l x h.2 af af⟩
theorem RR{s:bU}(h:bw s)(hm:s.marks.length<8):bw s.mark:=
 ⟨h.sig,h.rW,by show(s.marks++_).length<=8;simp;omega,h.jk,h.aH,IK _ _ h.marks aE aE⟩
theorem Kz(s:bU):s.mark.Kw=s:=by
 unfold bU.Kw bU.mark
 simp
theorem KA{s T:bU}(h:bw s)(je:s.marks≠[])(hs:T.sig=s.sig)(hm:T.marks=s.marks)(hb:∃E,T.binds=s.binds++E)(hn:∃F,T.aH=s.aH++F):T.Kw=s.Kw:=by
 obtain⟨E,hE⟩:=hb
 obtain⟨F,hF⟩:=hn
 unfold bU.Kw
 rw[hm]
 cases hl:s.marks.getLast? with
 |none=>exact absurd (List.getLast?_eq_none_iff.1 hl) je
 |some m=>
  have ng:=List.mem_of_getLast? hl
  obtain⟨q1,q2,q3,q4⟩:=Ei aE aE h.marks m ng
  dsimp only
  rw[hs,hE,hF,List.take_append_of_le_length (by omega),List.take_append_of_le_length (by omega)]
def ON(sg:aA):bU:=⟨sg,[],[],[]⟩
theorem Ew{sg:aA}(h:ju sg=true):bw (ON sg):=
 ⟨h,Nat.zero_le _,Nat.zero_le _,⟨Nat.zero_le _,List.nodup_nil,fun _ h=>kJ,fun _ _ h=>kJ,fun _ h=>kJ⟩,fun _ h=>kJ,rfl⟩
def BI:Nat->bU->bU->Prop
 |0,t,s=>t=s/\bw s/\s.marks=[]
 |n+1,t,s=>bw t/\t.marks.length=n+1/\t.sig=s.sig/\BI n t.Kw s
theorem BI.ok {n:Nat}{t s:bU}(h:BI n t s):bw t/\t.marks.length=n/\t.sig=s.sig:=by
 cases n with
 |zero=>obtain⟨rfl,h2,h3⟩:=h;exact⟨h2,by rw[h3];rfl,rfl⟩
 |succ n=>exact⟨h.1,h.2.1,h.2.2.1⟩
theorem BI.mark {n:Nat}{t s:bU}(h:BI n t s)(hn:n<8):BI (n+1) t.mark s:=by
 obtain⟨h1,h2,h3⟩:=h.ok
 refine⟨RR h1 af,by show(t.marks++_).length=_;simp[h2],h3, ?_⟩
 rw[Kz];exact h
theorem BI.more {n:Nat}{t s T:bU}(h:BI (n+1) t s)(hT:bw T)(hs:T.sig=t.sig)(hm:T.marks=t.marks)(hb:∃E,T.binds=t.binds++E)(hn:∃F,T.aH=t.aH++F):BI (n+1) T s:=by
 obtain⟨h1,h2,h3,h4⟩:=h
 refine⟨hT,by rw[hm];exact h2,hs.trans h3, ?_⟩
 rw[KA h1 (fun e=>by rw[e]at h2;cases h2) hs hm hb hn]
 exact h4
end Go.Proofs.YtlhemmpklhhgoaaGreat
set_option pp.maxSteps 1000000
set_option pp.deepTerms true
set_option maxHeartbeats 8000000
namespace Go.Proofs.YtlhemmpklhhgoaaGreat
theorem Ex(l:List Sy)(hl:l.length<=1000000)(o:Nat->ab)(fr:Nat):zd Tryz.prog 33 [.d (.sl (l.map Sy.d))] [] o fr (.osl fr 0) [(fr, .arr 0 53 7 (l.map Sy.d))]:=by
 refine zd.FI (ds:=[.sl (l.map Sy.d)]) ?_
 refine bQ.aG mix agw aE ?_
 rw[c33]
 have hu:Tryz.prog.underlying 48=some (.slice 53):=ai
 cases l with
 |nil=>
  have heq:∀O,pn Tryz.prog O 48 true (.d (.sl [])) .aw=some .fF:=by
   intro O
   unfold pn
   rw[hu]
   rfl
  exact abz
 |cons a l=>
  have heq:∀O,pn Tryz.prog O 48 true (.d (.sl (a.d::l.map Sy.d))) .aw=some (.d (.bool false)):=by
   intro O
   unfold pn
   rw[hu]
   rfl
  have KI:(a.d::l.map Sy.d).all (fun z=>z.cells.length==7)=true:=by
   rw[List.all_eq_true]
   intro z hz
   obtain⟨r,_,rfl⟩:=List.mem_map.1 (show z∈(a::l).map Sy.d from hz)
   rfl
  exact abi
theorem xB(hkn:aX Tryz.prog 14 [] (.ret [.bool true]))(sg:aA)(hs:sg.Fits)(l:List Sy)(hl:l.length<=9223372036854775807)(L4:∀x∈l,x.a.fits/\x.b.fits)(a c:Tm)(ha:a.fits)(hc:c.fits)(bs:List Int)(ss:bs.length<=9223372036854775807)(OW:∀x∈bs,0<=x/\x<=255):
 aX Tryz.prog 6 [sg.d, .sl (l.map Sy.d),a.d,c.d, .sl (bs.map (D.int .u8))] (.ret [.bool true]):=by
 have oz:List.take (if 13<(l.length:Int)then(13:Int)else(l.length:Int)).toNat (l.map Sy.d)=(l.take 13).map Sy.d:=by
  rw[<- List.map_take]
  by_cases h:13<(l.length:Int)
  ·rw[if_pos h];rfl
  ·rw[if_neg h,List.take_of_length_le (by omega:l.length<=((l.length:Int)).toNat),List.take_of_length_le (by omega:l.length<=13)]
 have hL:(l.take 13).length<=13:=by rw[List.length_take];omega
 have hLb:∀x∈l.take 13,x.a.fits/\x.b.fits:=fun x hx=>L4 x (List.mem_of_mem_take hx)
 refine aX.aG mix fn6 aE ?_
 rw[c6]
 refine mV oz ?_
 generalize l.take 13=L at hL hLb oz|-
 obtain⟨r1,hr1⟩:∃r1:Bool,r1=true↔Iz sg (L++[⟨a,c,false⟩]):=by
  classical
  exact⟨decide (Iz sg (L++[⟨a,c,false⟩])),aE⟩
 have c1:=RG sg hs (L++[⟨a,c,false⟩]) (by rw[List.length_append];simp;omega) (fun x hx=>by
  rcases List.mem_append.1 hx with hx|hx
  ·exact hLb x hx
  ·simp at hx;subst hx;exact⟨ha,hc⟩) hr1
 simp only[List.map_append,List.map_cons,List.map_nil]at c1
 refine zq bC (Ex L af _ _) ?_
 refine mV oz ?_
 refine a7 c1 rfl ?_
 refine mV oz ?_
 refine aI (bu (ids:=[0,1,2,10,14]) (nx:=18) bC bC [([0],[]),([],[]),([],[]),([],[]),([],[]),([],[]),([],[3]),([1],[]),([2],[]),([],[]),([],[4]),([3,4],[3]),([3],[]),([],[])] bC) ?_
 cases r1 with
 |false=>
  refine bY ?_
  refine ak hkn rfl ?_
  exact pX
 |true=>
  have R1:=hr1.1 rfl
  have e9:=R1.ok ⟨a,c,false⟩ aE
  have va:bB sg a=true:=e9.va
  have vc:bB sg c=true:=e9.vb
  have hLo:∀x∈L,x.Ok sg:=fun x hx=>R1.ok x (List.mem_append_left _ hx)
  obtain⟨a1,a2,a3,a4⟩:=Gw L (Ew R1.sig) hs hLo
  have ca:=ae1 (ON sg) (Ew R1.sig) hs R1.sm L af hLo
  cases hp:ye (ON sg) L with
  |mk s own=>
  rw[hp]at a1 a2 a3 a4 ca
  dsimp only at a1 a2 a3 a4 ca
  have Zk:s.sig.Fits:=by rw[a2];exact hs
  refine mV oz ?_
  refine aV ca ?_
  refine mV oz ?_
  refine aI (bu (ids:=[0,30]) (nx:=34) bC bC [([0],[]),([],[]),([],[]),([],[]),([],[]),([],[]),([],[]),([],[]),([],[]),([],[]),([],[]),([],[]),([],[1]),([1],[1]),([],[]),([],[])] bC) ?_
  have Y6:s.sig=sg:=a2
  have IL:bB s.sig a=true:=by rw[Y6];exact va
  have IM:bB s.sig c=true:=by rw[Y6];exact vc
  have jt:=a1.fin Zk
  have fa:=iZ IL
  have fc:=iZ IM
  obtain⟨f,e,b',hq,G9⟩:=vh a1 IL IM
  have he:e=0\/e=5\/e=3:=by
   rcases G9 with⟨h,_⟩|h|h
   ·exact .inl h
   ·exact .inr (.inl h)
   ·exact .inr (.inr h)
  obtain⟨bk,py⟩:∃bk:Nt->Bool,∀n,bk n=true↔oZ b' n:=by
   classical
   exact⟨fun n=>decide (oZ b' n),fun n=>aE⟩
  obtain⟨bA,EI⟩:∃bA:Bool,bA=true↔oZ (ah s.binds) ⟨a,c⟩:=by
   classical
   exact⟨decide (oZ (ah s.binds) ⟨a,c⟩),aE⟩
  obtain⟨l',ρ,R,hS,yT⟩:=iu a1.jk.keys a1.jk.ok a1.jk.DZ
  obtain⟨fu,r,hr⟩:=oY _ _ (aS (ah l') a) (aS (ah l') c) [] (Nat.le_refl _) (Nat.le_refl _) iE.nil (Vs.sub yT.bd a (bz IL).1) (Vs.sub yT.bd c (bz IM).1)
  have pz:=BE s jt a c fa fc a1 IL IM hq he (bk:=bk) (fun _ n _=>py n) EI
  have sb:=Eo s jt a c fa fc a1 IL IM hq he (bk:=bk) (fun _ n _=>py n)
  have pW:=Ep s jt a c fa fc a1 IL IM EI hS yT hr
  have hP:IA (Pc s s.binds.length (Es sg bs 20)):=IJ a1 _ (Eu sg bs)
  have hPl:=hP.len
  have cpt:=RL sg bs OW ss
  have cex:=Gx a1 (Eu sg bs)
  have cso:=OE a1 hP
  have csm:aX Tryz.prog 36 [.sl ((Pc s s.binds.length (Es sg bs 20)).map TB.d),a.d,c.d] (.ret [.bool (IE (Pc s s.binds.length (Es sg bs 20)) a c)]):=xy af hP.iz a c (bz va).1 (iY va) (bz vc).1 (iY vc)
  generalize Pc s s.binds.length (Es sg bs 20)=P at hP hPl cex cso csm
  generalize Es sg bs 20=P0 at cpt cex
  have smc:∀T:bU,bw T->T.sig=sg->aX Tryz.prog 23 [T.d] (.ret [.bool true]):=fun T hT qq=>xm T (hT.fits (by rw[qq];exact hs)) (ok:=true) ⟨fun _=>hT.sm (by rw[qq];exact R1.sm),fun _=>rfl⟩
  have ae4:=bw.same a1.cp
  have hw:=xw he (s.aH.any bk)
  cases bA with
  |true=>
   obtain⟨w0,w1⟩:=RQ a1 IL IM (EI.1 rfl) hq py
   rw[w0,if_pos rfl,w1]at sb
   have hdE:fA s true r.2=5:=rfl
   have hdS:jl s ⟨a,c⟩ true r.2=kZ:=rfl
   rw[hdE,hdS]at pW
   have pz:aX Tryz.prog 35 [s.d,a.d,c.d] (.ret [.i 1, .i 0]):=pz
   refine bY ?_
   refine ak pz rfl ?_
   refine bY ?_
   refine aV cpt ?_
   refine bY ?_
   refine aV cex ?_
   refine bY ?_
   refine aI (a8 rfl) ?_
   refine bY ?_
   refine ak cso rfl ?_
   cases FJ:OD P s
   rotate_left
   have KL:IE P a c=true:=pa.2 (ID a1.jk (n:=⟨a,c⟩) IL IM (EI.1 rfl) (IF.1 FJ).1)
   rw[KL]at csm
   refine bY ?_
   refine ak csm rfl ?_
   rotate_left
   all_goals simp+contextual (disch:=first|omega|simp only[go_sem,false_implies]) only[go_sem,wrap64,if_pos,and_self]
   all_goals refine bc sb ?_
   all_goals simp+contextual (disch:=first|omega|simp only[go_sem,false_implies]) only[go_sem,wrap64,if_pos,and_self]
   all_goals refine bc pW ?_
   all_goals simp+contextual (disch:=first|omega|simp only[go_sem,false_implies]) only[go_sem,wrap64,if_pos,and_self]
   all_goals refine ak ae4 rfl ?_
   all_goals simp+contextual (disch:=first|omega|simp only[go_sem,false_implies]) only[go_sem,wrap64,if_pos,and_self]
   all_goals refine ak hkn rfl ?_
   all_goals simp+contextual (disch:=first|omega|simp only[go_sem,false_implies]) only[go_sem,wrap64,if_pos,and_self]
  |false=>
   have hdE:fA s false r.2=0\/fA s false r.2=3/\12<=s.aH.length:=by
    unfold fA
    rw[if_neg (by decide)]
    split
    ·split
     ·exact .inr ⟨rfl,af⟩
     ·exact .inl rfl
    ·exact .inl rfl
   have hnb: ¬oZ (ah s.binds) ⟨a,c⟩:=fun h=>by have:=EI.2 h;cases this
   rcases hw with w0|w0|w0
   ·rw[w0,if_pos rfl]at sb
    rw[w0]at pz
    have pz:aX Tryz.prog 35 [s.d,a.d,c.d] (.ret [.i 3, .i 0]):=pz
    obtain⟨e0,hnk⟩:=tellE_0 w0
    subst e0
    obtain⟨ob,or⟩:=OM a1 IL IM hq hS yT hr
    obtain⟨E,hE,hB⟩:=ma a1 IL IM hq
    have hnE:∀n∈s.aH, ¬oZ (ah (s.binds++E)) n:=fun n hn Tv=>by
     have h2:s.aH.any bk=true:=List.any_eq_true.2 ⟨n,hn,(py n).2 (by rw[hE];exact Tv)⟩
     rw[hnk]at h2;cases h2
    have oT:=Im a1 hB hnE
    have eT:s.tell b'=⟨s.sig,s.binds++E,s.aH,s.marks⟩:=by unfold bU.tell;rw[hE,la]
    have bT:oZ (ah (s.binds++E)) ⟨a,c⟩:=by rw[<- hE];exact ob
    rw[eT]at sb
    have csT:=smc _ oT Y6
    have ae5:=oT.fin Zk
    obtain⟨T,hT⟩:∃T:bU,T=⟨s.sig,s.binds++E,s.aH,s.marks⟩:=⟨_,rfl⟩
    have bT':oZ (ah T.binds) ⟨a,c⟩:=by rw[hT];exact bT
    have vaT:bB T.sig a=true:=by rw[hT];exact IL
    have vcT:bB T.sig c=true:=by rw[hT];exact IM
    rw[<- hT]at sb oT csT ae5
    obtain⟨fT,e2,b2,hqT,hcT⟩:=vh oT vaT vcT
    have heT:e2=0\/e2=5\/e2=3:=by
     rcases hcT with⟨h,_⟩|h|h
     ·exact .inl h
     ·exact .inr (.inl h)
     ·exact .inr (.inr h)
    obtain⟨bk2,ahh⟩:∃bk:Nt->Bool,∀n,bk n=true↔oZ b2 n:=by
     classical
     exact⟨fun n=>decide (oZ b2 n),fun n=>aE⟩
    have Vn:aX Tryz.prog 35 [T.d,a.d,c.d] (.ret [.i 1, .i 0]):=BE T ae5 a c fa fc oT vaT vcT hqT heT (bk:=bk2) (fun _ n _=>ahh n) (bA:=true) ⟨fun _=>bT',fun _=>rfl⟩
    rw[or]at pW
    by_cases Ij:s.aH.length=12
    ·have g3:fA s false true=3:=by unfold fA;rw[if_neg (by decide),if_pos rfl,if_pos Ij]
     rw[g3]at pW
     have yK:decide ((s.aH.length:Int)≥12)=true:=decide_eq_true af
     generalize jl s ⟨a,c⟩ false true=U at pW
     refine bY ?_
     refine ak pz rfl ?_
     refine bY ?_
     refine aV cpt ?_
     refine bY ?_
     refine aV cex ?_
     refine bY ?_
     refine aI (a8 rfl) ?_
     refine bY ?_
     refine ak cso rfl ?_
     cases FJ:OD P s
     all_goals simp+contextual (disch:=first|omega|simp only[go_sem,false_implies]) only[go_sem,wrap64,if_pos,and_self]
     all_goals refine bc sb ?_
     all_goals simp+contextual (disch:=first|omega|simp only[go_sem,false_implies]) only[go_sem,wrap64,if_pos,and_self]
     all_goals refine bc pW ?_
     all_goals simp+contextual (disch:=first|omega|simp only[go_sem,false_implies]) only[go_sem,wrap64,if_pos,and_self]
     all_goals refine ak csT rfl ?_
     all_goals simp+contextual (disch:=first|omega|simp only[go_sem,false_implies]) only[go_sem,wrap64,if_pos,and_self]
     all_goals refine ak Vn rfl ?_
     all_goals simp+contextual (disch:=first|omega|simp only[go_sem,false_implies]) only[go_sem,wrap64,if_pos,yK,List.length_map]
     all_goals refine ak hkn rfl ?_
     all_goals simp+contextual (disch:=first|omega|simp only[go_sem,false_implies]) only[go_sem,wrap64,if_pos,and_self]
    ·have g0:fA s false true=0:=by unfold fA;rw[if_neg (by decide),if_pos rfl,if_neg Ij]
     have gS:jl s ⟨a,c⟩ false true=s.tE ⟨a,c⟩:=by unfold jl;rw[if_neg (by decide),if_pos rfl,if_neg Ij]
     rw[g0,gS]at pW
     have uD:=a1.rW
     have oU:bw (s.tE ⟨a,c⟩):=zU a1 (n:=⟨a,c⟩) IL IM hnb af
     have Ey:=BE (s.tE ⟨a,c⟩) (oU.fin Zk) a c fa fc oU IL IM hq (.inl rfl) (bk:=bk) (fun _ n _=>py n) (bA:=false) EI
     have Nn:(s.tE ⟨a,c⟩).aH.any bk=true:=List.any_eq_true.2 ⟨⟨a,c⟩,List.mem_append_right _ (List.mem_singleton.2 rfl),(py _).2 ob⟩
     rw[Nn]at Ey
     have Ey:aX Tryz.prog 35 [(s.tE ⟨a,c⟩).d,a.d,c.d] (.ret [.i 2, .i 0]):=Ey
     generalize s.tE ⟨a,c⟩=U at pW Ey
     refine bY ?_
     refine ak pz rfl ?_
     refine bY ?_
     refine aV cpt ?_
     refine bY ?_
     refine aV cex ?_
     refine bY ?_
     refine aI (a8 rfl) ?_
     refine bY ?_
     refine ak cso rfl ?_
     cases FJ:OD P s
     all_goals simp+contextual (disch:=first|omega|simp only[go_sem,false_implies]) only[go_sem,wrap64,if_pos,and_self]
     all_goals refine bc sb ?_
     all_goals simp+contextual (disch:=first|omega|simp only[go_sem,false_implies]) only[go_sem,wrap64,if_pos,and_self]
     all_goals refine bc pW ?_
     all_goals simp+contextual (disch:=first|omega|simp only[go_sem,false_implies]) only[go_sem,wrap64,if_pos,and_self]
     all_goals refine ak csT rfl ?_
     all_goals simp+contextual (disch:=first|omega|simp only[go_sem,false_implies]) only[go_sem,wrap64,if_pos,and_self]
     all_goals refine ak Vn rfl ?_
     all_goals simp+contextual (disch:=first|omega|simp only[go_sem,false_implies]) only[go_sem,wrap64,if_pos,and_self]
     all_goals refine ak Ey rfl ?_
     all_goals simp+contextual (disch:=first|omega|simp only[go_sem,false_implies]) only[go_sem,wrap64,if_pos,and_self]
     all_goals refine ak hkn rfl ?_
     all_goals simp+contextual (disch:=first|omega|simp only[go_sem,false_implies]) only[go_sem,wrap64,if_pos,and_self]
   ·rw[w0,if_neg (by decide)]at sb
    rw[w0]at pz
    have pz:aX Tryz.prog 35 [s.d,a.d,c.d] (.ret [.i 2, .i 0]):=pz
    refine bY ?_
    refine ak pz rfl ?_
    refine bY ?_
    refine aV cpt ?_
    refine bY ?_
    refine aV cex ?_
    refine bY ?_
    refine aI (a8 rfl) ?_
    refine bY ?_
    refine ak cso rfl ?_
    cases FJ:OD P s
    rotate_left
    have KL:IE P a c=false:=by
     cases h:IE P a c with
     |false=>rfl
     |true=>exact absurd (pa.1 h) (Y5 a1 IL IM hq py w0 (IF.1 FJ))
    rw[KL]at csm
    refine bY ?_
    refine ak csm rfl ?_
    rotate_left
    all_goals simp+contextual (disch:=first|omega|simp only[go_sem,false_implies]) only[go_sem,wrap64,if_pos,and_self]
    all_goals refine bc sb ?_
    all_goals simp+contextual (disch:=first|omega|simp only[go_sem,false_implies]) only[go_sem,wrap64,if_pos,and_self]
    all_goals refine bc pW ?_
    all_goals rcases hdE with hd|⟨hd,_⟩<;>rw[hd]
    all_goals simp+contextual (disch:=first|omega|simp only[go_sem,false_implies]) only[go_sem,wrap64,if_pos,and_self]
    all_goals refine ak hkn rfl ?_
    all_goals simp+contextual (disch:=first|omega|simp only[go_sem,false_implies]) only[go_sem,wrap64,if_pos,and_self]
   ·rw[w0]at pz
    have pz:aX Tryz.prog 35 [s.d,a.d,c.d] (.ret [.i 0, .i 3]):=pz
    refine bY ?_
    refine ak pz rfl ?_
    refine bY ?_
    refine ak hkn rfl ?_
    exact pX
end Go.Proofs.YtlhemmpklhhgoaaGreat
section
namespace Go.Proofs.YtlhemmpklhhgoaaGreat
open Go.ChangeShapes Go.WideShapes Go.RowKit
def xC(P:Program)(rec:TypeId->Option (List TypeId)):Nat->List Field->Option (List TypeId)
 |_,[]=>some []
 |off,f::fs=>if f.offset=off then match rec f.type with
  |some l=>if P.cellsOf f.type=l.length then(xC P rec (off+l.length) fs).map (l++·)else none
  |none=>none else none
def m8(P:Program):Nat->TypeId->Option (List TypeId)
 |0,_=>none
 |n+1,t=>match P.underlying t with
  |some .bool|some (.int _)|some .string|some (.slice _)=>some [t]
  |some (.struct fs)=>xC P (m8 P n) 0 fs.toList
  |some (.array k e)=>match m8 P n e with
   |some l=>if P.cellsOf e=l.length then some (List.replicate k l).flatten else none
   |none=>none
  |_=>none
def isAgg(P:Program)(t:TypeId):Bool:=match P.underlying t with
 |some (.struct _)|some (.array _ _)=>true
 |_=>false
mutual
def D.iB (P:Program):D->TypeId->Prop
 | .int k n,t=>P.underlying t=some (.int k)/\(Lit.int k n).wf=true
 | .bool _,t=>P.underlying t=some .bool
 | .str l,t=>P.underlying t=some .string/\l.length<=maxLen
 | .sl es,t=>∃e,P.underlying t=some (.slice e)/\es.length<=maxLen/\D.KC P es e
 | .agg cs,t=>isAgg P t=true/\∃ls,m8 P 20 t=some ls/\D.jm P cs ls
 |_,_=>False
def D.KC (P:Program):List D->TypeId->Prop
 |[],_=>True
 |x::l,e=>D.iB P x e/\D.KC P l e
def D.jm (P:Program):List D->List TypeId->Prop
 |[],ts=>ts=[]
 |x::l,ts=>∃t r,ts=t::r/\D.iB P x t/\D.jm P l r
end
def vj(P:Program)(T:List TypeId):Bool:=T.all fun t=>match m8 P 20 t with
 |some l=>decide (l.length=P.cellsOf t)&&decide (0<l.length)&&l.all fun u=>match P.underlying u with
  |some (.slice e)=>T.contains e
  |_=>true
 |none=>false
theorem sc{P:Program}:∀ {xs ys:List D} {l r:List TypeId},D.jm P xs l->D.jm P ys r->D.jm P (xs++ys) (l++r)
 |[],_,_,_,h,h'=>by simp only[D.jm]at h;subst h;exact h'
 |x::xs,_,_,_,h,h'=>by
  obtain⟨t,r,rfl,h1,h2⟩:=h
  exact⟨t,_,rfl,h1,sc h2 h'⟩
theorem bE{B:Nat->Prop}{w:World}:∀ {xs ys:List D} {l r:List Value},D.aF B w xs l->D.aF B w ys r->D.aF B w (xs++ys) (l++r)
 |[],_,_,_,h,h'=>by simp only[D.aF]at h;subst h;exact h'
 |x::xs,_,_,_,h,h'=>by
  obtain⟨t,r,rfl,h1,h2⟩:=h
  exact⟨t,_,rfl,h1,bE h2 h'⟩
theorem Flat.append {l r:List Value}(h:Flat l)(h':Flat r):Flat (l++r):=fun u hu=>(List.mem_append.1 hu).elim (h u) (h' u)
abbrev Y7:Nat->Prop:=fun _=>False
section
variable {H:Type}{enc:TypeId×Value->H}{P:Program}{W:World}{T:List TypeId}{b0:Nat}
def dF(P:Program)(W:World)(l:List TypeId)(cs:List Value):Prop:=∃xs,D.jm P xs l/\D.aF Y7 W xs cs/\Flat cs
theorem dF.append {l r:List TypeId}{cs ds:List Value}(h:dF P W l cs)(h':dF P W r ds):dF P W (l++r) (cs++ds):=by
 obtain⟨xs,a1,a2,a3⟩:=h
 obtain⟨ys,b1,b2,b3⟩:=h'
 exact⟨xs++ys,sc a1 b1,bE a2 b2,a3.append b3⟩
theorem dF.length {l:List TypeId}{cs:List Value}(h:dF P W l cs):cs.length=l.length:=by
 obtain⟨xs,a1,a2,_⟩:=h
 rw[D.aC _ _ a2]
 clear a2
 induction xs generalizing l with
 |nil=>simp only[D.jm]at a1;simp[a1]
 |cons x xs ih=>obtain⟨t,r,rfl,_,h⟩:=a1;simp[ih h]
theorem dF.nil:dF P W [] []:=⟨[],rfl,rfl,fun _ h=>by cases h⟩
theorem Ez{α:Type}(cs:List α)(o k:Nat):cs.drop o=(cs.drop o).take k++cs.drop (o+k):=by
 rw[<- List.drop_drop];exact(List.take_append_drop k _).symm
theorem se{rec:TypeId->Option (List TypeId)}{cs:List Value}{rd:TypeId->List Value->Prop}
 (bJ:∀t l vs,rec t=some l->(∀u∈l,∀e,P.underlying u=some (.slice e)->e∈T)->P.cellsOf t=l.length->rd t vs->dF P W l vs):
 ∀ (fs:List Field) (off:Nat) (l:List TypeId),xC P rec off fs=some l->(∀u∈l,∀e,P.underlying u=some (.slice e)->e∈T)->(∀f∈fs,rd f.type ((cs.drop f.offset).take (P.cellsOf f.type)))->
   off+l.length=cs.length->dF P W l (cs.drop off)
 |[],off,l,h,_,_,hl=>by
  simp only[xC,Option.some.injEq]at h
  subst h
  have:cs.drop off=[]:=List.drop_eq_nil_of_le (by simp at hl;omega)
  rw[this];exact dF.nil
 |f::fs,off,l,h,hT,hr,hl=>by
  simp only[xC]at h
  split at h
  ·rename_i ho
   split at h
   ·rename_i l1 h1
    split at h
    ·rename_i hc
     simp only[Option.map_eq_some_iff]at h
     obtain⟨r,h2,rfl⟩:=h
     have hd:=hr f aE
     rw[ho,hc]at hd
     rw[Ez cs off l1.length]
     simp only[List.length_append]at hl
     exact(bJ f.type l1 _ h1 (fun u hu=>hT u (by simp[hu])) hc hd).append (se bJ fs _ r h2 (fun u hu=>hT u (by simp[hu])) (fun f hf=>hr f (by simp[hf])) af)
    ·cases h
   ·cases h
  ·cases h
theorem um{l:List TypeId}{cs:List Value}:∀ (k i:Nat),(∀j,j<k->dF P W l ((cs.drop ((i+j)*l.length)).take l.length))->(i+k)*l.length=cs.length->dF P W (List.replicate k l).flatten (cs.drop (i*l.length))
 |0,i,_,hl=>by
  have:cs.drop (i*l.length)=[]:=List.drop_eq_nil_of_le (by simp at hl;omega)
  rw[this];exact dF.nil
 |k+1,i,h,hl=>by
  rw[List.replicate_succ,List.flatten_cons,Ez cs (i*l.length) l.length]
  refine(by simpa using h 0 af:dF P W l _).append ?_
  rw[show i*l.length+l.length=(i+1)*l.length by rw[Nat.add_mul];omega]
  refine um k (i+1) (fun j hj=> ?_) (by rw[<- hl];congr 1;omega)
  have:=h (j+1) af
  rwa [show i+(j+1)=i+1+j by omega]at this
theorem EA{e:TypeId}{l:List TypeId}{cs:List Value}(hl:m8 P 20 e=some l)(h:dF P W l cs):∃ (ev:Value) (x:D),ev.cells.toList=cs/\D.iB P x e/\D.den Y7 W x ev/\(isAgg P e=true->ev= .agg cs.toArray)/\(isAgg P e=false->cs=[ev]/\ev.oneCell'=true):=by
 obtain⟨xs,h1,h2,h3⟩:=h
 cases ha:isAgg P e with
 |true=>exact⟨.agg cs.toArray, .agg xs,by simp[Value.cells],⟨ha,l,hl,h1⟩,⟨_,rfl,by simpa using h2,by simpa using h3⟩,fun _=>rfl,(fun h=>by cases h)⟩
 |false=>
  have:l=[e]:=by
   unfold m8 at hl
   unfold isAgg at ha
   split at hl<;>simp_all
  subst this
  obtain⟨t,r,e1,h4,h5⟩:∃x r,xs=x::r/\D.iB P x e/\D.jm P r []:=by
   cases xs with
   |nil=>simp[D.jm]at h1
   |cons x r=>obtain⟨t,r',e1,h4,h5⟩:=h1;injection e1 with e1 e2;subst e1;subst e2;exact⟨x,r,rfl,h4,h5⟩
  subst e1
  have:r=[]:=by cases r with
   |nil=>rfl
   |cons y r=>obtain⟨_,_,e,_⟩:=h5;cases e
  subst this
  obtain⟨u,us,rfl,h6,h7⟩:=h2
  simp only[D.aF]at h7
  subst h7
  have ho:=h3 u aE
  refine⟨u,t, ?_,h4,h6,(fun h=>by cases h),fun _=>⟨rfl,ho⟩⟩
  cases u<;>simp_all[Value.oneCell',Value.cells]
theorem EB(hp:vj P T=true){t:TypeId}(ht:t∈T):∃l,m8 P 20 t=some l/\l.length=P.cellsOf t/\0<l.length/\∀u∈l,∀e,P.underlying u=some (.slice e)->e∈T:=by
 have:=List.all_eq_true.1 hp t ht
 split at this
 ·rename_i l hl
  simp only[Bool.and_eq_true,decide_eq_true_eq,List.all_eq_true]at this
  refine⟨l,hl,this.1.1,this.1.2,fun u hu e he=> ?_⟩
  have:=this.2 u hu
  rw[he]at this
  simpa using this
 ·cases this
theorem Gz(hp:vj P T=true):∀ (n m:Nat) (t:TypeId) (l:List TypeId) (cs:List Value) (x:DataW H×List MemPlace),m8 P m t=some l->(∀u∈l,∀e,P.underlying u=some (.slice e)->e∈T)->
 P.cellsOf t=l.length->DataW.trod enc P W 0 (fun _=>true) true n t cs=some x->dF P W l cs:=by
 intro n
 induction n with
 |zero=>intro m t l cs x _ _ _ h;simp[DataW.trod]at h
 |succ n ih=>
  intro m t l cs x hl hT hc h
  cases m with
  |zero=>simp[m8]at hl
  |succ m=>
  unfold m8 at hl
  split at hl
  ·rename_i hu
   injection hl with hl;subst hl
   obtain⟨b,rfl,_⟩:=DataW.trod_bool hu h
   exact⟨[.bool b],⟨t,[],rfl,hu,rfl⟩,⟨_,_,rfl,rfl,rfl⟩,by simp[Flat,Value.oneCell']⟩
  ·rename_i k hu
   injection hl with hl;subst hl
   obtain⟨b,rfl,_,hw⟩:=DataW.trod_int hu h
   exact⟨[.int k b],⟨t,[],rfl,⟨hu,hw⟩,rfl⟩,⟨_,_,rfl,rfl,rfl⟩,by simp[Flat,Value.oneCell']⟩
  ·rename_i hu
   injection hl with hl;subst hl
   obtain⟨s,rfl,_,hw⟩:=DataW.trod_string hu h
   exact⟨[.str s.data.toList],⟨t,[],rfl,⟨hu,by simpa using hw⟩,rfl⟩,⟨_,_,rfl,⟨s,rfl,rfl⟩,rfl⟩,by simp[Flat,Value.oneCell']⟩
  ·rename_i e hu
   injection hl with hl;subst hl
   rcases DataW.trod_slice hu h with⟨rfl,_⟩|⟨a,len,cap,elems,rest,n',hn,rfl,_,_,h2,h3,h4,h5,h6,_⟩
   ·exact⟨[.sl []],⟨t,[],rfl,⟨e,hu,aE,trivial⟩,rfl⟩,⟨_,_,rfl,⟨none,0,0,rfl,rfl,aE,fun _=>rfl,0,(fun a ha=>by cases ha)⟩,rfl⟩,by simp[Flat,Value.oneCell']⟩
   ·injection hn with hn;subst hn
    obtain⟨l',g1,g2,g3,g4⟩:=EB hp (hT t aE e hu)
    have at':∀i,i<len->∃ev:Value,∃y:D,ev.cells.size=P.cellsOf e/\gW Y7 W (a.add (i*P.cellsOf e)) ev.cells/\D.den Y7 W y ev/\D.iB P y e:=by
     intro i hi
     have:=h5 i hi
     rw[List.getElem?_eq_getElem (by omega)]at this
     obtain⟨ci,k1,k2⟩:=Option.bind_eq_some_iff.1 this
     obtain⟨_,k3,k4⟩:=World.cells?_some k1
     have k5:=ih 20 e l' ci _ g1 g4 g2.symm k2
     obtain⟨ev,y,q1,q2,q3,_,_⟩:=EA g1 k5
     have q4:ev.cells=ci.toArray:=by rw[<- q1]
     refine⟨ev,y,by rw[q4];simp[k5.length,g2],fun j u hj=>⟨?_,fun h=>h⟩,q3,q2⟩
     rw[q4]at hj
     have KK:ci[j]? =some u:=by simpa using hj
     have cu:j<P.cellsOf e:=by rw[<- g2, <- k5.length];exact(List.getElem?_eq_some_iff.1 KK).1
     rw[k4 j cu];exact KK
    have list:∀k i,i+k=len->∃es,es.length=k/\D.KC P es e/\D.elems Y7 W (P.cellsOf e) a i es:=by
     intro k
     induction k with
     |zero=>intro i _;exact⟨[],rfl,trivial,trivial⟩
     |succ k x7=>
      intro i hi
      obtain⟨es,e1,e2,e3⟩:=x7 (i+1) af
      obtain⟨ev,y,y1,y2,y3,y4⟩:=at' i af
      exact⟨y::es,by simp[e1],⟨y4,e2⟩,⟨ev,y1,y2,y3⟩,e3⟩
    obtain⟨es,e1,e2,e3⟩:=list len 0 af
    have ae6:cap≠0->a.spot=none:=by
     intro eE
     have Vo:∀z,(W.cells? 0 (a.add (0*P.cellsOf e)) (P.cellsOf e)).bind (DataW.trod enc P W 0 (fun _=>true) true n e)=some z->a.spot=none:=by
      intro z hz
      obtain⟨ci,k1,k2⟩:=Option.bind_eq_some_iff.1 hz
      obtain⟨_,k3,k4⟩:=World.cells?_some k1
      have k5:=k4 0 af
      rw[List.getElem?_eq_getElem (by omega)]at k5
      simpa[Addr.add]using World.cell?_spot k5
     by_cases hlen:0<len
     ·have:=h5 0 hlen
      rw[List.getElem?_eq_getElem (by omega)]at this
      exact Vo _ this
     ·obtain⟨h7,h8⟩:=h6 rfl
      have:=h8 0 af
      rw[List.getElem?_eq_getElem (by omega),show(len+0)=0 by omega]at this
      exact Vo _ this
    exact⟨[.sl es],⟨t,[],rfl,⟨e,hu,af,e2⟩,rfl⟩,⟨_,_,rfl,⟨some a,len,cap,rfl,e1.symm,h2,(fun h=>by cases h),P.cellsOf e,(fun a' U8=>by injection U8 with U8;subst U8;exact⟨ae6,e3⟩)⟩,rfl⟩,by simp[Flat,Value.oneCell']⟩
  ·rename_i fs hu
   obtain⟨xs,n',hn,_,h2,h3,h4⟩:=DataW.trod_struct hu h
   injection hn with hn;subst hn
   have:=se (P:=P) (W:=W) (T:=T) (cs:=cs) (rd:=fun t vs=>∃y,DataW.trod enc P W 0 (fun _=>true) true n t vs=some y) (rec:=m8 P m) (fun t l vs q1 q2 q3 ⟨y,q4⟩=>ih m t l vs y q1 q2 q3 q4) fs.toList 0 l hl hT ?_ af
   ·simpa using this
   ·intro f hf
    obtain⟨i,hi,hfi⟩:=List.getElem_of_mem hf
    have:=h4 i f (by simp at hi;simp[<- hfi,Array.getElem?_eq_getElem hi])
    rw[List.getElem?_eq_getElem (by simp at hi;omega)]at this
    exact⟨_,this⟩
  ·rename_i k e hu
   split at hl
   ·rename_i l' yT
    split at hl
    ·rename_i hce
     injection hl with hl;subst hl
     obtain⟨xs,n',hn,_,h2,h3,h4⟩:=DataW.trod_array hu h
     injection hn with hn;subst hn
     have hlen:cs.length=k*l'.length:=by rw[h2,hc];simp
     have hT':0<k->∀u∈l',∀e,P.underlying u=some (.slice e)->e∈T:=fun hk u hu=>hT u (List.mem_flatten.2 ⟨l',List.mem_replicate.2 ⟨af,rfl⟩,hu⟩)
     have:=um (P:=P) (W:=W) (l:=l') (cs:=cs) k 0 (fun j hj=> ?_) (by rw[hlen];simp)
     ·simpa using this
     ·have:=h4 j hj
      rw[hce,List.getElem?_eq_getElem (by omega)]at this
      rw[Nat.zero_add]
      exact ih m e l' _ _ yT (hT' af) hce this
    ·cases hl
   ·cases hl
  ·cases hl
theorem Aa(hp:vj P T=true):∀ (ts:List TypeId) (vs:List Value) (ds:List (DataW H)) (p:List MemPlace),(∀t∈ts,t∈T)->DataW.TrodAll enc P W 0 (fun _=>true) true ts vs ds p->
 (∀ (j:Nat) t v,ts[j]? =some t->vs[j]? =some v->Value.okWide P W .any b0 t v)->∃xs,D.jm P xs ts/\D.aF Y7 W xs vs
 |[],vs,ds,p,_,h,_=>by
  obtain⟨rfl,rfl,rfl⟩:=trodAll_nil h
  exact⟨[],rfl,rfl⟩
 |t::ts,vs,ds,p,hT,h,hv=>by
  obtain⟨v,vs',d,ds',p1,q1,rfl,rfl,rfl,⟨n,h1⟩,h2⟩:=trodAll_cons h
  obtain⟨xs,a1,a2⟩:=Aa hp ts vs' ds' q1 (fun t ht=>hT t (by simp[ht])) h2 (fun j t v h1 h2=>hv (j+1) t v (by simpa using h1) yr)
  obtain⟨l,g1,g2,g3,g4⟩:=EB hp (hT t aE)
  obtain⟨ev,x,q1,q2,q3,q4,q5⟩:=EA g1 (Gz hp n 20 t l _ _ g1 g4 g2.symm h1)
  have aY:=hv 0 t v rfl rfl
  have:ev=v:=by
   cases ha:isAgg P t with
   |true=>
    have:∃cs,v= .agg cs:=by
     unfold isAgg at ha
     unfold Value.okWide at aY
     split at ha
     ·rename_i hu;rw[hu]at aY;obtain⟨cs,rfl,_⟩:=aY;exact⟨cs,rfl⟩
     ·rename_i hu;rw[hu]at aY;obtain⟨cs,rfl,_⟩:=aY;exact⟨cs,rfl⟩
     ·cases ha
    obtain⟨cs,rfl⟩:=this
    rw[q4 ha]
    simp[Value.cells]
   |false=>
    obtain⟨q6,q7⟩:=q5 ha
    cases v with
    |agg cs=>
     exfalso
     unfold isAgg at ha
     unfold Value.okWide at aY
     split at aY
     ·rename_i hu;rw[hu]at ha;cases ha
     ·rename_i hu;rw[hu]at ha;cases ha
     ·unfold Cell.okWide at aY
      split at aY
      case h_8=>
       unfold Cell.ok at aY
       split at aY<;>first|exact aY|contradiction
      all_goals contradiction
    |_=>simp only[Value.cells,List.cons.injEq,and_true]at q6;exact q6.symm
  subst this
  exact⟨x::xs,⟨t,ts,rfl,q2,a1⟩,⟨_,_,rfl,q3,a2⟩⟩
theorem eC.below {w w':World}(h:eC (fun _=>False) w w'):Below w.heap.size w w':=⟨h.os,h.tape,h.output,h.size,fun k hk=>h.block k hk (fun h=>h)⟩
theorem Ab(hl:laidOutB P=true){W':World}{sp:Nat->Bool}:∀ {ts:List TypeId} {vs:List Value} {ds:List (DataW H)} {p:List MemPlace},(∀t∈ts,P.readableRec t=true/\t<P.types.size)->DataW.TrodAll enc P W 0 (fun _=>true) true ts vs ds p->
 (∀x∈p,W.sameAt W' x/\sp x.block=true)->DataW.TrodAll enc P W' 0 sp true ts vs ds p
 |[],vs,ds,p,_,h,_=>by
  obtain⟨rfl,rfl,rfl⟩:=trodAll_nil h
  exact trodAll_mk0
 |t::ts,vs,ds,p,hr,h,hs=>by
  obtain⟨v,vs',d,ds',p1,q1,rfl,rfl,rfl,h1,h2⟩:=trodAll_cons h
  exact⟨p1,q1,WideElems.Trod_stays hl (hr t aE).1 (hr t aE).2 h1 (fun x hx=>(hs x kI).1) (fun x hx=>(hs x kI).2),Ab hl (fun t ht=>hr t (by simp[ht])) h2 (fun x hx=>hs x kI),rfl⟩
theorem OO{sp:Nat->Bool}:∀ {ts:List TypeId} {vs:List Value} {ds:List (DataW H)} {ps:List MemPlace},DataW.TrodAll enc P W 0 sp true ts vs ds ps->ds.length=ts.length
 |[],_,_,_,h=>by obtain⟨_,rfl,_⟩:=trodAll_nil h;rfl
 |_::_,_,_,_,h=>by
  obtain⟨_,_,_,_,_,_,_,rfl,_,_,h2⟩:=trodAll_cons h
  simp[OO h2]
theorem BJ{f:FuncId}{fn:Func}{s:ChangeSpec}{tb:TypeId}{fresh handsOn again:Bool}(CJ:fn.resultTypes=#[tb])(K2:P.underlying tb=some .bool)(Vp:s.vars=[])
 (OP:∀ds:List (DataW H),ds.length=fn.params.toList.length->s.fn H ds={results:=[.lit (.bool true)],args:=ds}) (hp:vj P T=true) (hT:∀t∈fn.params.toList,t∈T) (hl:laidOutB P=true)
 (hr:∀t∈fn.params.toList,P.readableRec t=true/\t<P.types.size) (law:∀xs,D.jm P xs fn.params.toList->aX P f xs (.ret [.bool true]))
 (base:Nat) (args:Array Value) (ds gs:List (DataW H)) (before:List MemPlace)
 (e9:∀ (j:Nat) t v,fn.params[j]? =some t->args[j]? =some v->Value.okWide P W .any base t v) (hW:DataW.Whole enc P fn.params.toList s.vars false W args.toList ds gs before):
 Calls P f args W fun e W'=>∃v,e= .returned v/\s.post enc P fn false fresh handsOn again W args v W':=by
 have hW':=hW
 obtain⟨p,q,hA,hV,rfl,hfz,AF⟩:=hW
 rw[Vp]at hV
 obtain⟨rfl,rfl⟩:=trodVars_none hV
 obtain⟨xs,a1,a2⟩:=Aa (b0:=base) hp fn.params.toList args.toList ds p hT hA (fun j t v h1 h2=>e9 j t v (by simpa using h1) yr)
 refine((law xs a1).2 Y7 W args (fun _ h=>h.elim) a2).mono fun e W' ⟨hk,ho⟩=> ?_
 have hb:=hk.below
 cases e with
 |panicked ch=>exact ho.elim
 |outgrown=>exact ho.elim
 |returned v=>
  simp only[R.is,D.den]at ho
  subst ho
  refine⟨_,rfl, ?_⟩
  have hlen:ds.length=fn.params.toList.length:=(OO hA)
  have hold:∀x∈p,x.block<W.heap.size:=fun x hx=>by simpa using hW'.lt x yu
  have dG:∀sp:Nat->Bool,(∀x∈p,sp x.block=true)->DataW.TrodAll enc P W' 0 sp true fn.params.toList args.toList ds p:=fun sp KL=>Ab hl hr hA fun x hx=>⟨hb.same (hold x hx),KL x hx⟩
  have Vq:∀ (b:Nat) (sp:Nat->Bool) (hd:Bool),DataW.TrodAll enc P W' b sp hd fn.resultTypes.toList ((Value.bool true).resultList fn.resultTypes.size) [.lit (.bool true)] []:=fun b sp hd=>by
   rw[CJ]
   exact trodAll_cons_mk (p:=[]) (p':=[]) ⟨1,by simp[DataW.trod,Value.cells,K2]⟩ trodAll_mk0
  have OQ:∀sp:Nat->Bool,DataW.TrodVars enc P W' sp s.vars [] []:=fun sp=>by rw[Vp];rfl
  refine⟨ds,[],p++[],[],p,[],hW', ?_, ?_, ?_,World.keptBut_mono (fun _ h=>h.elim) (hb.frame (fun _=>False)),fun _=>⟨?_,[.lit (.bool true)]++ds,[],([]++p)++[],⟨[]++p,[],trodAll_append (dG _ fun _ _=>rfl) (Vq 0 (fun _=>true) true),OQ _,rfl, ?_,(fun h=>by cases h)⟩,fun x hx _=>by simpa using hx⟩⟩
  ·rw[List.append_nil,OP ds hlen];exact Vq _ _ _
  ·rw[List.append_nil,OP ds hlen];exact dG _ fun x hx=>by simpa using hold x hx
  ·rw[List.append_nil,OP ds hlen];exact OQ _
  ·intro j t r h1 h2
   rw[CJ]at h1 h2
   match j,h1,h2 with
   |0,h1,h2=>
    simp[Value.resultList]at h1 h2
    subst h1;subst h2
    simp[Value.okWide,K2,Cell.okWide,Cell.ok]
  ·intro b off hx
   rw[hb.frozen (by simpa[MemPlace.block]using hold _ (by simpa using hx))]
   exact hfz b off yu
end
section
variable {P:Program}{t e:TypeId}{x:D}
theorem xD{k:IntKind}(ht:P.underlying t=some (.int k))(h:D.iB P x t):∃n,x= .int k n/\(Lit.int k n).wf=true:=by
 cases x<;>simp only[D.iB]at h
 case int k' n=>
  rw[ht]at h
  obtain⟨h1,h2⟩:=h
  injection h1 with h1;injection h1 with h1;subst h1
  exact⟨n,rfl,h2⟩
 case bool=>rw[ht]at h;cases h
 case str=>rw[ht]at h;cases h.1
 case sl=>obtain⟨e,h,_⟩:=h;rw[ht]at h;cases h
 case agg=>have:=h.1;unfold isAgg at this;rw[ht]at this;cases this
theorem KF(ht:P.underlying t=some .bool)(h:D.iB P x t):∃b,x= .bool b:=by
 cases x<;>simp only[D.iB]at h
 case int k' n=>rw[ht]at h;cases h.1
 case bool b=>exact⟨b,rfl⟩
 case str=>rw[ht]at h;cases h.1
 case sl=>obtain⟨e,h,_⟩:=h;rw[ht]at h;cases h
 case agg=>have:=h.1;unfold isAgg at this;rw[ht]at this;cases this
theorem OR(ht:P.underlying t=some .string)(h:D.iB P x t):∃l,x= .str l/\l.length<=maxLen:=by
 cases x<;>simp only[D.iB]at h
 case int k' n=>rw[ht]at h;cases h.1
 case bool b=>rw[ht]at h;cases h
 case str l=>exact⟨l,rfl,h.2⟩
 case sl=>obtain⟨e,h,_⟩:=h;rw[ht]at h;cases h
 case agg=>have:=h.1;unfold isAgg at this;rw[ht]at this;cases this
theorem pc(ht:P.underlying t=some (.slice e))(h:D.iB P x t):∃es,x= .sl es/\es.length<=maxLen/\D.KC P es e:=by
 cases x<;>simp only[D.iB]at h
 case int k' n=>rw[ht]at h;cases h.1
 case bool b=>rw[ht]at h;cases h
 case str l=>rw[ht]at h;cases h.1
 case sl es=>
  obtain⟨e',h,h2,h3⟩:=h
  rw[ht]at h;injection h with h;injection h with h;subst h
  exact⟨es,rfl,h2,h3⟩
 case agg=>have:=h.1;unfold isAgg at this;rw[ht]at this;cases this
theorem si{ls:List TypeId}(ha:isAgg P t=true)(hl:m8 P 20 t=some ls)(h:D.iB P x t):∃cs,x= .agg cs/\D.jm P cs ls:=by
 have no:∀u,P.underlying t=some u->(∀fs,u≠ .struct fs)->(∀k e,u≠ .array k e)->False:=by
  intro u hu h1 h2
  unfold isAgg at ha
  rw[hu]at ha
  split at ha
  ·rename_i e;injection e with e;exact h1 _ e
  ·rename_i e;injection e with e;exact h2 _ _ e
  ·cases ha
 cases x<;>simp only[D.iB]at h
 case int k' n=>exact(no _ h.1 (fun _ h=>by cases h) (fun _ _ h=>by cases h)).elim
 case bool b=>exact(no _ h (fun _ h=>by cases h) (fun _ _ h=>by cases h)).elim
 case str l=>exact(no _ h.1 (fun _ h=>by cases h) (fun _ _ h=>by cases h)).elim
 case sl es=>obtain⟨e',h,_⟩:=h;exact(no _ h (fun _ h=>by cases h) (fun _ _ h=>by cases h)).elim
 case agg cs=>
  obtain⟨_,ls',h1,h2⟩:=h
  rw[hl]at h1;injection h1 with h1;subst h1
  exact⟨cs,rfl,h2⟩
theorem bK{t:TypeId}{ts:List TypeId}{cs:List D}(h:D.jm P cs (t::ts)):∃x xs,cs=x::xs/\D.iB P x t/\D.jm P xs ts:=by
 cases cs with
 |nil=>simp[D.jm]at h
 |cons x xs=>obtain⟨_,_,e,h1,h2⟩:=h;injection e with e1 e2;subst e1;subst e2;exact⟨x,xs,rfl,h1,h2⟩
theorem me{cs:List D}(h:D.jm P cs []):cs=[]:=by
 cases cs with
 |nil=>rfl
 |cons x xs=>obtain⟨_,_,e,_⟩:=h;cases e
theorem mf{α:Type}{f:α->D}{q:α->Prop}(hf:∀x,D.iB P x e->∃a,x=f a/\q a):∀ (es:List D),D.KC P es e->∃l:List α,es=l.map f/\∀a∈l,q a
 |[],_=>⟨[],rfl,fun _ h=>by cases h⟩
 |x::es,h=>by
  obtain⟨a,rfl,h1⟩:=hf x h.1
  obtain⟨l,rfl,h2⟩:=mf hf es h.2
  exact⟨a::l,rfl,fun b hb=>(List.mem_cons.1 hb).elim (fun e=>e ▸ h1) (h2 b)⟩
end
end Go.Proofs.YtlhemmpklhhgoaaGreat
end
section
namespace Go.Proofs.YtlhemmpklhhgoaaGreat
open Go.ChangeShapes Go.WideShapes Go.RowKit
theorem jO:maxLen<=9223372036854775807:=bC
theorem IP{x:D}(h:D.iB Tryz.prog x 3):∃n:Int,x= .i n:=by
 obtain⟨n,h,_⟩:=xD undT_3 h
 exact⟨n,h⟩
theorem Y8{x:D}(h:D.iB Tryz.prog x 30):∃n:Int,x= .i n:=by
 obtain⟨n,h,_⟩:=xD undT_30 h
 exact⟨n,h⟩
theorem ae7{x:D}(h:D.iB Tryz.prog x 124):∃r:ei,x=r.d/\r.name.length<=9223372036854775807:=by
 obtain⟨cs,rfl,hh⟩:=si ai (ls:=[9,3]) ai h
 clear h;have h:=hh;clear hh
 obtain⟨a,cs,rfl,ha,h⟩:=bK h
 obtain⟨b,cs,rfl,hb,h⟩:=bK h
 have:=me h;subst this
 obtain⟨l,rfl,hl⟩:=OR ai ha
 obtain⟨n,rfl⟩:=IP hb
 exact⟨⟨l,n⟩,rfl,by have:=jO;simp only;omega⟩
theorem ae8{x:D}(h:D.iB Tryz.prog x 24):∃s:aA,x=s.d/\s.Fits:=by
 obtain⟨cs,rfl,hh⟩:=si ai (ls:=[22,22]) ai h
 clear h;have h:=hh;clear hh
 obtain⟨a,cs,rfl,ha,h⟩:=bK h
 obtain⟨b,cs,rfl,hb,h⟩:=bK h
 have:=me h;subst this
 obtain⟨es,rfl,h1,h2⟩:=pc undT_22 ha
 obtain⟨l,rfl,hl⟩:=mf (fun x h=>ae7 h) es h2
 obtain⟨es',rfl,h3,h4⟩:=pc undT_22 hb
 obtain⟨l',rfl,yT⟩:=mf (fun x h=>ae7 h) es' h4
 have:=jO
 exact⟨⟨l,l'⟩,rfl,⟨by simp at h1;simp only;omega,by simp at h3;simp only;omega,hl,yT⟩⟩
theorem OS:∀ (n:Nat) (x:D),SizeOf.sizeOf x<=n->D.iB Tryz.prog x 33->∃t:Tm,x=t.d/\t.fits:=by
 intro n
 induction n with
 |zero=>intro x hx _;cases x<;>simp at hx
 |succ n ih=>
  intro x hx h
  obtain⟨cs,rfl,hh⟩:=si ai (ls:=[30,3,31]) ai h
  clear h;have h:=hh;clear hh
  obtain⟨a,cs,rfl,ha,h⟩:=bK h
  obtain⟨b,cs,rfl,hb,h⟩:=bK h
  obtain⟨c,cs,rfl,hc,h⟩:=bK h
  have:=me h;subst this
  obtain⟨o,rfl⟩:=Y8 ha
  obtain⟨m,rfl⟩:=IP hb
  obtain⟨es,rfl,h1,h2⟩:=pc undT_31 hc
  have Ha:SizeOf.sizeOf es<=n:=by simp at hx;omega
  have:∀es:List D,SizeOf.sizeOf es<=n->D.KC Tryz.prog es 33->∃l:List Tm,es=l.map Tm.d/\∀k∈l,k.fits:=by
   intro es
   induction es with
   |nil=>intro _ _;exact⟨[],rfl,fun _ h=>by cases h⟩
   |cons y es ihe=>
    intro hs h
    simp at hs
    obtain⟨t,rfl,ht⟩:=ih y af h.1
    obtain⟨l,rfl,hl⟩:=ihe af h.2
    exact⟨t::l,rfl,fun b hb=>(List.mem_cons.1 hb).elim (fun e=>e ▸ ht) (hl b)⟩
  obtain⟨l,rfl,hl⟩:=this es Ha h2
  refine⟨.mk o m l,by rw[Tm.Df], ?_⟩
  rw[Tm.cm]
  exact⟨by have:=jO;simp at h1;simp only[Tm.kids];omega,hl⟩
theorem Y9{x:D}(h:D.iB Tryz.prog x 33):∃t:Tm,x=t.d/\t.fits:=OS _ x (Nat.le_refl _) h
end Go.Proofs.YtlhemmpklhhgoaaGreat
end
section
namespace Go.Proofs.YtlhemmpklhhgoaaGreat
open Go.ChangeShapes Go.WideShapes Go.RowKit
end Go.Proofs.YtlhemmpklhhgoaaGreat
end
section
namespace Go.Proofs.YtlhemmpklhhgoaaGreat
open Go.ChangeShapes Go.WideShapes Go.RowKit
theorem OT{x:D}(h:D.iB Tryz.prog x 31):∃l:List Tm,x= .sl (l.map Tm.d)/\l.length<=9223372036854775807/\∀t∈l,t.fits:=by
 obtain⟨es,rfl,h1,h2⟩:=pc undT_31 h
 obtain⟨l,rfl,hl⟩:=mf (fun x h=>Y9 h) es h2
 have:=jO
 exact Lz
end Go.Proofs.YtlhemmpklhhgoaaGreat
end
section
namespace Go.Proofs.YtlhemmpklhhgoaaGreat
open Go.ChangeShapes Go.WideShapes Go.RowKit
theorem ahi{x:D}(h:D.iB Tryz.prog x 53):∃y:Sy,x=y.d/\y.a.fits/\y.b.fits:=by
 obtain⟨cs,rfl,hh⟩:=si ai (ls:=[30,3,31,30,3,31,4]) ai h
 clear h;have h:=hh;clear hh
 obtain⟨a,cs,rfl,ha,h⟩:=bK h
 obtain⟨b,cs,rfl,hb,h⟩:=bK h
 obtain⟨c,cs,rfl,hc,h⟩:=bK h
 obtain⟨d,cs,rfl,hd,h⟩:=bK h
 obtain⟨e,cs,rfl,he,h⟩:=bK h
 obtain⟨f,cs,rfl,hf,h⟩:=bK h
 obtain⟨g,cs,rfl,hg,h⟩:=bK h
 have:=me h;subst this
 obtain⟨o1,rfl⟩:=Y8 ha
 obtain⟨n1,rfl⟩:=IP hb
 obtain⟨k1,rfl,l1,l2⟩:=OT hc
 obtain⟨o2,rfl⟩:=Y8 hd
 obtain⟨n2,rfl⟩:=IP he
 obtain⟨k2,rfl,l3,l4⟩:=OT hf
 obtain⟨no,rfl⟩:=KF undT_4 hg
 exact⟨⟨.mk o1 n1 k1, .mk o2 n2 k2,no⟩,rfl,(Tm.cm _).2 ⟨l1,l2⟩,(Tm.cm _).2 ⟨l3,l4⟩⟩
theorem ae9{x:D}(h:D.iB Tryz.prog x 48):∃l:List Sy,x= .sl (l.map Sy.d)/\l.length<=9223372036854775807/\∀y∈l,y.a.fits/\y.b.fits:=by
 obtain⟨es,rfl,h1,h2⟩:=pc (e:=53) ai h
 obtain⟨l,rfl,hl⟩:=mf (fun x h=>ahi h) es h2
 have:=jO
 exact Lz
end Go.Proofs.YtlhemmpklhhgoaaGreat
end
section
namespace Go.Proofs.YtlhemmpklhhgoaaGreat
open Go.ChangeShapes Go.WideShapes Go.RowKit
theorem ahj{x:D}(h:D.iB Tryz.prog x 5):∃n:Int,x= .int .u8 n/\(0<=n/\n<=255):=by
 obtain⟨n,h,hw⟩:=xD undT_5 h
 simp[Lit.wf]at hw
 exact⟨n,h,hw⟩
theorem afa{x:D}(h:D.iB Tryz.prog x 49):∃l:List Int,x= .sl (l.map (D.int .u8))/\l.length<=9223372036854775807/\∀y∈l,0<=y/\y<=255:=by
 obtain⟨es,rfl,h1,h2⟩:=pc (e:=5) ai h
 obtain⟨l,rfl,hl⟩:=mf (fun x h=>ahj h) es h2
 have:=jO
 exact Lz
end Go.Proofs.YtlhemmpklhhgoaaGreat
end
section
namespace Go.Proofs.YtlhemmpklhhgoaaGreat
open Go
def Za:Nat->Bool:=fun g=> !([159,172,173,174,187,135,162,175,176,177,178,179,180,182,183,188,191,192,201,149,164,165,167,111,136,100,79,63,64,112,104,69]:List Nat).contains g
@[reducible] def zC:D:= .sl [.agg [.str [70,97,108,115,101], .i 0], .agg [.str [84,114,117,101], .i 0], .agg [.str [90], .i 0], .agg [.str [83], .i 1], .agg [.str [78,105,108], .i 0], .agg [.str [67,111,110,115], .i 2]]
@[reducible] def zF:D:= .sl [.agg [.str [97,112,112], .i 2], .agg [.str [111,110,101], .i 0]]
def uq:rC Tryz.prog:=rC.of Za [] (fun _ h=>by cases h)
end Go.Proofs.YtlhemmpklhhgoaaGreat
end
