/-
  A PART OF THE PROOF. Conditions: none.
-/
import Derived.Test.YtlhemmpklhhgoaaGreatRows
import Derived.Shelf.SlMaps.Clone
import Derived.Test.YtlhemmpklhhgoaaGreatQk12
set_option linter.unusedSimpArgs false
set_option linter.unusedVariables false
section
namespace Go.Proofs.YtlhemmpklhhgoaaGreat
open Go.Shelf
def qS:Go.Shelf.Ren:=⟨fun|5=>100|7=>130|n=>n,fun|23=>93|25=>3|3=>33|4=>4|20=>20|n=>n,fun|n=>n⟩
theorem Ae:Go.Proofs.SlLaysW.n5 Tryz.prog qS:={
 mixed:=af
 f5:=⟨Tryz.f100.name,ke,Tryz.func100.trans (congrArg some af)⟩
 f7:=Tryz.func130.trans (congrArg some af)
 t4:=Tryz.underlying4
 a4:=Tryz.isAgg4
 z4:=Tryz.sizeOf4
 v4:=Tryz.zeroValue4
 t20:=Tryz.underlying20
 a20:=Tryz.isAgg20
 z20:=Tryz.sizeOf20
 v20:=Tryz.zeroValue20
 t23:=Tryz.underlying93
 a23:=Tryz.isAgg93
 z23:=Tryz.sizeOf93
 v23:=Tryz.zeroValue93}
theorem Af:rF Tryz.prog 100:=⟨⟨_,Tryz.func100,af,af⟩,fun w b es clock hb=>AnyW.maps_Clone Ae b es clock w hb⟩
end Go.Proofs.YtlhemmpklhhgoaaGreat
end
namespace Go.Proofs.YtlhemmpklhhgoaaGreat
theorem mix:Tryz.prog.follows .mixedOrders=true:=af
def zn:Tr FD:= .e fun _=> .no
theorem zt{f:Nat->Nat}:Tr.rS (fun(g:Nat) (d:FD)=>d.Ok Tryz.prog g) zn f:=fun _=>trivial
def GM:Tr FD:=
 (.n .no (.n .no (.n .no (.n .no (.n (.fn 34 Ly [.cell 6 29, .tmp 7]) (.n .no (.n (.fn 27 LS [.cell 6 95, .tmp 7]) zn (.n (.fn 15 Gn [.tmp 6]) zn zn)) (.n .no (.n (.fn 4 Fi [.tmp 2]) zn zn) zn)) (.n (.fn 9 LK [.cell 4 33]) (.n (.fn 167 L2 [.cell 2 95, .tmp 3]) zn zn) (.n (.fn 4 EE [.tmp 2]) (.n (.fn 49 FQ []) zn zn) zn))) (.n .no (.n .no (.n .no (.n (.fn 11 EZ []) zn zn) (.n (.fn 14 GG [.tmp 4]) zn zn)) (.n (.fn 133 En []) (.n (.fn 8 FB [.tmp 3]) zn zn) zn)) (.n .no zn (.n (.fn 46 EI [.tmp 2]) (.n (.fn 168 F7 [.tmp 8, .tmp 9]) zn zn) zn)))) (.n (.fn 218 Lw [.tmp 0]) (.n .no (.n (.fn 40 LD [.tmp 6, .tmp 7]) (.n (.fn 45 LX [.tmp 2, .tmp 3]) zn (.n (.fn 14 Gw [.tmp 4]) zn zn)) (.n (.fn 22 L7 [.tmp 4]) (.n (.fn 8 Ft [.tmp 2]) zn zn) zn)) (.n (.fn 6 LO [.cell 2 33]) (.n .no (.n (.fn 18 E9 [.tmp 4]) zn zn) zn) (.n .no (.n (.fn 32 FZ []) zn zn) zn))) (.n .no (.n .no zn (.n (.fn 6 Ew [.cell 2 33]) (.n (.fn 39 FI [.cell 4 4]) zn zn) zn)) (.n .no (.n (.fn 35 L6 [.tmp 8]) zn zn) (.n .no (.n (.fn 19 Gf [.cell 0 210]) zn zn) zn))))) (.n .no (.n .no (.n .no (.n .no (.n (.fn 66 LV [.cell 2 29]) (.n (.fn 32 ER [.tmp 4, .tmp 5, .tmp 6]) zn zn) (.n (.fn 6 Gs [.tmp 2]) zn zn)) (.n .no (.n (.fn 13 Fm [.tmp 4]) zn zn) zn)) (.n (.fn 10 LM [.cell 0 29]) (.n .no (.n (.fn 28 E5 [.tmp 2]) zn zn) zn) (.n .no (.n (.fn 65 FV []) zn zn) zn))) (.n (.fn 46 LC [.tmp 4]) (.n .no (.n (.fn 33 L0 [.tmp 4]) zn (.n (.fn 28 GK [.tmp 8, .tmp 9]) zn zn)) (.n (.fn 8 Es [.tmp 2]) (.n (.fn 18 FE [.tmp 4]) zn zn) zn)) (.n .no zn (.n (.fn 15 EM [.tmp 2]) (.n (.fn 25 Gb [.tmp 2]) zn zn) zn)))) (.n .no (.n (.fn 70 LA [.tmp 4]) (.n .no (.n (.fn 9 LZ [.tmp 2]) (.n (.fn 32 EV [.tmp 6]) zn zn) (.n (.fn 27 GA [.tmp 4]) zn zn)) (.n (.JA 6 yb Ek 131 3 [.tmp 2] [.cell 2 36] 14 5 5 Ej) (.n (.fn 17 Fx [.tmp 4]) zn zn) zn)) (.n .no (.n (.fn 8 L4 [.cell 4 33]) (.n (.fn 4 Fe [.tmp 2]) zn zn) zn) (.n .no (.n (.fn 17 F3 [.tmp 4]) zn zn) zn))) (.n .no (.n (.fn 54 LI [.cell 2 29, .tmp 3]) zn (.n (.fn 17 EA []) (.n (.fn 17 FM [.tmp 6]) zn zn) zn)) (.n .no zn (.n .no (.n (.fn 7 Gj [.tmp 2]) zn zn) zn)))))) (.n .no (.n .no (.n .no (.n (.fn 62 Lz [.cell 6 29, .tmp 7]) (.n .no (.n (.fn 45 LU [.cell 6 95, .tmp 7]) zn (.n (.fn 36 Gq [.tmp 10]) zn zn)) (.n .no (.n (.fn 16 Fk [.cell 2 4]) zn zn) zn)) (.n (.fn 5 LL [.cell 2 33]) (.n (.fn 5 L3 [.cell 2 33]) (.n (.fn 24 E3 [.tmp 3]) zn zn) zn) (.n (.fn 21 EG [.cell 4 33]) (.n (.fn 56 FT []) zn zn) zn))) (.n (.fn 94 LB [.cell 2 43, .tmp 3]) (.n (.fn 46 LG [.tmp 4]) (.n .no (.n (.fn 14 E1 []) zn zn) (.n (.fn 14 GI [.tmp 4]) zn zn)) (.n (.fn 9 Ep [.tmp 2]) zn zn)) (.n .no (.n (.fn 9 L5 [.tmp 4]) zn zn) (.n (.fn 14 EK [.tmp 6]) (.n (.fn 19 F9 [.tmp 2]) zn zn) zn)))) (.n .no (.n .no (.n .no (.n (.fn 33 LY [.cell 4 33]) (.n (.fn 47 ET []) zn zn) (.n (.fn 27 Gy [.tmp 4]) zn zn)) (.n .JB (.n (.fn 8 Fv []) zn zn) zn)) (.n (.fn 2 LP [.cell 0 33]) (.n .no (.n (.fn 34 Fb [.cell 6 4]) zn zn) zn) (.n .no (.n (.fn 133 F1 [.tmp 6]) zn zn) zn))) (.n .no (.n (.fn 37 LH [.cell 2 29, .tmp 3]) zn (.n (.fn 24 Ey [.tmp 4]) (.n (.fn 8 FK []) zn zn) zn)) (.n (.fn 42 LQ [.tmp 4]) zn (.n .no (.n (.fn 76 Gh []) zn zn) zn))))) (.n .no (.n .no (.n .no (.n .no (.n (.fn 16 LW [.tmp 4]) zn (.n (.fn 14 Gu [.tmp 4]) zn zn)) (.n .no (.n (.fn 134 Fq []) zn zn) zn)) (.n (.fn 2 LN [.cell 0 33]) (.n .no (.n (.fn 15 E7 [.tmp 6]) zn zn) zn) (.n .no (.n (.fn 57 FX [.tmp 6, .tmp 7]) zn zn) zn))) (.n .no (.n .no (.n (.fn 50 L1 [.tmp 4]) zn zn) (.n (.fn 8 Eu [.tmp 2]) (.n (.fn 7 FG [.tmp 3]) zn zn) zn)) (.n .no zn (.n .no (.n (.fn 19 Gd [.tmp 4]) zn zn) zn)))) (.n (.fn 101 Lx [.tmp 0]) (.n .no (.n (.fn 30 LF [.cell 4 33, .tmp 5]) (.n .no (.n (.fn 5 EX [.tmp 2]) zn zn) (.n (.fn 27 GD [.tmp 4]) zn zn)) (.n (.fn 7 El []) (.n (.fn 9 Fz [.tmp 4]) zn zn) zn)) (.n .no zn (.n .no (.n (.fn 84 F5 [.tmp 8]) zn zn) zn))) (.n .no (.n (.fn 10 LJ [.cell 0 29]) zn (.n (.fn 9 EC [.tmp 2]) (.n (.fn 10 FO [.tmp 4]) zn zn) zn)) (.n (.fn 12 LR [.cell 0 24]) (.n .no (.n (.fn 13 Fg [.tmp 4]) zn zn) zn) (.n (.fn 19 EO [.tmp 4]) (.n (.fn 33 Gl [.tmp 2]) zn zn) zn)))))))
noncomputable def aG:Nat->FD:=GM.get
theorem aM:∀g,(aG g).Ok Tryz.prog g:=
 Tr.og (p:=fun g d=>d.Ok Tryz.prog g) (f:=fun g=>g) GM
   ⟨trivial,⟨trivial,⟨trivial,⟨trivial,⟨JO,⟨trivial,⟨J7,zt,⟨Gp,zt,zt⟩⟩,⟨trivial,⟨Fj,zt,zt⟩,zt⟩⟩,⟨JZ,⟨Ki,zt,zt⟩,⟨EF,⟨FR,zt,zt⟩,zt⟩⟩⟩,⟨trivial,⟨trivial,⟨trivial,⟨E0,zt,zt⟩,⟨GH,zt,zt⟩⟩,⟨Eo,⟨FC,zt,zt⟩,zt⟩⟩,⟨trivial,zt,⟨EJ,⟨F8,zt,zt⟩,zt⟩⟩⟩⟩,⟨JM,⟨trivial,⟨JT,⟨Kc,zt,⟨Gx,zt,zt⟩⟩,⟨Kn,⟨Fu,zt,zt⟩,zt⟩⟩,⟨J3,⟨trivial,⟨Fa,zt,zt⟩,zt⟩,⟨trivial,⟨F0,zt,zt⟩,zt⟩⟩⟩,⟨trivial,⟨trivial,zt,⟨Ex,⟨FJ,zt,zt⟩,zt⟩⟩,⟨trivial,⟨Km,zt,zt⟩,⟨trivial,⟨Gg,zt,zt⟩,zt⟩⟩⟩⟩⟩,⟨trivial,⟨trivial,⟨trivial,⟨trivial,⟨J9,⟨ES,zt,zt⟩,⟨Gt,zt,zt⟩⟩,⟨trivial,⟨Fo,zt,zt⟩,zt⟩⟩,⟨J1,⟨trivial,⟨E6,zt,zt⟩,zt⟩,⟨trivial,⟨FW,zt,zt⟩,zt⟩⟩⟩,⟨JS,⟨trivial,⟨Kg,zt,⟨GL,zt,zt⟩⟩,⟨Et,⟨FF,zt,zt⟩,zt⟩⟩,⟨trivial,zt,⟨EN,⟨Gc,zt,zt⟩,zt⟩⟩⟩⟩,⟨trivial,⟨JQ,⟨trivial,⟨Ke,⟨EW,zt,zt⟩,⟨GC,zt,zt⟩⟩,⟨⟨Ad,Ac⟩,⟨Fy,zt,zt⟩,zt⟩⟩,⟨trivial,⟨Kk,⟨Ff,zt,zt⟩,zt⟩,⟨trivial,⟨F4,zt,zt⟩,zt⟩⟩⟩,⟨trivial,⟨JX,zt,⟨EB,⟨FN,zt,zt⟩,zt⟩⟩,⟨trivial,zt,⟨trivial,⟨Gk,zt,zt⟩,zt⟩⟩⟩⟩⟩⟩,⟨trivial,⟨trivial,⟨trivial,⟨JP,⟨trivial,⟨J8,zt,⟨Gr,zt,zt⟩⟩,⟨trivial,⟨Fl,zt,zt⟩,zt⟩⟩,⟨J0,⟨Kj,⟨E4,zt,zt⟩,zt⟩,⟨EH,⟨FU,zt,zt⟩,zt⟩⟩⟩,⟨JR,⟨JV,⟨trivial,⟨E2,zt,zt⟩,⟨GJ,zt,zt⟩⟩,⟨Er,zt,zt⟩⟩,⟨trivial,⟨Kl,zt,zt⟩,⟨EL,⟨Ga,zt,zt⟩,zt⟩⟩⟩⟩,⟨trivial,⟨trivial,⟨trivial,⟨Kd,⟨EU,zt,zt⟩,⟨Gz,zt,zt⟩⟩,⟨Af,⟨Fw,zt,zt⟩,zt⟩⟩,⟨J4,⟨trivial,⟨Fc,zt,zt⟩,zt⟩,⟨trivial,⟨F2,zt,zt⟩,zt⟩⟩⟩,⟨trivial,⟨JW,zt,⟨Ez,⟨FL,zt,zt⟩,zt⟩⟩,⟨J5,zt,⟨trivial,⟨Gi,zt,zt⟩,zt⟩⟩⟩⟩⟩,⟨trivial,⟨trivial,⟨trivial,⟨trivial,⟨Ka,zt,⟨Gv,zt,zt⟩⟩,⟨trivial,⟨Fs,zt,zt⟩,zt⟩⟩,⟨J2,⟨trivial,⟨E8,zt,zt⟩,zt⟩,⟨trivial,⟨FY,zt,zt⟩,zt⟩⟩⟩,⟨trivial,⟨trivial,⟨Kh,zt,zt⟩,⟨Ev,⟨FH,zt,zt⟩,zt⟩⟩,⟨trivial,zt,⟨trivial,⟨Ge,zt,zt⟩,zt⟩⟩⟩⟩,⟨JN,⟨trivial,⟨JU,⟨trivial,⟨EY,zt,zt⟩,⟨GF,zt,zt⟩⟩,⟨Em,⟨FA,zt,zt⟩,zt⟩⟩,⟨trivial,zt,⟨trivial,⟨F6,zt,zt⟩,zt⟩⟩⟩,⟨trivial,⟨JY,zt,⟨ED,⟨FP,zt,zt⟩,zt⟩⟩,⟨J6,⟨trivial,⟨Fh,zt,zt⟩,zt⟩,⟨EP,⟨Gm,zt,zt⟩,zt⟩⟩⟩⟩⟩⟩⟩
end Go.Proofs.YtlhemmpklhhgoaaGreat
namespace Go.Proofs.YtlhemmpklhhgoaaGreat
section
abbrev Fix(α:Type){β:Type}(_:β):Type:=α
def gv(K:V->List (Nat×aa)->Prop)(x:Fix (Option dn) K):Prop:=match x with|some (v,Δ,_)=>K v Δ|none=>False
@[go_sem] theorem Ag {v:V} {Δ:List (Nat×aa)} {rd:List Nat} {K}:gv K (some (v,Δ,rd))=K v Δ:=propext Iff.rfl
@[go_sem] theorem Ah {K}:gv K none=False:=propext Iff.rfl
def V.qT (c:Bool)(v:V):V:=if c=true then v else .a7 []
@[go_sem] theorem GN (b:Bool):(!!b)=b:=aU
attribute [go_sem] true_or or_true false_or ne_eq not_false_eq_true decide_true decide_false Bool.not_true Bool.not_false Bool.and_true Bool.true_and Bool.and_false Bool.false_and Bool.or_true Bool.true_or Bool.or_false Bool.false_or beq_self_eq_true Bool.true_eq_false Bool.false_eq_true not_true_eq_false and_true true_and and_false false_and eq_self
@[go_sem] theorem V.GO (v:V):V.qT true v=v:=rfl
@[go_sem] theorem V.Bl (v:V):V.qT false v= .a7 []:=rfl
def gw(c:Bool)(p:Prop):Prop:=c=true->p
@[congr] theorem yc {c c':Bool} {p p':Prop} (h:c=c') (h2:c'=true->p=p'):gw c p=gw c' p':=by
  subst h;cases c
  ·simp[gw]
  ·simp[gw,h2 rfl]
@[go_sem] theorem Ai (p:Prop):gw true p=p:=by simp[gw]
@[go_sem] theorem yd (p:Prop):gw false p=True:=by simp[gw]
@[go_sem] theorem Aj (a:Bool):gw a True=True:=by simp[gw]
def gx(v:V)(want:Bool):Option Bool:=
 match v with
 | .d (.bool b)=>some (b==want)
 | .a7 []=>some false
 |_=>none
@[go_sem] theorem Ak (b:Bool):gx (.d (.bool b)) true=some b:=by simp[gx]
@[go_sem] theorem ye (b:Bool):gx (.d (.bool b)) false=some (!b):=by simp[gx]
@[go_sem] theorem GP (want:Bool):gx (.a7 []) want=some false:=rfl
@[go_sem] theorem Bm (c b want:Bool):gx (V.qT c (.d (.bool b))) want=some (c&&(b==want)):=by cases c<;>simp[gx,V.qT]
@[go_sem] theorem Al (c b e want:Bool):gx (V.qT c (V.qT e (.d (.bool b)))) want=some (c&&e&&(b==want)):=by cases c<;>cases e<;>simp[gx,V.qT]
def gy(c:Bool)(x:Option dn):Option dn:=
 if c=true then(match x with|some (v,[],_)=>some (v,[],[])|_=>none)else some (.a7 [],[],[])
@[congr] theorem wN {c c':Bool} {x x':Option dn} (h:c=c') (h2:c'=true->x=x'):gy c x=gy c' x':=by
  subst h;cases c
  ·rfl
  ·simp[gy,h2 rfl]
def Bn(v:V)(rd:List Nat):Option dn:=some (v,[],rd)
@[go_sem] theorem Ko (v:V) (rd:List Nat):(some (v,[],rd):Option dn)=Bn v rd:=by unfold Bn;exact Eq.trans rfl rfl
@[go_sem] theorem Am (c:Bool) (v:V) (rd:List Nat):gy c (Bn v rd)=Bn (V.qT c v) []:=by cases c<;>rfl
@[go_sem] theorem Bo {v:V} {rd:List Nat} {K}:gv K (Bn v rd)=K v []:=propext Iff.rfl
@[go_sem] theorem yf (c:Bool) (v:V) (rd:List Nat):gy c (some (v,[],rd))=some (V.qT c v,[],[]):=by cases c<;>rfl
@[go_sem] theorem wO (x:Option dn):gy false x=some (.a7 [],[],[]):=rfl
@[go_sem] theorem GQ (b x:Bool):ja (.d (.bool b)) (V.qT b (.d (.bool x))) (.d (.bool false))=some (.d (.bool (b&&x))):=by cases b<;>rfl
@[go_sem] theorem HQ (b x:Bool):ja (.d (.bool b)) (.d (.bool true)) (V.qT (!b) (.d (.bool x)))=some (.d (.bool (b||x))):=by cases b<;>rfl
@[go_sem] theorem GR (b x:Bool):ja (.d (.bool (!b))) (.d (.bool true)) (V.qT b (.d (.bool x)))=some (.d (.bool (!b||x))):=by cases b<;>rfl
@[go_sem] theorem Bp (x y:V):ja (.d (.bool true)) x y=some x:=rfl
@[go_sem] theorem An (x y:V):ja (.d (.bool false)) x y=some y:=rfl
@[reducible] def lW:Op->Bool
  | .move _| .assign _| .pick .. | .load .. | .binOp .. | .unOp .. | .nilCheck _| .convert .. | .makeInterface .. | .makeFunc .. | .fieldAddr .. | .indexAddr .. | .extract .. | .build .. | .index .. | .field .. | .lookup .. =>true
  | .call c=>match c.callee with
    | .builtin .len=>true
    | .builtin .min=>true
    | .builtin .max=>true
    |_=>false
  |_=>false
def uY(P:Program)(f:V)(args:List V)(o:Nat->aa)(rs:List D):Prop:=
 match f with
 | .func (.func g) first cap=>match aT o (first++args++cap)with
   |some ds=>bt P g ds (.ret rs)/\D.eT rs=true
   |none=>False
 |_=>False
def yg(P:Program)(f:V)(args:List V)(o:Nat->aa)(K:V->Prop)(c:Fix Bool (f,args,o,K)):Prop:=
 ∃rs,gw c (uY P f args o rs)/\K (V.qT c (fE rs))
def uZ(P:Program)(g:FuncId)(nx:Nat)(K X:V->(Nat->aa)->Nat->Prop)(args:Fix (List V) (K,X))(o:Fix (Nat->aa) (K,X)):Prop:=mV P g args o nx K X
def u0(P:Program)(g:FuncId)(o:Nat->aa)(nx:Nat)(K X:V->(Nat->aa)->Nat->Prop)(ds:Fix (List D) (o,nx,K,X))(all:Fix (List V) (o,nx,K,X)):Prop:=
 mU P g ds o (put o (bH o (V.aC all))) (put o (kj o (V.aC all))) (fun v o'=>K v o' (nx+1)) (fun v o'=>X v o' (nx+1))\/mV P g all o nx K X
def jJ(P:Program)(g:FuncId)(K X:V->(Nat->aa)->Nat->Prop)(s:S)(all:List V)(ds:Fix (Option (List D)) (K,X,s,all)):Prop:=
 match ds with
 |some ds=>u0 P g s.o s.nx K X ds all
 |none=>uZ P g s.nx K X all s.o
@[go_sem] theorem yh {P:Program} {s:S} {ds:List D} {g:FuncId} {all:List V} {K X}:
 jJ P g K X s all (some ds)=u0 P g s.o s.nx K X ds all:=propext Iff.rfl
def u1(P:Program)(id:Nat)(K X:V->(Nat->aa)->Nat->Prop)(s:S)(args:Fix (List V) (K,X,s)):Prop:=ee P id args s.o s.nx K X
@[go_sem] theorem yi {P:Program} {s:S} {g:FuncId} {all:List V} {K X}:jJ P g K X s all none=uZ P g s.nx K X all s.o:=propext Iff.rfl
def ni(P:Program)(K X:V->(Nat->aa)->Nat->Prop)(s:S)(f:Fix V (K,X,s))(args:Fix (List V) (K,X,s)):Prop:=
 match f with
 | .func (.func g) first cap=>jJ P g K X s (first++args++cap) (aT s.o (first++args++cap))
 | .jl id=>u1 P id K X s args
 |_=>False
@[go_sem] theorem Bq {P:Program} {s:S} {id:Nat} {args:List V} {K X}:ni P K X s (.jl id) args=u1 P id K X s args:=propext Iff.rfl
@[go_sem] theorem Ao {P:Program} {s:S} {g:FuncId} {first cap args:List V} {K X}:ni P K X s (.func (.func g) first cap) args=jJ P g K X s (first++args++cap) (aT s.o (first++args++cap)):=propext Iff.rfl
def u3(P:Program)(g:FuncId)(o:Nat->aa)(nx:Nat)(K X:V->(Nat->aa)->Nat->Prop)(ds:Fix (List D) (o,nx,K,X))(all:Fix (List V) (o,nx,K,X)):Prop:=
 mU P g ds o (put o (bH o (V.aC all))) (put o (kj o (V.aC all))) (fun v o'=>K v o' (nx+1)) (fun v o'=>X v o' (nx+1))
def rU(P:Program)(g:FuncId)(K X:V->(Nat->aa)->Nat->Prop)(s:S)(all:List V)(ds:Fix (Option (List D)) (K,X,s,all)):Prop:=
 match ds with
 |some ds=>u3 P g s.o s.nx K X ds all
 |none=>False
@[go_sem] theorem Ap {P:Program} {s:S} {ds:List D} {g:FuncId} {all:List V} {K X}:rU P g K X s all (some ds)=u3 P g s.o s.nx K X ds all:=propext Iff.rfl
def wP(P:Program)(K X:V->(Nat->aa)->Nat->Prop)(s:S)(args:Fix (List V) (K,X,s))(r:Fix (Option (FuncId×V)) (K,X,s)):Prop:=
 match r with
 |some (g,y)=>rU P g K X s (y::args) (aT s.o (y::args))
 |none=>False
@[go_sem] theorem Br {P:Program} {s:S} {g:FuncId} {y:V} {args:List V} {K X}:wP P K X s args (some (g,y))=rU P g K X s (y::args) (aT s.o (y::args)):=propext Iff.rfl
def u4(K:V->Prop)(v:Fix V K):Prop:=
 match v with
 | .d (.iface t y)=>K (.d (.iface t y))
 | .iface t y=>K (.iface t y)
 |_=>False
@[go_sem] theorem Kp {t:TypeId} {y:D} {K}:u4 K (.d (.iface t y))=K (.d (.iface t y)):=propext Iff.rfl
@[go_sem] theorem Kq {t:TypeId} {y:V} {K}:u4 K (.iface t y)=K (.iface t y):=propext Iff.rfl
def yj(K:V->List (Nat×aa)->Prop)(id:Nat)(l:Fix (List (D×D)) (K,id)):Prop:=q8 id l fun v Δ _=>K v Δ
def wQ(K:V->List (Nat×aa)->Prop)(str:Bool)(Bs:Fix (Option dn) (K,str))(left:Fix (Option (Nat×List (D×D))) (K,str)):Prop:=
 match left with
 |some (id,l)=>str=false/\yj K id l
 |none=>gv K Bs
@[go_sem] theorem Bt {K} {Bs:Option dn} {id:Nat} {l:List (D×D)}:wQ K false Bs (some (id,l))=yj K id l:=propext ⟨fun h=>h.2,fun h=>⟨rfl,h⟩⟩
@[go_sem] theorem Bu {K} {str:Bool} {Bs:Option dn}:wQ K str Bs none=gv K Bs:=propext Iff.rfl
def rV(P:Program)(X:V->S->Prop)(K:S->Prop)(o:aP)(s:Fix S (X,K,o)):Prop:=
 match o.op with
 | .next x str=>wQ (fun v Δ=>K ⟨az s.env o.dst v,put s.o Δ,s.nx+1⟩) str (iC s.o (s.ev x) str) (iD s.o (s.ev x))
 | .call c=>match c.callee with
   | .value f=>ni P (fun v o' nx'=>K ⟨az s.env o.dst v,o',nx'⟩) (fun v o' nx'=>X v ⟨s.env,o',nx'⟩) s (s.ev f) (c.args.toList.map s.ev)
   | .invoke r m=>wP P (fun v o' nx'=>K ⟨az s.env o.dst v,o',nx'⟩) (fun v o' nx'=>X v ⟨s.env,o',nx'⟩) s (c.args.toList.map s.ev) (lk P m (s.ev r))
   |_=>gv (fun v Δ=>K ⟨az s.env o.dst v,put s.o Δ,s.nx+1⟩) (dw P s s.nx o.op)
 | .panic x=>u4 (fun v=>X v s) (s.ev x)
 |op=>gv (fun v Δ=>K ⟨az s.env o.dst v,put s.o Δ,s.nx+1⟩) (dw P s s.nx op)
@[reducible] def dB:Op->Option (Operand×List Operand)
  | .call c=>match c.callee with
    | .value f=>some (f,c.args.toList)
    |_=>none
  |_=>none
def eF(A B:Prop)(t:Fix Bool (A,B)):Prop:=jf t A B
@[go_sem] theorem Aq (A B:Prop):eF A B true=A:=lA A B
@[go_sem] theorem yk (A B:Prop):eF A B false=B:=jZ A B
def u5(P:Program)(X:V->S->Prop)(K:S->Prop)(o:aP)(s:S)(f:Operand)(args:List Operand)(c:Fix Bool (X,K,o,s,f,args)):Prop:=
 yg P (s.ev f) (args.map s.ev) s.o (fun v=>K ⟨az s.env o.dst v,s.o,s.nx+1⟩) c\/eF (rV P X K o s) (K ⟨az s.env o.dst (.a7 []),s.o,s.nx+1⟩) c
def pR(P:Program)(X:V->S->Prop)(K:S->Prop)(o:aP)(s:S)(c:Fix (Option Bool) (X,K,o,s)):Prop:=
 match c with
 |none=>False
 |some c=>match dB o.op with
  |some (f,args)=>u5 P X K o s f args c
  |none=>if lW o.op=true then gv (fun v _=>K ⟨az s.env o.dst v,s.o,s.nx+1⟩) (gy c (dw P s s.nx o.op))
   else eF (rV P X K o s) (K ⟨az s.env o.dst (.a7 []),s.o,s.nx+1⟩) c
def lX(P:Program)(X:V->S->Prop)(K:S->Prop)(l:List aP)(s:Fix S (X,K,l)):Prop:=
 match l with
 |[]=>K s
 |o::l=>match o.gd with
  |none=>rV P X (lX P X K l) o s
  |some (d,want)=>pR P X (lX P X K l) o s (gx (s.env d) want)
def eL(want:Bool)(A B:Prop)(v:Fix V (A,B)):Prop:=
 match v with
 | .d (.bool b)=>jf (b==want) A B
 | .a7 []=>B
 |_=>False
@[go_sem] theorem yl (b:Bool) (A B:Prop):eL true A B (.d (.bool b))=eF A B b:=by simp[eL,eF]
@[go_sem] theorem wR (b:Bool) (A B:Prop):eL false A B (.d (.bool b))=eF A B (!b):=by simp[eL,eF]
@[go_sem] theorem Bv (want:Bool) (A B:Prop):eL want A B (.a7 [])=B:=propext Iff.rfl
@[go_sem] theorem Ar (c b want:Bool) (A B:Prop):eL want A B (V.qT c (.d (.bool b)))=eF A B (c&&(b==want)):=by cases c<;>simp[eL,V.qT,eF]
abbrev KD:=V->List (Nat×aa)->List Nat->Prop
abbrev XD:=V->List Nat->List Nat->Prop
def u6(P:Program)(g:FuncId)(K:KD)(X:XD)(o:Nat->aa)(rd:List Nat)(ds:Fix (List D) (K,X,o,rd))(all:Fix (List V) (K,X,o,rd)):Prop:=
 m4 P g ds (fun v=>K v (bH o (V.aC all)) rd) (fun v=>K v [] rd) (fun v=>X v [] rd)
def oi(P:Program)(g:FuncId)(K:KD)(X:XD)(o:Nat->aa)(nx fr:Nat)(all:Fix (List V) (K,X,o,nx)):Prop:=ga P g all o nx fr K X
def qU(P:Program)(g:FuncId)(K:KD)(X:XD)(o:Nat->aa)(nx fr:Nat)(rd:List Nat)(ds:Fix (List D) (K,X,o,nx,rd))(all:Fix (List V) (K,X,o,nx,rd)):Prop:=u6 P g K X o rd ds all\/oi P g K X o nx fr all
def lY(P:Program)(K:KD)(X:XD)(o:Nat->aa)(nx fr:Nat)(rd:List Nat)(g:FuncId)(all:List V)(ds:Fix (Option (List D)) (K,X,o,nx,rd,all)):Prop:=
 match ds with
 |some ds=>qU P g K X o nx fr rd ds all
 |none=>oi P g K X o nx fr all
@[go_sem] theorem ym {P:Program} {o:Nat->aa} {nx fr:Nat} {rd:List Nat} {ds:List D} {g:FuncId} {all:List V} {K X}:lY P K X o nx fr rd g all (some ds)=qU P g K X o nx fr rd ds all:=propext Iff.rfl
@[go_sem] theorem yn {P:Program} {o:Nat->aa} {nx fr:Nat} {rd:List Nat} {g:FuncId} {all:List V} {K X}:lY P K X o nx fr rd g all none=oi P g K X o nx fr all:=propext Iff.rfl
def rW(P:Program)(K:KD)(X:XD)(o:Nat->aa)(nx fr:Nat)(rd:Fix (List Nat) (K,X,o,nx))(f:Fix V (K,X,o,nx))(args:Fix (List V) (K,X,o,nx)):Prop:=
 match f with
 | .func (.func g) first cap=>lY P K X o nx fr rd g (first++args++cap) (aT o (first++args++cap))
 |_=>False
@[go_sem] theorem As {P:Program} {o:Nat->aa} {nx fr:Nat} {rd:List Nat} {g:FuncId} {first cap args:List V} {K X}:rW P K X o nx fr rd (.func (.func g) first cap) args=lY P K X o nx fr rd g (first++args++cap) (aT o (first++args++cap)):=propext Iff.rfl
def pS(K:KD)(rd:List Nat)(x:Fix (Option dn) (K,rd)):Prop:=match x with|some (v,Δ,_)=>K v Δ rd|none=>False
@[go_sem] theorem Au {v:V} {Δ:List (Nat×aa)} {r rd:List Nat} {K}:pS K rd (some (v,Δ,r))=K v Δ rd:=propext Iff.rfl
@[go_sem] theorem Bw {v:V} {r rd:List Nat} {K}:pS K rd (Bn v r)=K v [] rd:=propext Iff.rfl
def yo(P:Program)(K:KD)(X:XD)(fr:Nat)(o:aP)(s:Fix S (K,X,o)):Prop:=
 match dB o.op with
 |some (f,args)=>rW P K X s.o s.nx fr (gK s o.op) (s.ev f) (args.map s.ev)
 |none=>pS K (gK s o.op) (dw P s fr o.op)
def u7(P:Program)(KB:List Nat->Fp->Prop)(pr:List (List Nat))(l:List aP)(fr:Nat)(fp:Fix Fp (KB,l))(bad ws:Fix (List Nat) (KB,l))(s:Fix S (KB,l)):Prop:=eg P KB pr l fr s fp bad ws
def jK(P:Program)(K:S->Fp->Prop)(KP:V->List Nat->Fp->Prop)(pr:List (List Nat))(l:List aP)(fr:Nat)(s:Fix S (K,KP,l))(fp:Fix Fp (K,KP,l)):Prop:=
 match l with
 |[]=>K s fp
 |o::l=>match o.gd with
  |none=>yo P (fun v Δ rd=>jK P K KP pr l (fr+1) ⟨az s.env o.dst v,put s.o Δ,s.nx⟩ (fp++[(rd,Δ.map (·.1))]))
   (fun v ws rd=>u7 P (KP v) pr l (fr+1) (fp++[(rd,[])]) [fp.length] (ws++fp.flatMap (·.2)) ⟨az s.env o.dst .bT,s.o,s.nx⟩) fr o s
  |some (d,want)=>eL want (yo P (fun v Δ rd=>jK P K KP pr l (fr+1) ⟨az s.env o.dst v,put s.o Δ,s.nx⟩ (fp++[(rd,Δ.map (·.1))]))
   (fun v ws rd=>u7 P (KP v) pr l (fr+1) (fp++[(rd,[])]) [fp.length] (ws++fp.flatMap (·.2)) ⟨az s.env o.dst .bT,s.o,s.nx⟩) fr o s)
   (jK P K KP pr l (fr+1) ⟨az s.env o.dst (.a7 []),s.o,s.nx⟩ (fp++[([],[])])) (s.env d)
def Av(pr:List (List Nat))(nx:Nat)(Q:dM->S->Prop)(s:Fix S Q)(fp:Fix Fp Q):Prop:=qJ pr nx Q s fp
def kF(l:List aP)(k:Fix Nat l):Option Nat:=match l with
 |[]=>none
 |o::l=>match o.gd,dB o.op with
  |none,some (.tmp _,_)=>some k
  |_,_=>kF l (k+1)
def yp(P:Program)(pr:List (List Nat))(l:List aP)(nx:Nat)(Q:dM->S->Prop)(s:Fix S (P,pr,l,nx,Q))(fp:Fix Fp (P,pr,l,nx,Q)):Prop:=e8 pr fp=true/\lX P (fun v s=>Q (.aJ v) s) (Q .normal) l ⟨s.env,s.o,nx⟩
def wS(P:Program)(l:List aP)(pr:List (List Nat))(Q:dM->S->Prop)(s:S)(sp:Fix (Option Nat) (P,l,pr,Q,s)):Prop:=match sp with
 |none=>jK P (Av pr (s.nx+l.length) Q) (pE pr l s Q) pr l s.nx s []
 |some m=>m<=l.length/\qK pr m=true/\jK P (yp P pr (l.drop m) (s.nx+m) Q) (fun _ _ _=>False) pr (l.take m) s.nx s []
def pT(A B:Prop)(v:Fix V (A,B)):Prop:=
 match v with
 | .d (.bool t)=>eF A B t
 | .c7=>A/\B
 |_=>False
@[go_sem] theorem Bx (A B:Prop):pT A B .c7=(A/\B):=propext Iff.rfl
@[go_sem] theorem Aw (t:Bool) (A B:Prop):pT A B (.d (.bool t))=eF A B t:=propext Iff.rfl
def yq{ι:Type}(b:Nat)(st:ι->S)(u9:ι->Prop)(wT:ι->Nat)(i:ι)(s:S):Prop:=∃j,u9 j/\wT j<wT i/\sE b s (st j)
def nj(next:S->Prop)(Q:dM->S->Prop)(e:dM)(s:S):Prop:=match e with| .normal=>next s|e=>Q e s
section
variable {N:S->Prop}{Q:dM->S->Prop}{s:S}
@[go_sem ↓] theorem wU:nj N Q .normal s=N s:=propext Iff.rfl
@[go_sem ↓] theorem Ax {id:Nat}:nj N Q (.exit id) s=Q (.exit id) s:=propext Iff.rfl
@[go_sem ↓] theorem Bz:nj N Q .ret s=Q .ret s:=propext Iff.rfl
@[go_sem ↓] theorem BA {v:V}:nj N Q (.aJ v) s=Q (.aJ v) s:=propext Iff.rfl
end
def va(b:Nat)(body:(dM->S->Prop)->S->Prop)(Q:dM->S->Prop)(s:Fix S (body,Q)):Prop:=
 ∃ (ι:Type) (st:ι->S) (u9:ι->Prop) (wT:ι->Nat) (i0:ι),u9 i0/\sE b s (st i0)/\∀i,u9 i->body (nj (yq b st u9 wT i) Q) (st i)
def Ay(P:Program)(n b:Nat)(rd:Bool)(Nz:Operand)(ps:List Nat)(x y:IC)(Q:dM->S->Prop)(s:Fix S (x,y,Q))(g:Fix V (x,y,Q)):Prop:=rd=false/\(qq P n g ps x y Q s\/∃s',sE b s s'/\qq P n (s'.ev Nz) ps x y Q s')
def lZ(P:Program)(n b:Nat)(rd:Bool)(c:IC)(Q:dM->S->Prop)(s:Fix S (c,Q)):Prop:=
 match c with
 | .skip=>Q .normal s
 | .ab l=>lX P (fun v s=>Q (.aJ v) s) (Q .normal) l s
 | .b9 l pr=>wS P l pr Q s (kF l 0)
 | .seq x y=>lZ P n b rd x (jX (fun s=>lZ P n b rd y Q s) Q) s
 | .cond c x y=>pT (lZ P n b rd x Q s) (lZ P n b rd y Q s) (s.ev c)
 | .block id x=>lZ P n b rd x (cV id Q) s
 | .loop x=>va b (fun Q s=>lZ P n b rd x Q s) Q s
 | .exit id=>Q (.exit id) s
 | .ret=>Q .ret s
 | .tq g ps x y=>Ay P n b rd g ps x y Q s (s.ev g)
 | .bad=>False
section
variable {P:Program}{n b:Nat}{rd:Bool}
theorem ga.mono {P:Program}{g:FuncId}{args:List V}{o:Nat->aa}{nx fr:Nat}{K K':KD}{X X':XD}(hK:∀v Δ r,K v Δ r->K' v Δ r)(hX:∀v w r,X v w r->X' v w r)(h:ga P g args o nx fr K X):ga P g args o nx fr K' X':=by
 obtain⟨rd,Δ,h1,⟨rs,h2,h3⟩|⟨x,h2,h3⟩|⟨v,h2,h3⟩⟩:=h
 ·exact⟨rd,Δ,h1, .inl ⟨rs,h2,hK _ _ _ h3⟩⟩
 ·exact⟨rd,Δ,h1, .inr (.inl ⟨x,h2,hX _ _ _ h3⟩)⟩
 ·exact⟨rd,Δ,h1, .inr (.inr ⟨v,h2,hK _ _ _ h3⟩)⟩
theorem m4.mono {P:Program}{g:FuncId}{ds:List D}{Kf Kb KX L8 L9 Ma:V->Prop}(h1:∀v,Kf v->L8 v)(h2:∀v,Kb v->L9 v)(h3:∀v,KX v->Ma v)(h:m4 P g ds Kf Kb KX):m4 P g ds L8 L9 Ma:=by
 rcases h with⟨rs,a,b|⟨b,c⟩⟩|⟨x,a,b,c⟩|⟨v,a,b⟩
 ·exact .inl ⟨rs,a, .inl (h1 _ b)⟩
 ·exact .inl ⟨rs,a, .inr ⟨b,h2 _ c⟩⟩
 ·exact .inr (.inl ⟨x,a,b,h3 _ c⟩)
 ·exact .inr (.inr ⟨v,a,h1 _ b⟩)
end
def wV(P:Program)(rs:List ResultVar)(K X:V->(Nat->aa)->Nat->Prop)(e:dM)(s:S):Prop:=fq P rs K X e s
section
variable {P:Program}{g:FuncId}{ds:List D}{o:Nat->aa}{nx:Nat}{K X:V->(Nat->aa)->Nat->Prop}{all:List V}
variable {K:KD}{X:XD}{rd:List Nat}{fr:Nat}
end
@[go_sem] theorem GS (o:Nat->aa):put o []=o:=rfl
@[go_sem] theorem BB (o:Nat->aa) (x:Nat×aa) (l:List (Nat×aa)):put o (x::l)=put (cn o x.1 x.2) l:=rfl
@[go_sem] theorem vb {α:Type} (f:Nat->α) (i:Nat) (x:α):cn f i x i=x:=aU
@[go_sem] theorem vc {α:Type} (f:Nat->α) (i j:Nat) (x:α) (h:j≠i):cn f i x j=f j:=by simp[h]
@[go_sem] theorem wW (v:V) (l:List V):br (v::l) 0=v:=rfl
@[go_sem] theorem wX (v:V) (l:List V) (i:Nat):br (v::l) (i+1)=br l i:=rfl
@[go_sem] theorem yr (i:Nat):br [] i= .a7 []:=by simp[br]
@[go_sem] theorem BC {P:Program} {o:Nat->aa} {t:TypeId} {id off:Nat}:fX P o t (.ptr id off)=match o id with
 | .row cs=>match cy P t cs off with
   |some v=>some (v,[],[id])
   |none=>none
 |_=>none:=by unfold fX;exact Eq.trans rfl rfl
@[go_sem] theorem GU {P:Program} {o:Nat->aa} {t:TypeId} {cs:List D} {off:Nat}:fX P o t (.pp cs off)=match cy P t (cs.map .d) off with
 |some v=>some (v,[],[])
 |none=>none:=by unfold fX;exact Eq.trans rfl rfl
@[go_sem] theorem GV {P:Program} {o:Nat->aa} {t:TypeId} {id ep i sz off:Nat}:fX P o t (.pe id ep i sz off)=match o id with
 | .arr dL _ jm es=>if ep=dL/\sz=jm then match es[i]? with
  |some e=>match cy P t (e.cells.map .d) off with
   |some v=>some (v,[],[id])
   |none=>none
  |none=>none
   else none
 |_=>none:=by unfold fX;exact Eq.trans rfl rfl
section
variable {P:Program}{o:Nat->aa}{t:TypeId}{op:BinOp}{ko:Bool}
@[go_sem] theorem BD {k:IntKind} {a b:Int}:cK P o op t ko (.d (.int k a)) (.d (.int k b))=match pn op k a b with
 |some v=>one v
 |none=>jx P o op t ko (.d (.int k a)) (.d (.int k b)):=by
  simp only[cK,nL,if_true]
  cases pn op k a b<;>rfl
@[go_sem] theorem BE {a b:Bool} (h:gE P t=true):cK P o .eql t ko (.d (.bool a)) (.d (.bool b))=one (.d (.bool (a==b))):=by simp only[cK,nL,ug,h,if_true]
@[go_sem] theorem BF {a b:Bool} (h:gE P t=true):cK P o .neq t ko (.d (.bool a)) (.d (.bool b))=one (.d (.bool (a !=b))):=by simp only[cK,nL,ug,h,if_true]
@[go_sem] theorem BG {a b:List UInt8}:cK P o .eql t ko (.d (.str a)) (.d (.str b))=one (.d (.bool (a==b))):=yS
@[go_sem] theorem BH {a b:List UInt8}:cK P o .neq t ko (.d (.str a)) (.d (.str b))=one (.d (.bool (a !=b))):=yS
@[go_sem] theorem BI {a b:List D}:cK P o op t ko (.d (.agg a)) (.d (.agg b))=jx P o op t ko (.d (.agg a)) (.d (.agg b)):=yS
theorem vA{x:V}{y:V}(h:match y with| .d (.int _ _)| .d (.bool _)| .d (.str _)=>False|_=>True):nL P op t x y=none:=by
 unfold nL
 split<;>first|exact h.elim|rfl
@[go_sem] theorem Az {x:V}:cK P o op t ko x .cG=jx P o op t ko x .cG:=tk
@[go_sem] theorem AA {x:V}:cK P o op t ko x (.d .dk)=jx P o op t ko x (.d .dk):=tk
@[go_sem] theorem AB {x:V}:cK P o op t ko x (.d .fD)=jx P o op t ko x (.d .fD):=tk
@[go_sem] theorem AD {x:V}:cK P o op t ko x (.d .e9)=jx P o op t ko x (.d .e9):=tk
@[go_sem] theorem AE {x:V}:cK P o op t ko x (.d .ej)=jx P o op t ko x (.d .ej):=tk
@[go_sem] theorem GW {b:Bool}:rZ .not (.d (.bool b))=some (.d (.bool !b)):=yU
@[go_sem] theorem GX:rZ .not .c7=some .c7:=yU
@[go_sem] theorem GY {k:IntKind} {n:Int}:rZ .neg (.d (.int k n))=some (.d (.int k (k.wrap (-n)))):=yU
end
@[go_sem] theorem D.BJ (cs:List D):(D.agg cs).cells=cs:=rfl
@[go_sem] theorem D.BK (k:IntKind) (n:Int):(D.int k n).cells=[.int k n]:=rfl
@[go_sem] theorem D.AF (b:Bool):(D.bool b).cells=[.bool b]:=rfl
@[go_sem] theorem D.BL (b:List UInt8):(D.str b).cells=[.str b]:=rfl
@[go_sem] theorem D.GZ (b:List D):(D.sl b).cells=[.sl b]:=rfl
@[go_sem] theorem D.G0 (a b:List D):(D.mp a b).cells=[.mp a b]:=rfl
@[go_sem] theorem D.yu (t:TypeId) (x:D):(D.iface t x).cells=[.iface t x]:=rfl
@[go_sem] theorem D.AG:D.dk.cells=[.dk]:=rfl
@[go_sem] theorem D.AH:D.fD.cells=[.fD]:=rfl
@[go_sem] theorem D.AJ:D.e9.cells=[.e9]:=rfl
@[go_sem] theorem D.AK:D.ej.cells=[.ej]:=rfl
attribute [go_sem] V.ofConst V.bB pn ug jb qv mT gO du dv jE cZ ft jc jd je nM dS uh fl cN aT cy nr jO ir V.cells D.put bH V.ids V.aC fE D.eT D.flat R.flat
attribute [go_sem] p7 List.take_succ_cons List.take_zero List.take_nil List.drop_zero List.drop_succ_cons List.drop_nil
attribute [go_sem] List.map_cons List.map_nil List.length_cons List.length_nil List.cons_append List.nil_append List.append_nil List.getElem?_cons_zero List.getElem?_cons_succ Option.bind_some Option.bind_none Option.map_some Option.map_none aa.aY aa.bz
section
variable {P:Program}{n b:Nat}{rd:Bool}{Q:dM->S->Prop}{s:S}
@[go_sem] theorem G1:lZ P n b rd .skip Q s=Q .normal s:=propext Iff.rfl
@[go_sem] theorem HS {l:List aP}:lZ P n b rd (.ab l) Q s=lX P (fun v s=>Q (.aJ v) s) (Q .normal) l s:=propext Iff.rfl
@[go_sem] theorem HT {l:List aP} {pr:List (List Nat)}:lZ P n b rd (.b9 l pr) Q s=wS P l pr Q s (kF l 0):=propext Iff.rfl
@[go_sem] theorem BM {l:List aP} {pr:List (List Nat)}:wS P l pr Q s none=jK P (Av pr (s.nx+l.length) Q) (pE pr l s Q) pr l s.nx s []:=propext Iff.rfl
@[go_sem] theorem G2 {k:Nat}:kF [] k=none:=rfl
@[go_sem] theorem G3 {d:Option Nat} {t:Nat} {args:Array Operand} {ts:Array TypeId} {l:List aP} {k:Nat}:kF (⟨d, .call ⟨.value (.tmp t),args,ts⟩,none⟩::l) k=some k:=rfl
@[go_sem] theorem HU {d:Option Nat} {op:Op} {g:Nat×Bool} {l:List aP} {k:Nat}:kF (⟨d,op,some g⟩::l) k=kF l (k+1):=rfl
@[go_sem] theorem G4 {d:Option Nat} {f:Nat} {args:Array Operand} {ts:Array TypeId} {l:List aP} {k:Nat}:kF (⟨d, .call ⟨.value (.func f),args,ts⟩,none⟩::l) k=kF l (k+1):=rfl
@[go_sem] theorem HV {d:Option Nat} {op:Op} {l:List aP} {k:Nat} (h:dB op=none):kF (⟨d,op,none⟩::l) k=kF l (k+1):=by rw[kF.eq_2];simp only[h]
@[go_sem] theorem HW {x y:IC}:lZ P n b rd (.seq x y) Q s=lZ P n b rd x (jX (fun s=>lZ P n b rd y Q s) Q) s:=propext Iff.rfl
@[go_sem] theorem G5 {c:Operand} {x y:IC}:lZ P n b rd (.cond c x y) Q s=pT (lZ P n b rd x Q s) (lZ P n b rd y Q s) (s.ev c):=propext Iff.rfl
@[go_sem] theorem BN {id:Nat} {x:IC}:lZ P n b rd (.block id x) Q s=lZ P n b rd x (cV id Q) s:=propext Iff.rfl
@[go_sem] theorem G6 {x:IC}:lZ P n b rd (.loop x) Q s=va b (fun Q s=>lZ P n b rd x Q s) Q s:=propext Iff.rfl
@[go_sem] theorem G7 {id:Nat}:lZ P n b rd (.exit id) Q s=Q (.exit id) s:=propext Iff.rfl
@[go_sem] theorem HX:lZ P n b rd .ret Q s=Q .ret s:=propext Iff.rfl
@[go_sem] theorem HY {g:Operand} {ps:List Nat} {x y:IC}:lZ P n b rd (.tq g ps x y) Q s=Ay P n b rd g ps x y Q s (s.ev g):=propext Iff.rfl
@[go_sem] theorem G8 {X:V->S->Prop} {K:S->Prop}:lX P X K [] s=K s:=propext Iff.rfl
@[go_sem] theorem BO {X:V->S->Prop} {K:S->Prop} {d:Option Nat} {op:Op} {l:List aP}:lX P X K (⟨d,op,none⟩::l) s=rV P X (lX P X K l) ⟨d,op,none⟩ s:=propext Iff.rfl
@[go_sem] theorem BP {X:V->S->Prop} {K:S->Prop} {d:Option Nat} {op:Op} {g:Nat} {w:Bool} {l:List aP}:lX P X K (⟨d,op,some (g,w)⟩::l) s=pR P X (lX P X K l) ⟨d,op,some (g,w)⟩ s (gx (s.env g) w):=propext Iff.rfl
variable {X:V->S->Prop}{K:S->Prop}{d:Option Nat}{op:Op}{g:Option (Nat×Bool)}{f:Operand}{args:Array Operand}{ts:Array TypeId}{c:Bool}
@[reducible] def BQ:Op->Bool
  | .call c=>match c.callee with
    | .value _=>true
    | .invoke .. =>true
    |_=>false
  | .panic _=>true
  | .next .. =>true
  |_=>false
@[go_sem] theorem Kr (h:BQ op=false):rV P X K ⟨d,op,g⟩ s=gv (fun v Δ=>K ⟨az s.env d v,put s.o Δ,s.nx+1⟩) (dw P s s.nx op):=by
  unfold rV
  cases op with
  |call c=>
   obtain⟨wa,args,ts⟩:=c
   cases wa with
   |value f=>simp[BQ]at h
   |invoke r m=>simp[BQ]at h
   |_=>rfl
  |panic x=>simp[BQ]at h
  |next x str=>simp[BQ]at h
  |_=>rfl
@[go_sem] theorem G9 {x:Operand} {str:Bool}:rV P X K ⟨d, .next x str,g⟩ s=wQ (fun v Δ=>K ⟨az s.env d v,put s.o Δ,s.nx+1⟩) str (iC s.o (s.ev x) str) (iD s.o (s.ev x)):=propext Iff.rfl
@[go_sem] theorem Ha:rV P X K ⟨d, .call ⟨.value f,args,ts⟩,g⟩ s=ni P (fun v o' nx'=>K ⟨az s.env d v,o',nx'⟩) (fun v o' nx'=>X v ⟨s.env,o',nx'⟩) s (s.ev f) (args.toList.map s.ev):=propext Iff.rfl
@[go_sem] theorem AL {m:String}:rV P X K ⟨d, .call ⟨.invoke f m,args,ts⟩,g⟩ s=wP P (fun v o' nx'=>K ⟨az s.env d v,o',nx'⟩) (fun v o' nx'=>X v ⟨s.env,o',nx'⟩) s (args.toList.map s.ev) (lk P m (s.ev f)):=propext Iff.rfl
@[go_sem] theorem BR:rV P X K ⟨d, .panic f,g⟩ s=u4 (fun v=>X v s) (s.ev f):=propext Iff.rfl
@[go_sem] theorem BS:pR P X K ⟨d, .call ⟨.value f,args,ts⟩,g⟩ s (some c)=u5 P X K ⟨d, .call ⟨.value f,args,ts⟩,g⟩ s f args.toList c:=propext Iff.rfl
@[go_sem] theorem BT (h:lW op=true):pR P X K ⟨d,op,g⟩ s (some c)=gv (fun v _=>K ⟨az s.env d v,s.o,s.nx+1⟩) (gy c (dw P s s.nx op)):=by
  have h2:dB op=none:=by
   cases hc:dB op with
   |none=>rfl
   |some x=>
    exfalso
    unfold dB at hc
    split at hc
    ·split at hc
     ·rename_i hv;simp[lW,hv]at h
     ·cases hc
    ·cases hc
  simp only[pR,h2,h,if_true]
@[go_sem] theorem BU (h:lW op=false) (h2:dB op=none):pR P X K ⟨d,op,g⟩ s (some c)=eF (rV P X K ⟨d,op,g⟩ s) (K ⟨az s.env d (.a7 []),s.o,s.nx+1⟩) c:=by
  simp[pR,h2,h]
@[go_sem] theorem AM {l:List Operand}:u5 P X K ⟨d,op,g⟩ s f l false=K ⟨az s.env d (.a7 []),s.o,s.nx+1⟩:=by
  refine propext ⟨fun h=> ?_,fun h=> .inr ⟨(fun e=>by cases e),fun _=>h⟩⟩
  rcases h with⟨rs,_,h⟩|h
  ·exact h
  ·exact h.2 rfl
@[go_sem] theorem BV {l:List Operand} (hl:args.toList=l):u5 P X K ⟨d, .call ⟨.value f,args,ts⟩,g⟩ s f l true=rV P X K ⟨d, .call ⟨.value f,args,ts⟩,g⟩ s:=by
  subst hl
  refine propext ⟨fun h=> ?_,fun h=> .inr ⟨fun _=>h,(fun e=>by cases e)⟩⟩
  rcases h with⟨rs,h1,h⟩|h
  ·have h1:=h1 rfl
   unfold uY at h1
   unfold rV ni jJ
   simp only
   split at h1
   ·rename_i fv gg first cap hf
    simp only[hf]
    split at h1
    ·rename_i ds dh
     simp only[dh]
     exact .inl ⟨.ret rs,h1.1, .inr (.inl ⟨h1.2,h⟩)⟩
    ·exact h1.elim
   ·exact h1.elim
  ·exact h.1 rfl
variable {KV:KD}{XV:XD}
@[go_sem] theorem Hb {fr:Nat}:yo P KV XV fr ⟨d, .call ⟨.value f,args,ts⟩,g⟩ s=rW P KV XV s.o s.nx fr (gK s (.call ⟨.value f,args,ts⟩)) (s.ev f) (args.toList.map s.ev):=propext Iff.rfl
@[go_sem] theorem Ks {fr:Nat} (h2:dB op=none):yo P KV XV fr ⟨d,op,g⟩ s=pS KV (gK s op) (dw P s fr op):=by simp[yo,h2]
variable {KS:S->Prop}
@[go_sem ↓] theorem wY:jX KS Q .normal s=KS s:=propext Iff.rfl
@[go_sem ↓] theorem AO {id:Nat}:jX KS Q (.exit id) s=Q (.exit id) s:=propext Iff.rfl
@[go_sem ↓] theorem BW:jX KS Q .ret s=Q .ret s:=propext Iff.rfl
@[go_sem ↓] theorem BX {v:V}:jX KS Q (.aJ v) s=Q (.aJ v) s:=propext Iff.rfl
@[go_sem ↓] theorem vw {id:Nat}:cV id Q .normal s=Q .normal s:=propext Iff.rfl
@[go_sem ↓] theorem yw {id:Nat}:cV id Q (.exit id) s=Q .normal s:=by simp[cV]
@[go_sem ↓] theorem wZ {id j:Nat} (h:j≠id):cV id Q (.exit j) s=Q (.exit j) s:=by simp[cV,h]
@[go_sem ↓] theorem AP {id:Nat}:cV id Q .ret s=Q .ret s:=propext Iff.rfl
@[go_sem ↓] theorem AQ {id:Nat} {v:V}:cV id Q (.aJ v) s=Q (.aJ v) s:=propext Iff.rfl
def w6(out:R)(x:Option (List D)):Prop:=match x with|some ds=>out= .ret ds|none=>False
@[go_sem] theorem BZ {out:R} {ds:List D}:w6 out (some ds)=(out= .ret ds):=propext Iff.rfl
def AR(out:R)(x:Option D):Prop:=match x with|some d=>out= .aJ d|none=>False
@[go_sem] theorem B0 {out:R} {d:D}:AR out (some d)=(out= .aJ d):=propext Iff.rfl
def w7(out:R)(o:Nat->aa)(x:Option (List V)):Prop:=match x with|some vs=>w6 out (aT o vs)|none=>False
@[go_sem] theorem B1 {out:R} {o:Nat->aa} {vs:List V}:w7 out o (some vs)=w6 out (aT o vs):=propext Iff.rfl
variable {rs:List ResultVar}{out:R}
@[go_sem ↓] theorem B2:sF P rs out .ret s=w7 out s.o (fl P s rs):=propext Iff.rfl
@[go_sem ↓] theorem w8:sF P rs out .normal s=w7 out s.o (fl P s rs):=propext Iff.rfl
@[go_sem ↓] theorem B3 {v:V}:sF P rs out (.aJ v) s=AR out (cN s.o v):=propext Iff.rfl
def pU(K:V->(Nat->aa)->Nat->Prop)(o:Nat->aa)(nx:Nat)(x:Fix (Option (List V)) (K,o,nx)):Prop:=match x with
 |some [v]=>K v o nx
 |some vs=>K (.a7 vs) o nx
 |none=>False
@[go_sem] theorem Hc {K:V->(Nat->aa)->Nat->Prop} {o:Nat->aa} {nx:Nat} {v:V}:pU K o nx (some [v])=K v o nx:=propext Iff.rfl
@[go_sem] theorem Hd {K:V->(Nat->aa)->Nat->Prop} {o:Nat->aa} {nx:Nat}:pU K o nx (some [])=K (.a7 []) o nx:=propext Iff.rfl
@[go_sem] theorem He {K:V->(Nat->aa)->Nat->Prop} {o:Nat->aa} {nx:Nat} {v u:V} {l:List V}:pU K o nx (some (v::u::l))=K (.a7 (v::u::l)) o nx:=propext Iff.rfl
theorem rX{K X:V->(Nat->aa)->Nat->Prop}:fq P rs K X .ret s=pU K s.o s.nx (fl P s rs):=by
 unfold fq pU
 cases fl P s rs with
 |none=>rfl
 |some l=>match l with
  |[]=>rfl
  |[_]=>rfl
  |_::_::_=>rfl
@[go_sem ↓] theorem Hf {K X:V->(Nat->aa)->Nat->Prop}:wV P rs K X .ret s=pU K s.o s.nx (fl P s rs):=rX
@[go_sem ↓] theorem yx {K X:V->(Nat->aa)->Nat->Prop}:wV P rs K X .normal s=pU K s.o s.nx (fl P s rs):=(rX (X:=X):fq P rs K X .ret s=_)
@[go_sem ↓] theorem Hg {K X:V->(Nat->aa)->Nat->Prop} {v:V}:wV P rs K X (.aJ v) s=X v s.o s.nx:=propext Iff.rfl
variable {KE:S->Fp->Prop}{KP:V->List Nat->Fp->Prop}{pr:List (List Nat)}{fr:Nat}{fp:Fp}
@[go_sem] theorem Hh:jK P KE KP pr [] fr s fp=KE s fp:=propext Iff.rfl
@[go_sem] theorem B4 {d:Option Nat} {op:Op} {l:List aP}:jK P KE KP pr (⟨d,op,none⟩::l) fr s fp=
 yo P (fun v Δ rd=>jK P KE KP pr l (fr+1) ⟨az s.env d v,put s.o Δ,s.nx⟩ (fp++[(rd,Δ.map (·.1))]))
  (fun v ws rd=>u7 P (KP v) pr l (fr+1) (fp++[(rd,[])]) [fp.length] (ws++fp.flatMap (·.2)) ⟨az s.env d .bT,s.o,s.nx⟩) fr ⟨d,op,none⟩ s:=propext Iff.rfl
@[go_sem] theorem B5 {d:Option Nat} {op:Op} {g:Nat} {w:Bool} {l:List aP}:jK P KE KP pr (⟨d,op,some (g,w)⟩::l) fr s fp=
 eL w (yo P (fun v Δ rd=>jK P KE KP pr l (fr+1) ⟨az s.env d v,put s.o Δ,s.nx⟩ (fp++[(rd,Δ.map (·.1))]))
  (fun v ws rd=>u7 P (KP v) pr l (fr+1) (fp++[(rd,[])]) [fp.length] (ws++fp.flatMap (·.2)) ⟨az s.env d .bT,s.o,s.nx⟩) fr ⟨d,op,some (g,w)⟩ s)
   (jK P KE KP pr l (fr+1) ⟨az s.env d (.a7 []),s.o,s.nx⟩ (fp++[([],[])])) (s.env g):=propext Iff.rfl
end
attribute [go_sem] BQ dB lW dw one fu az S.ev uY
attribute [irreducible] wS yp lZ lX rV pR u5 ni jJ rU u3 wP yg u0 uZ gv u4 eF eL u6 qU oi lY rW pS yo jK u7 Ay u1 wV pU Av pT va w6 AR w7 nj yq
end
section
section
variable (ρ:Nat->Option Nat)(o' o:Nat->aa)(nx:Nat)
end
section
variable {M M':Nat->Prop}{φ ao:Place}{H H':Hp}{w:World}{ρ:Nat->Option Nat}{nx:Nat}
end
end
@[go_sem] theorem B6 (v:V) (l:List V):gS (v::l) 0=v:=rfl
@[go_sem] theorem B7 (v:V) (l:List V) (i:Nat):gS (v::l) (i+1)=gS l i:=rfl
@[go_sem] theorem Hi (i:Nat):gS [] i= .bT:=by simp[gS]
@[go_sem] theorem yy (k:Nat):(0<=(k:Int))=True:=aU
attribute [go_sem] List.getElem?_map List.length_map Int.toNat_natCast
attribute [go_sem] cz List.flatMap_cons List.flatMap_nil
attribute [go_sem] isConst jx vK jv jw oG ju iy p9 vL mu se gW gX mo kW kX iz
attribute [go_sem] gK V.refs V.bp
attribute [go_sem] List.all_nil List.all_cons Option.some.injEq D.int.injEq D.bool.injEq Nat.zero_add Nat.add_zero
structure Good (o:Nat->aa) (nx:Nat):Prop where
 fresh:∀id,nx<=id->o id= .no
 refs:∀id,∀r∈(o id).refs,r<nx
theorem Good.nil {nx:Nat}:Good (fun _=> .no) nx:=⟨fun _ _=>rfl,fun id r h=>by cases h⟩
theorem Good.cn {o:Nat->aa}{nx i:Nat}{x:aa}(h:Good o nx)(hi:i<nx)(hx:x.refs.all (fun r=>decide (r<nx))=true):Good (cn o i x) nx:=by
 refine⟨fun id aj=> ?_,fun id r hr=> ?_⟩
 ·rw[vc _ _ _ _ (by omega)];exact h.fresh id aj
 ·by_cases e:id=i
  ·subst e
   rw[vb]at hr
   simpa using List.all_eq_true.1 hx r hr
  ·rw[vc _ _ _ _ e]at hr
   exact h.refs id r hr
theorem Good.mono {o:Nat->aa}{nx m:Nat}(h:Good o nx)(hm:nx<=m):Good o m:=⟨fun id aj=>h.fresh id aN,fun id r hr=>Nat.lt_of_lt_of_le (h.refs id r hr) hm⟩
theorem Good.lt {o:Nat->aa}{nx id:Nat}(h:Good o nx)(hn:o id≠ .no):id<nx:=by
 rcases Nat.lt_or_ge id nx with hl|hl
 ·exact hl
 ·exact absurd (h.fresh id hl) hn
abbrev D.i (n:Int):D:= .int .i64 n
structure B8 where
 name:List UInt8
 args:Int
structure Hj where
 cons:List B8
 Ku:List B8
inductive Tm where
 |mk (op n:Int) (kids:List Tm)
 deriving Inhabited
structure TB where
 var:Int
 term:Tm
def Tm.op:Tm->Int| .mk op _ _=>op
def Tm.n:Tm->Int| .mk _ n _=>n
def Tm.kids:Tm->List Tm| .mk _ _ l=>l
theorem Tm.ind {P:Tm->Prop}(h:∀op n kids,(∀k∈kids,P k)->P (.mk op n kids)):∀t,P t:=
 fun t=>Tm.rec (motive_1:=P) (motive_2:=fun l=>∀k∈l,P k) (fun op n kids ih=>h op n kids ih) (fun _ h=>by cases h)
  (fun x l hx hl k hk=>(List.mem_cons.1 hk).elim (fun e=>e ▸ hx) (hl k)) t
mutual
def Tm.d:Tm->D
 | .mk op n kids=> .agg [.i op, .i n, .sl (Tm.ds kids)]
def Tm.ds:List Tm->List D
 |[]=>[]
 |t::l=>t.d::Tm.ds l
end
theorem Tm.ve:∀l:List Tm,Tm.ds l=l.map Tm.d
 |[]=>rfl
 |t::l=>by simp[Tm.ds,Tm.ve l]
theorem Tm.Hk (t:Tm):t.d= .agg [.i t.op, .i t.n, .sl (t.kids.map Tm.d)]:=by cases t;simp[Tm.d,Tm.ve,Tm.op,Tm.n,Tm.kids]
@[go_sem] theorem Tm.Kv (t:Tm):D.agg [.i t.op, .i t.n, .sl (t.kids.map Tm.d)]=t.d:=(Tm.Hk t).symm
@[go_sem] theorem Tm.HZ (t:Tm):D.cells t.d=[.i t.op, .i t.n, .sl (t.kids.map Tm.d)]:=by rw[Tm.Hk];rfl
@[reducible] def B8.d (x:B8):D:= .agg [.str x.name, .i x.args]
@[reducible] def Hj.d (s:Hj):D:= .agg [.sl (s.cons.map B8.d), .sl (s.Ku.map B8.d)]
@[reducible] def TB.d (b:TB):D:= .agg [.i b.var, .i b.term.op, .i b.term.n, .sl (b.term.kids.map Tm.d)]
mutual
def pre:Tm->Int->List (Tm×Int)
 | .mk op n kids,d=>(.mk op n kids,d)::Hl kids (d+1)
def Hl:List Tm->Int->List (Tm×Int)
 |[],_=>[]
 |k::l,d=>pre k d++Hl l d
end
end Go.Proofs.YtlhemmpklhhgoaaGreat
section
namespace Go.Proofs.YtlhemmpklhhgoaaGreat
open Go
def vf:Nat->Bool:=fun g=> !([159,172,173,174,187,135,162,175,176,177,178,179,180,182,183,188,191,192,201,149,164,165,167,111,136,100,79,63,64,112,104,69]:List Nat).contains g
@[reducible] def zC:D:= .sl [.agg [.str [70,97,108,115,101], .i 0], .agg [.str [84,114,117,101], .i 0], .agg [.str [90], .i 0], .agg [.str [83], .i 1], .agg [.str [78,105,108], .i 0], .agg [.str [67,111,110,115], .i 2]]
@[reducible] def zF:D:= .sl [.agg [.str [97,112,112], .i 2], .agg [.str [111,110,101], .i 0]]
def eG:gm Tryz.prog:=gm.of vf [] (fun _ h=>by cases h)
end Go.Proofs.YtlhemmpklhhgoaaGreat
end
section
namespace Go.Proofs.YtlhemmpklhhgoaaGreat
open Go
theorem vg:cp Tryz.prog aG eG 5000 119 [.agg [zC,zF]]=some (.ret [.i 0]):=af
theorem qV:bt Tryz.prog 119 [.agg [zC,zF]] (.ret [.i 0]):=bt.aL mix aM vg
theorem w9:cp Tryz.prog aG eG 5000 129 [.agg [zC,zF], .agg [.i 1, .i 0, .sl []]]=some (.ret [.bool true, .bool false, .i 0]):=af
theorem vh:bt Tryz.prog 129 [.agg [zC,zF], .agg [.i 1, .i 0, .sl []]] (.ret [.bool true, .bool false, .i 0]):=bt.aL mix aM w9
theorem xa:cp Tryz.prog aG eG 5000 129 [.agg [zC,zF], .agg [.i 1, .i 2, .sl []]]=some (.ret [.bool true, .bool false, .i 0]):=af
theorem vi:bt Tryz.prog 129 [.agg [zC,zF], .agg [.i 1, .i 2, .sl []]] (.ret [.bool true, .bool false, .i 0]):=bt.aL mix aM xa
theorem xb:cp Tryz.prog aG eG 5000 129 [.agg [zC,zF], .agg [.i 3, .i 5, .sl [.agg [.i 1, .i 0, .sl []], .agg [.i 1, .i 1, .sl []]]]]=some (.ret [.bool true, .bool false, .i 0]):=af
theorem vj:bt Tryz.prog 129 [.agg [zC,zF], .agg [.i 3, .i 5, .sl [.agg [.i 1, .i 0, .sl []], .agg [.i 1, .i 1, .sl []]]]] (.ret [.bool true, .bool false, .i 0]):=bt.aL mix aM xb
theorem xc:cp Tryz.prog aG eG 5000 129 [.agg [zC,zF], .agg [.i 3, .i 5, .sl [.agg [.i 1, .i 2, .sl []], .agg [.i 3, .i 5, .sl [.agg [.i 1, .i 0, .sl []], .agg [.i 3, .i 4, .sl []]]]]]]=some (.ret [.bool true, .bool false, .i 0]):=af
theorem vk:bt Tryz.prog 129 [.agg [zC,zF], .agg [.i 3, .i 5, .sl [.agg [.i 1, .i 2, .sl []], .agg [.i 3, .i 5, .sl [.agg [.i 1, .i 0, .sl []], .agg [.i 3, .i 4, .sl []]]]]]] (.ret [.bool true, .bool false, .i 0]):=bt.aL mix aM xc
theorem xd:cp Tryz.prog aG eG 5000 129 [.agg [zC,zF], .agg [.i 3, .i 5, .sl [.agg [.i 1, .i 0, .sl []], .agg [.i 3, .i 4, .sl []]]]]=some (.ret [.bool true, .bool false, .i 0]):=af
theorem vl:bt Tryz.prog 129 [.agg [zC,zF], .agg [.i 3, .i 5, .sl [.agg [.i 1, .i 0, .sl []], .agg [.i 3, .i 4, .sl []]]]] (.ret [.bool true, .bool false, .i 0]):=bt.aL mix aM xd
theorem xe:cp Tryz.prog aG eG 5000 129 [.agg [zC,zF], .agg [.i 3, .i 3, .sl [.agg [.i 1, .i 3, .sl []]]]]=some (.ret [.bool true, .bool false, .i 0]):=af
theorem vm:bt Tryz.prog 129 [.agg [zC,zF], .agg [.i 3, .i 3, .sl [.agg [.i 1, .i 3, .sl []]]]] (.ret [.bool true, .bool false, .i 0]):=bt.aL mix aM xe
theorem xf:cp Tryz.prog aG eG 5000 129 [.agg [zC,zF], .agg [.i 3, .i 3, .sl [.agg [.i 3, .i 2, .sl []]]]]=some (.ret [.bool true, .bool true, .i 0]):=af
theorem vn:bt Tryz.prog 129 [.agg [zC,zF], .agg [.i 3, .i 3, .sl [.agg [.i 3, .i 2, .sl []]]]] (.ret [.bool true, .bool true, .i 0]):=bt.aL mix aM xf
def pV:gm Tryz.prog:=gm.of vf [(119,[.agg [zC,zF]], .ret [.i 0]),(129,[.agg [zC,zF], .agg [.i 1, .i 0, .sl []]], .ret [.bool true, .bool false, .i 0]),(129,[.agg [zC,zF], .agg [.i 1, .i 2, .sl []]], .ret [.bool true, .bool false, .i 0]),(129,[.agg [zC,zF], .agg [.i 3, .i 5, .sl [.agg [.i 1, .i 0, .sl []], .agg [.i 1, .i 1, .sl []]]]], .ret [.bool true, .bool false, .i 0]),(129,[.agg [zC,zF], .agg [.i 3, .i 5, .sl [.agg [.i 1, .i 2, .sl []], .agg [.i 3, .i 5, .sl [.agg [.i 1, .i 0, .sl []], .agg [.i 3, .i 4, .sl []]]]]]], .ret [.bool true, .bool false, .i 0]),(129,[.agg [zC,zF], .agg [.i 3, .i 5, .sl [.agg [.i 1, .i 0, .sl []], .agg [.i 3, .i 4, .sl []]]]], .ret [.bool true, .bool false, .i 0]),(129,[.agg [zC,zF], .agg [.i 3, .i 3, .sl [.agg [.i 1, .i 3, .sl []]]]], .ret [.bool true, .bool false, .i 0]),(129,[.agg [zC,zF], .agg [.i 3, .i 3, .sl [.agg [.i 3, .i 2, .sl []]]]], .ret [.bool true, .bool true, .i 0])] (fun x h=>by
 simp only[List.mem_cons,List.not_mem_nil,or_false]at h
 rcases h with rfl|rfl|rfl|rfl|rfl|rfl|rfl|rfl
 ·exact qV
 ·exact vh
 ·exact vi
 ·exact vj
 ·exact vk
 ·exact vl
 ·exact vm
 ·exact vn)
end Go.Proofs.YtlhemmpklhhgoaaGreat
end
section
namespace Go.Proofs.YtlhemmpklhhgoaaGreat
open Go
theorem AS:cp Tryz.prog aG pV 5000 15 [.agg [zC,zF, .sl [], .sl [], .sl []], .agg [.i 3, .i 5, .sl [.agg [.i 1, .i 0, .sl []], .agg [.i 1, .i 1, .sl []]]], .agg [.i 3, .i 5, .sl [.agg [.i 1, .i 2, .sl []], .agg [.i 3, .i 5, .sl [.agg [.i 1, .i 0, .sl []], .agg [.i 3, .i 4, .sl []]]]]]]=some (.ret [.agg [zC,zF, .sl [.agg [.i 2, .i 1, .i 0, .sl []], .agg [.i 1, .i 3, .i 5, .sl [.agg [.i 1, .i 0, .sl []], .agg [.i 3, .i 4, .sl []]]]], .sl [], .sl []], .i 0]):=af
theorem Kw:bt Tryz.prog 15 [.agg [zC,zF, .sl [], .sl [], .sl []], .agg [.i 3, .i 5, .sl [.agg [.i 1, .i 0, .sl []], .agg [.i 1, .i 1, .sl []]]], .agg [.i 3, .i 5, .sl [.agg [.i 1, .i 2, .sl []], .agg [.i 3, .i 5, .sl [.agg [.i 1, .i 0, .sl []], .agg [.i 3, .i 4, .sl []]]]]]] (.ret [.agg [zC,zF, .sl [.agg [.i 2, .i 1, .i 0, .sl []], .agg [.i 1, .i 3, .i 5, .sl [.agg [.i 1, .i 0, .sl []], .agg [.i 3, .i 4, .sl []]]]], .sl [], .sl []], .i 0]):=bt.aL mix aM AS
end Go.Proofs.YtlhemmpklhhgoaaGreat
end
section
namespace Go.Proofs.YtlhemmpklhhgoaaGreat
open Go
theorem AU:cp Tryz.prog aG pV 5000 16 [.agg [zC,zF, .sl [.agg [.i 2, .i 1, .i 0, .sl []], .agg [.i 1, .i 3, .i 5, .sl [.agg [.i 1, .i 0, .sl []], .agg [.i 3, .i 4, .sl []]]]], .sl [], .sl []], .agg [.i 3, .i 3, .sl [.agg [.i 1, .i 3, .sl []]]], .agg [.i 1, .i 2, .sl []]]=some (.ret [.agg [zC,zF, .sl [.agg [.i 2, .i 1, .i 0, .sl []], .agg [.i 1, .i 3, .i 5, .sl [.agg [.i 1, .i 0, .sl []], .agg [.i 3, .i 4, .sl []]]]], .sl [.agg [.i 3, .i 3, .sl [.agg [.i 1, .i 3, .sl []]], .i 1, .i 2, .sl []]], .sl []], .i 0]):=af
theorem Kx:bt Tryz.prog 16 [.agg [zC,zF, .sl [.agg [.i 2, .i 1, .i 0, .sl []], .agg [.i 1, .i 3, .i 5, .sl [.agg [.i 1, .i 0, .sl []], .agg [.i 3, .i 4, .sl []]]]], .sl [], .sl []], .agg [.i 3, .i 3, .sl [.agg [.i 1, .i 3, .sl []]]], .agg [.i 1, .i 2, .sl []]] (.ret [.agg [zC,zF, .sl [.agg [.i 2, .i 1, .i 0, .sl []], .agg [.i 1, .i 3, .i 5, .sl [.agg [.i 1, .i 0, .sl []], .agg [.i 3, .i 4, .sl []]]]], .sl [.agg [.i 3, .i 3, .sl [.agg [.i 1, .i 3, .sl []]], .i 1, .i 2, .sl []]], .sl []], .i 0]):=bt.aL mix aM AU
end Go.Proofs.YtlhemmpklhhgoaaGreat
end
section
namespace Go.Proofs.YtlhemmpklhhgoaaGreat
open Go
theorem AV:cp Tryz.prog aG pV 5000 15 [.agg [zC,zF, .sl [.agg [.i 2, .i 1, .i 0, .sl []], .agg [.i 1, .i 3, .i 5, .sl [.agg [.i 1, .i 0, .sl []], .agg [.i 3, .i 4, .sl []]]]], .sl [.agg [.i 3, .i 3, .sl [.agg [.i 1, .i 3, .sl []]], .i 1, .i 2, .sl []]], .sl []], .agg [.i 1, .i 0, .sl []], .agg [.i 3, .i 3, .sl [.agg [.i 1, .i 3, .sl []]]]]=some (.ret [.agg [.sl [], .sl [], .sl [], .sl [], .sl []], .i 5]):=af
theorem Ky:bt Tryz.prog 15 [.agg [zC,zF, .sl [.agg [.i 2, .i 1, .i 0, .sl []], .agg [.i 1, .i 3, .i 5, .sl [.agg [.i 1, .i 0, .sl []], .agg [.i 3, .i 4, .sl []]]]], .sl [.agg [.i 3, .i 3, .sl [.agg [.i 1, .i 3, .sl []]], .i 1, .i 2, .sl []]], .sl []], .agg [.i 1, .i 0, .sl []], .agg [.i 3, .i 3, .sl [.agg [.i 1, .i 3, .sl []]]]] (.ret [.agg [.sl [], .sl [], .sl [], .sl [], .sl []], .i 5]):=bt.aL mix aM AV
end Go.Proofs.YtlhemmpklhhgoaaGreat
end
section
namespace Go.Proofs.YtlhemmpklhhgoaaGreat
open Go
theorem AW:cp Tryz.prog aG pV 5000 24 [.agg [zC,zF, .sl [.agg [.i 2, .i 1, .i 0, .sl []], .agg [.i 1, .i 3, .i 5, .sl [.agg [.i 1, .i 0, .sl []], .agg [.i 3, .i 4, .sl []]]]], .sl [.agg [.i 3, .i 3, .sl [.agg [.i 1, .i 3, .sl []]], .i 1, .i 2, .sl []]], .sl []]]=some (.ret [.agg [.sl [.agg [.i 1, .i 3, .i 5, .sl [.agg [.i 1, .i 0, .sl []], .agg [.i 3, .i 4, .sl []]]], .agg [.i 2, .i 1, .i 0, .sl []]], .sl [.sl [.agg [.i 0, .i 3, .i 3, .sl [.agg [.i 1, .i 3, .sl []]]]]]], .i 0]):=af
theorem Kz:bt Tryz.prog 24 [.agg [zC,zF, .sl [.agg [.i 2, .i 1, .i 0, .sl []], .agg [.i 1, .i 3, .i 5, .sl [.agg [.i 1, .i 0, .sl []], .agg [.i 3, .i 4, .sl []]]]], .sl [.agg [.i 3, .i 3, .sl [.agg [.i 1, .i 3, .sl []]], .i 1, .i 2, .sl []]], .sl []]] (.ret [.agg [.sl [.agg [.i 1, .i 3, .i 5, .sl [.agg [.i 1, .i 0, .sl []], .agg [.i 3, .i 4, .sl []]]], .agg [.i 2, .i 1, .i 0, .sl []]], .sl [.sl [.agg [.i 0, .i 3, .i 3, .sl [.agg [.i 1, .i 3, .sl []]]]]]], .i 0]):=bt.aL mix aM AW
end Go.Proofs.YtlhemmpklhhgoaaGreat
end
section
namespace Go.Proofs.YtlhemmpklhhgoaaGreat
open Go
theorem AX:cp Tryz.prog aG pV 5000 35 [.agg [zC,zF, .sl [.agg [.i 2, .i 1, .i 0, .sl []], .agg [.i 1, .i 3, .i 5, .sl [.agg [.i 1, .i 0, .sl []], .agg [.i 3, .i 4, .sl []]]]], .sl [.agg [.i 3, .i 3, .sl [.agg [.i 1, .i 3, .sl []]], .i 1, .i 2, .sl []]], .sl []], .agg [.i 1, .i 0, .sl []], .agg [.i 3, .i 3, .sl [.agg [.i 3, .i 2, .sl []]]]]=some (.ret [.i 3, .i 0]):=af
theorem KA:bt Tryz.prog 35 [.agg [zC,zF, .sl [.agg [.i 2, .i 1, .i 0, .sl []], .agg [.i 1, .i 3, .i 5, .sl [.agg [.i 1, .i 0, .sl []], .agg [.i 3, .i 4, .sl []]]]], .sl [.agg [.i 3, .i 3, .sl [.agg [.i 1, .i 3, .sl []]], .i 1, .i 2, .sl []]], .sl []], .agg [.i 1, .i 0, .sl []], .agg [.i 3, .i 3, .sl [.agg [.i 3, .i 2, .sl []]]]] (.ret [.i 3, .i 0]):=bt.aL mix aM AX
end Go.Proofs.YtlhemmpklhhgoaaGreat
end
section
namespace Go.Proofs.YtlhemmpklhhgoaaGreat
open Go
def Hm:gm Tryz.prog:=gm.of vf [(15,[.agg [zC,zF, .sl [], .sl [], .sl []], .agg [.i 3, .i 5, .sl [.agg [.i 1, .i 0, .sl []], .agg [.i 1, .i 1, .sl []]]], .agg [.i 3, .i 5, .sl [.agg [.i 1, .i 2, .sl []], .agg [.i 3, .i 5, .sl [.agg [.i 1, .i 0, .sl []], .agg [.i 3, .i 4, .sl []]]]]]], .ret [.agg [zC,zF, .sl [.agg [.i 2, .i 1, .i 0, .sl []], .agg [.i 1, .i 3, .i 5, .sl [.agg [.i 1, .i 0, .sl []], .agg [.i 3, .i 4, .sl []]]]], .sl [], .sl []], .i 0]),(16,[.agg [zC,zF, .sl [.agg [.i 2, .i 1, .i 0, .sl []], .agg [.i 1, .i 3, .i 5, .sl [.agg [.i 1, .i 0, .sl []], .agg [.i 3, .i 4, .sl []]]]], .sl [], .sl []], .agg [.i 3, .i 3, .sl [.agg [.i 1, .i 3, .sl []]]], .agg [.i 1, .i 2, .sl []]], .ret [.agg [zC,zF, .sl [.agg [.i 2, .i 1, .i 0, .sl []], .agg [.i 1, .i 3, .i 5, .sl [.agg [.i 1, .i 0, .sl []], .agg [.i 3, .i 4, .sl []]]]], .sl [.agg [.i 3, .i 3, .sl [.agg [.i 1, .i 3, .sl []]], .i 1, .i 2, .sl []]], .sl []], .i 0]),(15,[.agg [zC,zF, .sl [.agg [.i 2, .i 1, .i 0, .sl []], .agg [.i 1, .i 3, .i 5, .sl [.agg [.i 1, .i 0, .sl []], .agg [.i 3, .i 4, .sl []]]]], .sl [.agg [.i 3, .i 3, .sl [.agg [.i 1, .i 3, .sl []]], .i 1, .i 2, .sl []]], .sl []], .agg [.i 1, .i 0, .sl []], .agg [.i 3, .i 3, .sl [.agg [.i 1, .i 3, .sl []]]]], .ret [.agg [.sl [], .sl [], .sl [], .sl [], .sl []], .i 5]),(24,[.agg [zC,zF, .sl [.agg [.i 2, .i 1, .i 0, .sl []], .agg [.i 1, .i 3, .i 5, .sl [.agg [.i 1, .i 0, .sl []], .agg [.i 3, .i 4, .sl []]]]], .sl [.agg [.i 3, .i 3, .sl [.agg [.i 1, .i 3, .sl []]], .i 1, .i 2, .sl []]], .sl []]], .ret [.agg [.sl [.agg [.i 1, .i 3, .i 5, .sl [.agg [.i 1, .i 0, .sl []], .agg [.i 3, .i 4, .sl []]]], .agg [.i 2, .i 1, .i 0, .sl []]], .sl [.sl [.agg [.i 0, .i 3, .i 3, .sl [.agg [.i 1, .i 3, .sl []]]]]]], .i 0]),(35,[.agg [zC,zF, .sl [.agg [.i 2, .i 1, .i 0, .sl []], .agg [.i 1, .i 3, .i 5, .sl [.agg [.i 1, .i 0, .sl []], .agg [.i 3, .i 4, .sl []]]]], .sl [.agg [.i 3, .i 3, .sl [.agg [.i 1, .i 3, .sl []]], .i 1, .i 2, .sl []]], .sl []], .agg [.i 1, .i 0, .sl []], .agg [.i 3, .i 3, .sl [.agg [.i 3, .i 2, .sl []]]]], .ret [.i 3, .i 0])] (fun x h=>by
 simp only[List.mem_cons,List.not_mem_nil,or_false]at h
 rcases h with rfl|rfl|rfl|rfl|rfl
 ·exact Kw
 ·exact Kx
 ·exact Ky
 ·exact Kz
 ·exact KA)
theorem pW:cp Tryz.prog aG Hm 5000 14 []=some (.ret [.bool true]):=af
theorem xg:bt Tryz.prog 14 [] (.ret [.bool true]):=bt.aL mix aM pW
end Go.Proofs.YtlhemmpklhhgoaaGreat
end
section
namespace Go.Proofs.YtlhemmpklhhgoaaGreat
open Go
theorem xh:cp Tryz.prog aG eG 5000 129 [.agg [zC,zF], .agg [.i 3, .i 5, .sl [.agg [.i 1, .i 2, .sl []], .agg [.i 1, .i 1, .sl []]]]]=some (.ret [.bool true, .bool false, .i 0]):=af
theorem yz:bt Tryz.prog 129 [.agg [zC,zF], .agg [.i 3, .i 5, .sl [.agg [.i 1, .i 2, .sl []], .agg [.i 1, .i 1, .sl []]]]] (.ret [.bool true, .bool false, .i 0]):=bt.aL mix aM xh
theorem xi:cp Tryz.prog aG eG 5000 129 [.agg [zC,zF], .agg [.i 3, .i 2, .sl []]]=some (.ret [.bool true, .bool true, .i 0]):=af
theorem yA:bt Tryz.prog 129 [.agg [zC,zF], .agg [.i 3, .i 2, .sl []]] (.ret [.bool true, .bool true, .i 0]):=bt.aL mix aM xi
theorem xj:cp Tryz.prog aG eG 5000 129 [.agg [zC,zF], .agg [.i 3, .i 3, .sl [.agg [.i 1, .i 2, .sl []]]]]=some (.ret [.bool true, .bool false, .i 0]):=af
theorem yB:bt Tryz.prog 129 [.agg [zC,zF], .agg [.i 3, .i 3, .sl [.agg [.i 1, .i 2, .sl []]]]] (.ret [.bool true, .bool false, .i 0]):=bt.aL mix aM xj
theorem xk:cp Tryz.prog aG eG 5000 129 [.agg [zC,zF], .agg [.i 1, .i 1, .sl []]]=some (.ret [.bool true, .bool false, .i 0]):=af
theorem yC:bt Tryz.prog 129 [.agg [zC,zF], .agg [.i 1, .i 1, .sl []]] (.ret [.bool true, .bool false, .i 0]):=bt.aL mix aM xk
theorem xl:cp Tryz.prog aG eG 5000 129 [.agg [zC,zF], .agg [.i 3, .i 4, .sl []]]=some (.ret [.bool true, .bool true, .i 0]):=af
theorem yD:bt Tryz.prog 129 [.agg [zC,zF], .agg [.i 3, .i 4, .sl []]] (.ret [.bool true, .bool true, .i 0]):=bt.aL mix aM xl
theorem xm:cp Tryz.prog aG eG 5000 129 [.agg [zC,zF], .agg [.i 1, .i 3, .sl []]]=some (.ret [.bool true, .bool false, .i 0]):=af
theorem yE:bt Tryz.prog 129 [.agg [zC,zF], .agg [.i 1, .i 3, .sl []]] (.ret [.bool true, .bool false, .i 0]):=bt.aL mix aM xm
def fB:gm Tryz.prog:=gm.of vf [(119,[.agg [zC,zF]], .ret [.i 0]),(129,[.agg [zC,zF], .agg [.i 1, .i 0, .sl []]], .ret [.bool true, .bool false, .i 0]),(129,[.agg [zC,zF], .agg [.i 1, .i 2, .sl []]], .ret [.bool true, .bool false, .i 0]),(129,[.agg [zC,zF], .agg [.i 3, .i 5, .sl [.agg [.i 1, .i 0, .sl []], .agg [.i 1, .i 1, .sl []]]]], .ret [.bool true, .bool false, .i 0]),(129,[.agg [zC,zF], .agg [.i 3, .i 5, .sl [.agg [.i 1, .i 2, .sl []], .agg [.i 3, .i 5, .sl [.agg [.i 1, .i 0, .sl []], .agg [.i 3, .i 4, .sl []]]]]]], .ret [.bool true, .bool false, .i 0]),(129,[.agg [zC,zF], .agg [.i 3, .i 5, .sl [.agg [.i 1, .i 0, .sl []], .agg [.i 3, .i 4, .sl []]]]], .ret [.bool true, .bool false, .i 0]),(129,[.agg [zC,zF], .agg [.i 3, .i 3, .sl [.agg [.i 1, .i 3, .sl []]]]], .ret [.bool true, .bool false, .i 0]),(129,[.agg [zC,zF], .agg [.i 3, .i 3, .sl [.agg [.i 3, .i 2, .sl []]]]], .ret [.bool true, .bool true, .i 0]),(129,[.agg [zC,zF], .agg [.i 3, .i 5, .sl [.agg [.i 1, .i 2, .sl []], .agg [.i 1, .i 1, .sl []]]]], .ret [.bool true, .bool false, .i 0]),(129,[.agg [zC,zF], .agg [.i 3, .i 2, .sl []]], .ret [.bool true, .bool true, .i 0]),(129,[.agg [zC,zF], .agg [.i 3, .i 3, .sl [.agg [.i 1, .i 2, .sl []]]]], .ret [.bool true, .bool false, .i 0]),(129,[.agg [zC,zF], .agg [.i 1, .i 1, .sl []]], .ret [.bool true, .bool false, .i 0]),(129,[.agg [zC,zF], .agg [.i 3, .i 4, .sl []]], .ret [.bool true, .bool true, .i 0]),(129,[.agg [zC,zF], .agg [.i 1, .i 3, .sl []]], .ret [.bool true, .bool false, .i 0])] (fun x h=>by
 simp only[List.mem_cons,List.not_mem_nil,or_false]at h
 rcases h with rfl|rfl|rfl|rfl|rfl|rfl|rfl|rfl|rfl|rfl|rfl|rfl|rfl|rfl
 ·exact qV
 ·exact vh
 ·exact vi
 ·exact vj
 ·exact vk
 ·exact vl
 ·exact vm
 ·exact vn
 ·exact yz
 ·exact yA
 ·exact yB
 ·exact yC
 ·exact yD
 ·exact yE)
def KC:Nat->Bool:=fun g=> !([159,172,173,174,187,135,162,175,176,177,178,179,180,182,183,188,191,192,201,149,164,165,167,111,136,100,79,63,64,112,104,69,65,106]:List Nat).contains g
def Hn:gm Tryz.prog:=gm.of KC [(119,[.agg [zC,zF]], .ret [.i 0]),(129,[.agg [zC,zF], .agg [.i 1, .i 0, .sl []]], .ret [.bool true, .bool false, .i 0]),(129,[.agg [zC,zF], .agg [.i 1, .i 2, .sl []]], .ret [.bool true, .bool false, .i 0]),(129,[.agg [zC,zF], .agg [.i 3, .i 5, .sl [.agg [.i 1, .i 0, .sl []], .agg [.i 1, .i 1, .sl []]]]], .ret [.bool true, .bool false, .i 0]),(129,[.agg [zC,zF], .agg [.i 3, .i 5, .sl [.agg [.i 1, .i 2, .sl []], .agg [.i 3, .i 5, .sl [.agg [.i 1, .i 0, .sl []], .agg [.i 3, .i 4, .sl []]]]]]], .ret [.bool true, .bool false, .i 0]),(129,[.agg [zC,zF], .agg [.i 3, .i 5, .sl [.agg [.i 1, .i 0, .sl []], .agg [.i 3, .i 4, .sl []]]]], .ret [.bool true, .bool false, .i 0]),(129,[.agg [zC,zF], .agg [.i 3, .i 3, .sl [.agg [.i 1, .i 3, .sl []]]]], .ret [.bool true, .bool false, .i 0]),(129,[.agg [zC,zF], .agg [.i 3, .i 3, .sl [.agg [.i 3, .i 2, .sl []]]]], .ret [.bool true, .bool true, .i 0]),(129,[.agg [zC,zF], .agg [.i 3, .i 5, .sl [.agg [.i 1, .i 2, .sl []], .agg [.i 1, .i 1, .sl []]]]], .ret [.bool true, .bool false, .i 0]),(129,[.agg [zC,zF], .agg [.i 3, .i 2, .sl []]], .ret [.bool true, .bool true, .i 0]),(129,[.agg [zC,zF], .agg [.i 3, .i 3, .sl [.agg [.i 1, .i 2, .sl []]]]], .ret [.bool true, .bool false, .i 0]),(129,[.agg [zC,zF], .agg [.i 1, .i 1, .sl []]], .ret [.bool true, .bool false, .i 0]),(129,[.agg [zC,zF], .agg [.i 3, .i 4, .sl []]], .ret [.bool true, .bool true, .i 0]),(129,[.agg [zC,zF], .agg [.i 1, .i 3, .sl []]], .ret [.bool true, .bool false, .i 0])] (fun x h=>by
 simp only[List.mem_cons,List.not_mem_nil,or_false]at h
 rcases h with rfl|rfl|rfl|rfl|rfl|rfl|rfl|rfl|rfl|rfl|rfl|rfl|rfl|rfl
 ·exact qV
 ·exact vh
 ·exact vi
 ·exact vj
 ·exact vk
 ·exact vl
 ·exact vm
 ·exact vn
 ·exact yz
 ·exact yA
 ·exact yB
 ·exact yC
 ·exact yD
 ·exact yE)
end Go.Proofs.YtlhemmpklhhgoaaGreat
end
section
namespace Go.Proofs.YtlhemmpklhhgoaaGreat
open Go
theorem AY:cp Tryz.prog aG fB 5000 38 [.agg [zC,zF, .sl [.agg [.i 2, .i 1, .i 0, .sl []], .agg [.i 1, .i 3, .i 5, .sl [.agg [.i 1, .i 0, .sl []], .agg [.i 3, .i 4, .sl []]]]], .sl [], .sl []], .agg [.i 3, .i 5, .sl [.agg [.i 1, .i 2, .sl []], .agg [.i 1, .i 1, .sl []]]]]=some (.ret [.agg [.i 3, .i 5, .sl [.agg [.i 1, .i 0, .sl []], .agg [.i 3, .i 5, .sl [.agg [.i 1, .i 0, .sl []], .agg [.i 3, .i 4, .sl []]]]]], .i 0]):=af
theorem KF:bt Tryz.prog 38 [.agg [zC,zF, .sl [.agg [.i 2, .i 1, .i 0, .sl []], .agg [.i 1, .i 3, .i 5, .sl [.agg [.i 1, .i 0, .sl []], .agg [.i 3, .i 4, .sl []]]]], .sl [], .sl []], .agg [.i 3, .i 5, .sl [.agg [.i 1, .i 2, .sl []], .agg [.i 1, .i 1, .sl []]]]] (.ret [.agg [.i 3, .i 5, .sl [.agg [.i 1, .i 0, .sl []], .agg [.i 3, .i 5, .sl [.agg [.i 1, .i 0, .sl []], .agg [.i 3, .i 4, .sl []]]]]], .i 0]):=bt.aL mix aM AY
end Go.Proofs.YtlhemmpklhhgoaaGreat
end
section
namespace Go.Proofs.YtlhemmpklhhgoaaGreat
open Go
theorem AZ:cp Tryz.prog aG fB 5000 15 [.agg [zC,zF, .sl [.agg [.i 2, .i 1, .i 0, .sl []], .agg [.i 1, .i 3, .i 5, .sl [.agg [.i 1, .i 0, .sl []], .agg [.i 3, .i 4, .sl []]]]], .sl [.agg [.i 3, .i 3, .sl [.agg [.i 1, .i 3, .sl []]], .i 1, .i 2, .sl []]], .sl []], .agg [.i 1, .i 0, .sl []], .agg [.i 3, .i 2, .sl []]]=some (.ret [.agg [zC,zF, .sl [.agg [.i 2, .i 1, .i 0, .sl []], .agg [.i 1, .i 3, .i 5, .sl [.agg [.i 1, .i 0, .sl []], .agg [.i 3, .i 4, .sl []]]], .agg [.i 0, .i 3, .i 2, .sl []]], .sl [.agg [.i 3, .i 3, .sl [.agg [.i 1, .i 3, .sl []]], .i 1, .i 2, .sl []]], .sl []], .i 0]):=af
theorem KG:bt Tryz.prog 15 [.agg [zC,zF, .sl [.agg [.i 2, .i 1, .i 0, .sl []], .agg [.i 1, .i 3, .i 5, .sl [.agg [.i 1, .i 0, .sl []], .agg [.i 3, .i 4, .sl []]]]], .sl [.agg [.i 3, .i 3, .sl [.agg [.i 1, .i 3, .sl []]], .i 1, .i 2, .sl []]], .sl []], .agg [.i 1, .i 0, .sl []], .agg [.i 3, .i 2, .sl []]] (.ret [.agg [zC,zF, .sl [.agg [.i 2, .i 1, .i 0, .sl []], .agg [.i 1, .i 3, .i 5, .sl [.agg [.i 1, .i 0, .sl []], .agg [.i 3, .i 4, .sl []]]], .agg [.i 0, .i 3, .i 2, .sl []]], .sl [.agg [.i 3, .i 3, .sl [.agg [.i 1, .i 3, .sl []]], .i 1, .i 2, .sl []]], .sl []], .i 0]):=bt.aL mix aM AZ
end Go.Proofs.YtlhemmpklhhgoaaGreat
end
section
namespace Go.Proofs.YtlhemmpklhhgoaaGreat
open Go
theorem A0:cp Tryz.prog aG fB 5000 24 [.agg [zC,zF, .sl [.agg [.i 2, .i 1, .i 0, .sl []], .agg [.i 1, .i 3, .i 5, .sl [.agg [.i 1, .i 0, .sl []], .agg [.i 3, .i 4, .sl []]]], .agg [.i 0, .i 3, .i 2, .sl []]], .sl [.agg [.i 3, .i 3, .sl [.agg [.i 1, .i 3, .sl []]], .i 1, .i 2, .sl []]], .sl []]]=some (.ret [.agg [.sl [.agg [.i 0, .i 3, .i 2, .sl []], .agg [.i 1, .i 3, .i 5, .sl [.agg [.i 3, .i 2, .sl []], .agg [.i 3, .i 4, .sl []]]], .agg [.i 2, .i 3, .i 2, .sl []]], .sl []], .i 0]):=af
theorem KH:bt Tryz.prog 24 [.agg [zC,zF, .sl [.agg [.i 2, .i 1, .i 0, .sl []], .agg [.i 1, .i 3, .i 5, .sl [.agg [.i 1, .i 0, .sl []], .agg [.i 3, .i 4, .sl []]]], .agg [.i 0, .i 3, .i 2, .sl []]], .sl [.agg [.i 3, .i 3, .sl [.agg [.i 1, .i 3, .sl []]], .i 1, .i 2, .sl []]], .sl []]] (.ret [.agg [.sl [.agg [.i 0, .i 3, .i 2, .sl []], .agg [.i 1, .i 3, .i 5, .sl [.agg [.i 3, .i 2, .sl []], .agg [.i 3, .i 4, .sl []]]], .agg [.i 2, .i 3, .i 2, .sl []]], .sl []], .i 0]):=bt.aL mix aM A0
end Go.Proofs.YtlhemmpklhhgoaaGreat
end
section
namespace Go.Proofs.YtlhemmpklhhgoaaGreat
open Go
theorem A1:cp Tryz.prog aG fB 5000 15 [.agg [zC,zF, .sl [.agg [.i 2, .i 1, .i 0, .sl []], .agg [.i 1, .i 3, .i 5, .sl [.agg [.i 1, .i 0, .sl []], .agg [.i 3, .i 4, .sl []]]]], .sl [], .sl []], .agg [.i 1, .i 0, .sl []], .agg [.i 3, .i 3, .sl [.agg [.i 1, .i 2, .sl []]]]]=some (.ret [.agg [.sl [], .sl [], .sl [], .sl [], .sl []], .i 5]):=af
theorem KI:bt Tryz.prog 15 [.agg [zC,zF, .sl [.agg [.i 2, .i 1, .i 0, .sl []], .agg [.i 1, .i 3, .i 5, .sl [.agg [.i 1, .i 0, .sl []], .agg [.i 3, .i 4, .sl []]]]], .sl [], .sl []], .agg [.i 1, .i 0, .sl []], .agg [.i 3, .i 3, .sl [.agg [.i 1, .i 2, .sl []]]]] (.ret [.agg [.sl [], .sl [], .sl [], .sl [], .sl []], .i 5]):=bt.aL mix aM A1
end Go.Proofs.YtlhemmpklhhgoaaGreat
end
section
namespace Go.Proofs.YtlhemmpklhhgoaaGreat
open Go
theorem A2:cp Tryz.prog aG fB 5000 16 [.agg [zC,zF, .sl [.agg [.i 2, .i 1, .i 0, .sl []], .agg [.i 1, .i 3, .i 5, .sl [.agg [.i 1, .i 0, .sl []], .agg [.i 3, .i 4, .sl []]]]], .sl [], .sl []], .agg [.i 1, .i 2, .sl []], .agg [.i 1, .i 0, .sl []]]=some (.ret [.agg [.sl [], .sl [], .sl [], .sl [], .sl []], .i 5]):=af
theorem KJ:bt Tryz.prog 16 [.agg [zC,zF, .sl [.agg [.i 2, .i 1, .i 0, .sl []], .agg [.i 1, .i 3, .i 5, .sl [.agg [.i 1, .i 0, .sl []], .agg [.i 3, .i 4, .sl []]]]], .sl [], .sl []], .agg [.i 1, .i 2, .sl []], .agg [.i 1, .i 0, .sl []]] (.ret [.agg [.sl [], .sl [], .sl [], .sl [], .sl []], .i 5]):=bt.aL mix aM A2
end Go.Proofs.YtlhemmpklhhgoaaGreat
end
section
namespace Go.Proofs.YtlhemmpklhhgoaaGreat
open Go
theorem A3:cp Tryz.prog aG fB 5000 16 [.agg [zC,zF, .sl [.agg [.i 2, .i 1, .i 0, .sl []], .agg [.i 1, .i 3, .i 5, .sl [.agg [.i 1, .i 0, .sl []], .agg [.i 3, .i 4, .sl []]]]], .sl [], .sl []], .agg [.i 1, .i 1, .sl []], .agg [.i 3, .i 4, .sl []]]=some (.ret [.agg [zC,zF, .sl [.agg [.i 2, .i 1, .i 0, .sl []], .agg [.i 1, .i 3, .i 5, .sl [.agg [.i 1, .i 0, .sl []], .agg [.i 3, .i 4, .sl []]]]], .sl [], .sl []], .i 0]):=af
theorem KK:bt Tryz.prog 16 [.agg [zC,zF, .sl [.agg [.i 2, .i 1, .i 0, .sl []], .agg [.i 1, .i 3, .i 5, .sl [.agg [.i 1, .i 0, .sl []], .agg [.i 3, .i 4, .sl []]]]], .sl [], .sl []], .agg [.i 1, .i 1, .sl []], .agg [.i 3, .i 4, .sl []]] (.ret [.agg [zC,zF, .sl [.agg [.i 2, .i 1, .i 0, .sl []], .agg [.i 1, .i 3, .i 5, .sl [.agg [.i 1, .i 0, .sl []], .agg [.i 3, .i 4, .sl []]]]], .sl [], .sl []], .i 0]):=bt.aL mix aM A3
end Go.Proofs.YtlhemmpklhhgoaaGreat
end
section
namespace Go.Proofs.YtlhemmpklhhgoaaGreat
open Go
theorem A4:cp Tryz.prog aG fB 5000 35 [.agg [zC,zF, .sl [.agg [.i 2, .i 1, .i 0, .sl []], .agg [.i 1, .i 3, .i 5, .sl [.agg [.i 1, .i 0, .sl []], .agg [.i 3, .i 4, .sl []]]]], .sl [.agg [.i 3, .i 3, .sl [.agg [.i 1, .i 3, .sl []]], .i 1, .i 2, .sl []]], .sl []], .agg [.i 1, .i 0, .sl []], .agg [.i 1, .i 2, .sl []]]=some (.ret [.i 1, .i 0]):=af
theorem KL:bt Tryz.prog 35 [.agg [zC,zF, .sl [.agg [.i 2, .i 1, .i 0, .sl []], .agg [.i 1, .i 3, .i 5, .sl [.agg [.i 1, .i 0, .sl []], .agg [.i 3, .i 4, .sl []]]]], .sl [.agg [.i 3, .i 3, .sl [.agg [.i 1, .i 3, .sl []]], .i 1, .i 2, .sl []]], .sl []], .agg [.i 1, .i 0, .sl []], .agg [.i 1, .i 2, .sl []]] (.ret [.i 1, .i 0]):=bt.aL mix aM A4
end Go.Proofs.YtlhemmpklhhgoaaGreat
end
section
namespace Go.Proofs.YtlhemmpklhhgoaaGreat
open Go
theorem A5:cp Tryz.prog aG fB 5000 35 [.agg [zC,zF, .sl [.agg [.i 2, .i 1, .i 0, .sl []], .agg [.i 1, .i 3, .i 5, .sl [.agg [.i 1, .i 0, .sl []], .agg [.i 3, .i 4, .sl []]]]], .sl [.agg [.i 3, .i 3, .sl [.agg [.i 1, .i 3, .sl []]], .i 1, .i 2, .sl []]], .sl []], .agg [.i 1, .i 0, .sl []], .agg [.i 3, .i 3, .sl [.agg [.i 1, .i 3, .sl []]]]]=some (.ret [.i 2, .i 0]):=af
theorem KM:bt Tryz.prog 35 [.agg [zC,zF, .sl [.agg [.i 2, .i 1, .i 0, .sl []], .agg [.i 1, .i 3, .i 5, .sl [.agg [.i 1, .i 0, .sl []], .agg [.i 3, .i 4, .sl []]]]], .sl [.agg [.i 3, .i 3, .sl [.agg [.i 1, .i 3, .sl []]], .i 1, .i 2, .sl []]], .sl []], .agg [.i 1, .i 0, .sl []], .agg [.i 3, .i 3, .sl [.agg [.i 1, .i 3, .sl []]]]] (.ret [.i 2, .i 0]):=bt.aL mix aM A5
end Go.Proofs.YtlhemmpklhhgoaaGreat
end
section
namespace Go.Proofs.YtlhemmpklhhgoaaGreat
open Go
theorem A6:cp Tryz.prog aG fB 5000 35 [.agg [zC,zF, .sl [.agg [.i 2, .i 1, .i 0, .sl []], .agg [.i 1, .i 3, .i 5, .sl [.agg [.i 1, .i 0, .sl []], .agg [.i 3, .i 4, .sl []]]]], .sl [], .sl []], .agg [.i 1, .i 1, .sl []], .agg [.i 3, .i 4, .sl []]]=some (.ret [.i 2, .i 0]):=af
theorem KN:bt Tryz.prog 35 [.agg [zC,zF, .sl [.agg [.i 2, .i 1, .i 0, .sl []], .agg [.i 1, .i 3, .i 5, .sl [.agg [.i 1, .i 0, .sl []], .agg [.i 3, .i 4, .sl []]]]], .sl [], .sl []], .agg [.i 1, .i 1, .sl []], .agg [.i 3, .i 4, .sl []]] (.ret [.i 2, .i 0]):=bt.aL mix aM A6
end Go.Proofs.YtlhemmpklhhgoaaGreat
end
section
namespace Go.Proofs.YtlhemmpklhhgoaaGreat
open Go
theorem A7:cp Tryz.prog aG Hn 5000 44 [.agg [zC,zF, .sl [.agg [.i 2, .i 1, .i 0, .sl []], .agg [.i 1, .i 3, .i 5, .sl [.agg [.i 1, .i 0, .sl []], .agg [.i 3, .i 4, .sl []]]]], .sl [.agg [.i 3, .i 3, .sl [.agg [.i 1, .i 3, .sl []]], .i 1, .i 2, .sl []]], .sl []]]=some (.ret [.agg [zC,zF, .sl [.agg [.i 2, .i 1, .i 0, .sl []], .agg [.i 1, .i 3, .i 5, .sl [.agg [.i 1, .i 0, .sl []], .agg [.i 3, .i 4, .sl []]]]], .sl [.agg [.i 3, .i 3, .sl [.agg [.i 1, .i 3, .sl []]], .i 1, .i 2, .sl []]], .sl [.agg [.i 2, .i 1]]], .i 0]):=af
theorem KO:bt Tryz.prog 44 [.agg [zC,zF, .sl [.agg [.i 2, .i 1, .i 0, .sl []], .agg [.i 1, .i 3, .i 5, .sl [.agg [.i 1, .i 0, .sl []], .agg [.i 3, .i 4, .sl []]]]], .sl [.agg [.i 3, .i 3, .sl [.agg [.i 1, .i 3, .sl []]], .i 1, .i 2, .sl []]], .sl []]] (.ret [.agg [zC,zF, .sl [.agg [.i 2, .i 1, .i 0, .sl []], .agg [.i 1, .i 3, .i 5, .sl [.agg [.i 1, .i 0, .sl []], .agg [.i 3, .i 4, .sl []]]]], .sl [.agg [.i 3, .i 3, .sl [.agg [.i 1, .i 3, .sl []]], .i 1, .i 2, .sl []]], .sl [.agg [.i 2, .i 1]]], .i 0]):=bt.aL mix aM A7
end Go.Proofs.YtlhemmpklhhgoaaGreat
end
section
namespace Go.Proofs.YtlhemmpklhhgoaaGreat
open Go
theorem A8:cp Tryz.prog aG fB 5000 15 [.agg [zC,zF, .sl [.agg [.i 2, .i 1, .i 0, .sl []], .agg [.i 1, .i 3, .i 5, .sl [.agg [.i 1, .i 0, .sl []], .agg [.i 3, .i 4, .sl []]]]], .sl [.agg [.i 3, .i 3, .sl [.agg [.i 1, .i 3, .sl []]], .i 1, .i 2, .sl []]], .sl [.agg [.i 2, .i 1]]], .agg [.i 1, .i 3, .sl []], .agg [.i 3, .i 2, .sl []]]=some (.ret [.agg [zC,zF, .sl [.agg [.i 2, .i 1, .i 0, .sl []], .agg [.i 1, .i 3, .i 5, .sl [.agg [.i 1, .i 0, .sl []], .agg [.i 3, .i 4, .sl []]]], .agg [.i 3, .i 3, .i 2, .sl []]], .sl [.agg [.i 3, .i 3, .sl [.agg [.i 1, .i 3, .sl []]], .i 1, .i 2, .sl []]], .sl [.agg [.i 2, .i 1]]], .i 0]):=af
theorem KQ:bt Tryz.prog 15 [.agg [zC,zF, .sl [.agg [.i 2, .i 1, .i 0, .sl []], .agg [.i 1, .i 3, .i 5, .sl [.agg [.i 1, .i 0, .sl []], .agg [.i 3, .i 4, .sl []]]]], .sl [.agg [.i 3, .i 3, .sl [.agg [.i 1, .i 3, .sl []]], .i 1, .i 2, .sl []]], .sl [.agg [.i 2, .i 1]]], .agg [.i 1, .i 3, .sl []], .agg [.i 3, .i 2, .sl []]] (.ret [.agg [zC,zF, .sl [.agg [.i 2, .i 1, .i 0, .sl []], .agg [.i 1, .i 3, .i 5, .sl [.agg [.i 1, .i 0, .sl []], .agg [.i 3, .i 4, .sl []]]], .agg [.i 3, .i 3, .i 2, .sl []]], .sl [.agg [.i 3, .i 3, .sl [.agg [.i 1, .i 3, .sl []]], .i 1, .i 2, .sl []]], .sl [.agg [.i 2, .i 1]]], .i 0]):=bt.aL mix aM A8
end Go.Proofs.YtlhemmpklhhgoaaGreat
end
section
namespace Go.Proofs.YtlhemmpklhhgoaaGreat
open Go
theorem A9:cp Tryz.prog aG fB 5000 45 [.agg [zC,zF, .sl [.agg [.i 2, .i 1, .i 0, .sl []], .agg [.i 1, .i 3, .i 5, .sl [.agg [.i 1, .i 0, .sl []], .agg [.i 3, .i 4, .sl []]]], .agg [.i 3, .i 3, .i 2, .sl []]], .sl [.agg [.i 3, .i 3, .sl [.agg [.i 1, .i 3, .sl []]], .i 1, .i 2, .sl []]], .sl [.agg [.i 2, .i 1]]]]=some (.ret [.agg [zC,zF, .sl [.agg [.i 2, .i 1, .i 0, .sl []], .agg [.i 1, .i 3, .i 5, .sl [.agg [.i 1, .i 0, .sl []], .agg [.i 3, .i 4, .sl []]]]], .sl [.agg [.i 3, .i 3, .sl [.agg [.i 1, .i 3, .sl []]], .i 1, .i 2, .sl []]], .sl []], .i 0]):=af
theorem KR:bt Tryz.prog 45 [.agg [zC,zF, .sl [.agg [.i 2, .i 1, .i 0, .sl []], .agg [.i 1, .i 3, .i 5, .sl [.agg [.i 1, .i 0, .sl []], .agg [.i 3, .i 4, .sl []]]], .agg [.i 3, .i 3, .i 2, .sl []]], .sl [.agg [.i 3, .i 3, .sl [.agg [.i 1, .i 3, .sl []]], .i 1, .i 2, .sl []]], .sl [.agg [.i 2, .i 1]]]] (.ret [.agg [zC,zF, .sl [.agg [.i 2, .i 1, .i 0, .sl []], .agg [.i 1, .i 3, .i 5, .sl [.agg [.i 1, .i 0, .sl []], .agg [.i 3, .i 4, .sl []]]]], .sl [.agg [.i 3, .i 3, .sl [.agg [.i 1, .i 3, .sl []]], .i 1, .i 2, .sl []]], .sl []], .i 0]):=bt.aL mix aM A9
end Go.Proofs.YtlhemmpklhhgoaaGreat
end
section
namespace Go.Proofs.YtlhemmpklhhgoaaGreat
open Go
theorem Ba:cp Tryz.prog aG fB 5000 45 [.agg [zC,zF, .sl [.agg [.i 2, .i 1, .i 0, .sl []], .agg [.i 1, .i 3, .i 5, .sl [.agg [.i 1, .i 0, .sl []], .agg [.i 3, .i 4, .sl []]]]], .sl [.agg [.i 3, .i 3, .sl [.agg [.i 1, .i 3, .sl []]], .i 1, .i 2, .sl []]], .sl []]]=some (.ret [.agg [.sl [], .sl [], .sl [], .sl [], .sl []], .i 6]):=af
theorem KT:bt Tryz.prog 45 [.agg [zC,zF, .sl [.agg [.i 2, .i 1, .i 0, .sl []], .agg [.i 1, .i 3, .i 5, .sl [.agg [.i 1, .i 0, .sl []], .agg [.i 3, .i 4, .sl []]]]], .sl [.agg [.i 3, .i 3, .sl [.agg [.i 1, .i 3, .sl []]], .i 1, .i 2, .sl []]], .sl []]] (.ret [.agg [.sl [], .sl [], .sl [], .sl [], .sl []], .i 6]):=bt.aL mix aM Ba
end Go.Proofs.YtlhemmpklhhgoaaGreat
end
