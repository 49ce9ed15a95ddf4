/-
  A PART OF THE PROOF. Conditions: none.
-/
import Derived.Test.YtbmnikpknlkbkaaGreatEk11
set_option linter.unusedSimpArgs false
set_option linter.unusedVariables false
namespace Go.Proofs.YtbmnikpknlkbkaaGreat
theorem mix:Tryz.prog.follows .mixedOrders=true:=by kernel_rfl
def CY:Tr FD:=
 (.n .no (.n .no (.n (.fn 57 c3 [.tmp 4]) (.n (.fn 70 c7 [.tmp 2]) (.n (.fn 4 HW [.cell 0 47]) (.n (.fn 8 Ih [.cell 4 47]) (.n (.fn 28 IU [.tmp 2]) (.e fun _=> .no) (.e fun _=> .no)) (.n (.fn 9 Jq [.tmp 4]) (.e fun _=> .no) (.e fun _=> .no))) (.n (.fn 8 Iy [.tmp 3]) (.n (.fn 32 Ja []) (.e fun _=> .no) (.e fun _=> .no)) (.n (.fn 19 CD [.tmp 4]) (.e fun _=> .no) (.e fun _=> .no)))) (.n (.fn 30 H7 [.tmp 2]) (.n (.fn 19 Iq [.tmp 2]) (.n (.fn 10 I2 [.tmp 4]) (.e fun _=> .no) (.e fun _=> .no)) (.n (.fn 18 Cm [.tmp 4]) (.e fun _=> .no) (.e fun _=> .no))) (.n (.fn 8 II [.tmp 2]) (.n (.fn 19 Ji [.tmp 4]) (.e fun _=> .no) (.e fun _=> .no)) (.n (.fn 14 CU [.tmp 4]) (.e fun _=> .no) (.e fun _=> .no))))) (.n (.fn 76 HS [.cell 0 38]) (.n (.fn 5 H3 [.cell 2 47]) (.n (.fn 9 Il [.tmp 4]) (.n (.fn 8 IY [.tmp 3]) (.e fun _=> .no) (.e fun _=> .no)) (.n (.fn 15 Ju [.tmp 6]) (.e fun _=> .no) (.e fun _=> .no))) (.n (.fn 121 ID [.tmp 4]) (.n (.fn 168 Je [.tmp 8, .tmp 9]) (.e fun _=> .no) (.e fun _=> .no)) (.n (.fn 14 CL [.tmp 4]) (.e fun _=> .no) (.e fun _=> .no)))) (.n (.fn 35 Ib [.cell 2 69]) (.n (.fn 12 Iu [.tmp 4]) (.n (.fn 49 I6 []) (.e fun _=> .no) (.e fun _=> .no)) (.n (.fn 17 Cu [.tmp 6]) (.e fun _=> .no) (.e fun _=> .no))) (.n .no (.n (.fn 13 Jm [.tmp 4]) (.e fun _=> .no) (.e fun _=> .no)) (.e fun _=> .no))))) (.n (.fn 178 c5 [.tmp 0]) (.n (.fn 35 c9 [.tmp 4]) (.n (.fn 8 HY [.cell 0 38]) (.n (.fn 3 Ij [.tmp 2]) (.n (.fn 18 IW [.tmp 4]) (.e fun _=> .no) (.e fun _=> .no)) (.n (.fn 7 Js [.tmp 2]) (.e fun _=> .no) (.e fun _=> .no))) (.n (.fn 9 IA [.tmp 4]) (.n (.fn 17 Jc [.tmp 4]) (.e fun _=> .no) (.e fun _=> .no)) (.n (.fn 19 CH [.cell 0 167]) (.e fun _=> .no) (.e fun _=> .no)))) (.n (.fn 72 H9 [.tmp 8, .tmp 9]) (.n (.fn 11 Is []) (.n (.fn 18 I4 [.tmp 2]) (.e fun _=> .no) (.e fun _=> .no)) (.n (.fn 39 Cq [.cell 4 4]) (.e fun _=> .no) (.e fun _=> .no))) (.n (.fn 9 IK [.tmp 4]) (.n (.fn 36 Jk [.tmp 2]) (.e fun _=> .no) (.e fun _=> .no)) (.e fun _=> .no)))) (.n (.fn 10 HU [.tmp 2, .tmp 3, .tmp 4]) (.n (.fn 65 H5 [.cell 2 59, .tmp 3]) (.n (.fn 68 Io [.tmp 2]) (.n (.fn 43 I0 [.cell 4 4, .cell 5 24]) (.e fun _=> .no) (.e fun _=> .no)) (.n (.fn 6 Ci [.tmp 2]) (.e fun _=> .no) (.e fun _=> .no))) (.n (.fn 46 IF [.tmp 4]) (.n (.fn 25 Jg [.tmp 2]) (.e fun _=> .no) (.e fun _=> .no)) (.n (.fn 27 CP [.tmp 4]) (.e fun _=> .no) (.e fun _=> .no)))) (.n (.fn 8 Ie [.cell 4 47]) (.n (.Fa 71 Ce Iw 59 11 [.tmp 4, .tmp 5, .tmp 6] [.cell 4 4, .cell 5 40, .cell 6 24] 12 6 6 HP) (.n (.fn 65 I8 []) (.e fun _=> .no) (.e fun _=> .no)) (.n (.fn 8 Cz []) (.e fun _=> .no) (.e fun _=> .no))) (.n (.fn 19 IP [.tmp 4]) (.n (.fn 8 Jo [.tmp 3]) (.e fun _=> .no) (.e fun _=> .no)) (.e fun _=> .no)))))) (.n .no (.n (.fn 80 c4 [.tmp 0]) (.n (.fn 26 c8 [.tmp 4]) (.n (.fn 84 HX [.tmp 4, .tmp 5]) (.n (.fn 41 Ii [.tmp 4, .tmp 5, .tmp 6]) (.n (.fn 15 IV [.tmp 6]) (.e fun _=> .no) (.e fun _=> .no)) (.n (.fn 76 Jr []) (.e fun _=> .no) (.e fun _=> .no))) (.n (.fn 46 Iz [.tmp 2]) (.n (.fn 133 Jb [.tmp 6]) (.e fun _=> .no) (.e fun _=> .no)) (.n (.fn 28 CF [.tmp 8, .tmp 9]) (.e fun _=> .no) (.e fun _=> .no)))) (.n (.fn 15 H8 [.tmp 6]) (.n (.fn 4 Ir [.tmp 2]) (.n (.fn 27 I3 [.tmp 2]) (.e fun _=> .no) (.e fun _=> .no)) (.n (.fn 7 Co [.tmp 3]) (.e fun _=> .no) (.e fun _=> .no))) (.n (.fn 24 IJ [.tmp 4]) (.n (.fn 42 Jj []) (.e fun _=> .no) (.e fun _=> .no)) (.n (.fn 14 CW [.tmp 4]) (.e fun _=> .no) (.e fun _=> .no))))) (.n (.fn 10 HT [.tmp 2, .tmp 3, .tmp 4]) (.n (.fn 16 H4 [.cell 0 38]) (.n (.fn 12 Im [.tmp 3]) (.n (.fn 17 IZ [.tmp 3]) (.e fun _=> .no) (.e fun _=> .no)) (.n (.fn 36 Cg [.tmp 10]) (.e fun _=> .no) (.e fun _=> .no))) (.n (.fn 9 IE []) (.n (.fn 19 Jf [.tmp 2]) (.e fun _=> .no) (.e fun _=> .no)) (.n (.fn 27 CN [.tmp 4]) (.e fun _=> .no) (.e fun _=> .no)))) (.n (.fn 101 Ic [.tmp 2]) (.n (.fn 8 Iv [.tmp 2]) (.n (.fn 56 I7 []) (.e fun _=> .no) (.e fun _=> .no)) (.n (.fn 10 Cw [.tmp 4]) (.e fun _=> .no) (.e fun _=> .no))) (.n (.fn 125 IM []) (.n (.fn 4 Jn [.tmp 2]) (.e fun _=> .no) (.e fun _=> .no)) (.e fun _=> .no))))) (.n (.fn 30 c6 [.tmp 4, .tmp 5]) (.n (.fn 15 HQ [.tmp 2, .tmp 3]) (.n (.fn 45 HZ [.tmp 4]) (.n (.fn 5 Ik [.tmp 2]) (.n (.fn 9 IX [.tmp 4]) (.e fun _=> .no) (.e fun _=> .no)) (.n (.fn 33 Jt [.tmp 2]) (.e fun _=> .no) (.e fun _=> .no))) (.n (.fn 8 IB [.tmp 3]) (.n (.fn 84 Jd [.tmp 8]) (.e fun _=> .no) (.e fun _=> .no)) (.n (.fn 14 CJ [.tmp 4]) (.e fun _=> .no) (.e fun _=> .no)))) (.n (.fn 6 Ia [.tmp 2]) (.n (.fn 61 It [.tmp 2]) (.n (.fn 52 I5 [.tmp 6]) (.e fun _=> .no) (.e fun _=> .no)) (.n (.fn 8 Cs []) (.e fun _=> .no) (.e fun _=> .no))) (.n (.fn 8 IL [.tmp 3]) (.n (.fn 19 Jl [.tmp 4]) (.e fun _=> .no) (.e fun _=> .no)) (.e fun _=> .no)))) (.n (.fn 17 HV [.cell 2 38]) (.n (.fn 50 H6 [.cell 4 59]) (.n (.fn 26 Ip [.tmp 4]) (.n (.fn 9 I1 [.tmp 4]) (.e fun _=> .no) (.e fun _=> .no)) (.n (.fn 27 Ck [.tmp 4]) (.e fun _=> .no) (.e fun _=> .no))) (.n (.fn 134 IG []) (.n (.fn 32 Jh [.tmp 6]) (.e fun _=> .no) (.e fun _=> .no)) (.n (.fn 27 CS [.tmp 4]) (.e fun _=> .no) (.e fun _=> .no)))) (.n (.fn 5 Ig [.cell 2 47]) (.n (.fn 9 Ix [.tmp 4]) (.n (.fn 57 I9 [.tmp 6, .tmp 7]) (.e fun _=> .no) (.e fun _=> .no)) (.n (.fn 14 CB [.tmp 4]) (.e fun _=> .no) (.e fun _=> .no))) (.n (.fn 24 IQ [.tmp 3]) (.n (.fn 4 Jp [.tmp 2]) (.e fun _=> .no) (.e fun _=> .no)) (.e fun _=> .no)))))))
noncomputable def aI:Nat->FD:=CY.get
theorem b4:∀g,(aI g).Ok Tryz.prog g:=
 Tr.om (p:=fun g d=>d.Ok Tryz.prog g) (f:=fun g=>g) CY
   ⟨trivial,⟨trivial,⟨K0,⟨K4,⟨Fv,⟨FM,⟨Gh,(fun _=>trivial),(fun _=>trivial)⟩,⟨GQ,(fun _=>trivial),(fun _=>trivial)⟩⟩,⟨F2,⟨Gy,(fun _=>trivial),(fun _=>trivial)⟩,⟨CE,(fun _=>trivial),(fun _=>trivial)⟩⟩⟩,⟨FE,⟨FV,⟨Gq,(fun _=>trivial),(fun _=>trivial)⟩,⟨Cn,(fun _=>trivial),(fun _=>trivial)⟩⟩,⟨Ga,⟨GI,(fun _=>trivial),(fun _=>trivial)⟩,⟨CV,(fun _=>trivial),(fun _=>trivial)⟩⟩⟩⟩,⟨Fq,⟨Fz,⟨FQ,⟨Gl,(fun _=>trivial),(fun _=>trivial)⟩,⟨GV,(fun _=>trivial),(fun _=>trivial)⟩⟩,⟨F6,⟨GD,(fun _=>trivial),(fun _=>trivial)⟩,⟨CM,(fun _=>trivial),(fun _=>trivial)⟩⟩⟩,⟨FI,⟨FZ,⟨Gu,(fun _=>trivial),(fun _=>trivial)⟩,⟨Cv,(fun _=>trivial),(fun _=>trivial)⟩⟩,⟨trivial,⟨GM,(fun _=>trivial),(fun _=>trivial)⟩,(fun _=>trivial)⟩⟩⟩⟩,⟨K2,⟨K6,⟨Fx,⟨FO,⟨Gj,(fun _=>trivial),(fun _=>trivial)⟩,⟨GS,(fun _=>trivial),(fun _=>trivial)⟩⟩,⟨F4,⟨GA,(fun _=>trivial),(fun _=>trivial)⟩,⟨CI,(fun _=>trivial),(fun _=>trivial)⟩⟩⟩,⟨FG,⟨FX,⟨Gs,(fun _=>trivial),(fun _=>trivial)⟩,⟨Cr,(fun _=>trivial),(fun _=>trivial)⟩⟩,⟨Gc,⟨GK,(fun _=>trivial),(fun _=>trivial)⟩,(fun _=>trivial)⟩⟩⟩,⟨Ft,⟨FB,⟨FT,⟨Gn,(fun _=>trivial),(fun _=>trivial)⟩,⟨Cj,(fun _=>trivial),(fun _=>trivial)⟩⟩,⟨F8,⟨GG,(fun _=>trivial),(fun _=>trivial)⟩,⟨CQ,(fun _=>trivial),(fun _=>trivial)⟩⟩⟩,⟨FK,⟨⟨Cf,Cd⟩,⟨Gw,(fun _=>trivial),(fun _=>trivial)⟩,⟨CA,(fun _=>trivial),(fun _=>trivial)⟩⟩,⟨Gf,⟨GO,(fun _=>trivial),(fun _=>trivial)⟩,(fun _=>trivial)⟩⟩⟩⟩⟩,⟨trivial,⟨K1,⟨K5,⟨Fw,⟨FN,⟨Gi,(fun _=>trivial),(fun _=>trivial)⟩,⟨GR,(fun _=>trivial),(fun _=>trivial)⟩⟩,⟨F3,⟨Gz,(fun _=>trivial),(fun _=>trivial)⟩,⟨CG,(fun _=>trivial),(fun _=>trivial)⟩⟩⟩,⟨FF,⟨FW,⟨Gr,(fun _=>trivial),(fun _=>trivial)⟩,⟨Cp,(fun _=>trivial),(fun _=>trivial)⟩⟩,⟨Gb,⟨GJ,(fun _=>trivial),(fun _=>trivial)⟩,⟨CX,(fun _=>trivial),(fun _=>trivial)⟩⟩⟩⟩,⟨Fs,⟨FA,⟨FR,⟨Gm,(fun _=>trivial),(fun _=>trivial)⟩,⟨Ch,(fun _=>trivial),(fun _=>trivial)⟩⟩,⟨F7,⟨GF,(fun _=>trivial),(fun _=>trivial)⟩,⟨CO,(fun _=>trivial),(fun _=>trivial)⟩⟩⟩,⟨FJ,⟨F0,⟨Gv,(fun _=>trivial),(fun _=>trivial)⟩,⟨Cy,(fun _=>trivial),(fun _=>trivial)⟩⟩,⟨Ge,⟨GN,(fun _=>trivial),(fun _=>trivial)⟩,(fun _=>trivial)⟩⟩⟩⟩,⟨K3,⟨Fo,⟨Fy,⟨FP,⟨Gk,(fun _=>trivial),(fun _=>trivial)⟩,⟨GU,(fun _=>trivial),(fun _=>trivial)⟩⟩,⟨F5,⟨GC,(fun _=>trivial),(fun _=>trivial)⟩,⟨CK,(fun _=>trivial),(fun _=>trivial)⟩⟩⟩,⟨FH,⟨FY,⟨Gt,(fun _=>trivial),(fun _=>trivial)⟩,⟨Ct,(fun _=>trivial),(fun _=>trivial)⟩⟩,⟨Gd,⟨GL,(fun _=>trivial),(fun _=>trivial)⟩,(fun _=>trivial)⟩⟩⟩,⟨Fu,⟨FC,⟨FU,⟨Gp,(fun _=>trivial),(fun _=>trivial)⟩,⟨Cl,(fun _=>trivial),(fun _=>trivial)⟩⟩,⟨F9,⟨GH,(fun _=>trivial),(fun _=>trivial)⟩,⟨CT,(fun _=>trivial),(fun _=>trivial)⟩⟩⟩,⟨FL,⟨F1,⟨Gx,(fun _=>trivial),(fun _=>trivial)⟩,⟨CC,(fun _=>trivial),(fun _=>trivial)⟩⟩,⟨Gg,⟨GP,(fun _=>trivial),(fun _=>trivial)⟩,(fun _=>trivial)⟩⟩⟩⟩⟩⟩
end Go.Proofs.YtbmnikpknlkbkaaGreat
namespace Go.Proofs.YtbmnikpknlkbkaaGreat
abbrev Fix(α:Type){β:Type}(_:β):Type:=α
def gD(K:V->List (Nat×aa)->Prop)(x:Fix (Option dy) K):Prop:=match x with|some (v,Δ,_)=>K v Δ|none=>False
@[go_sem] theorem zf {v:V} {Δ:List (Nat×aa)} {rd:List Nat} {K}:gD K (some (v,Δ,rd))=K v Δ:=propext Iff.rfl
@[go_sem] theorem zg {K}:gD K none=False:=propext Iff.rfl
def V.qT (c:Bool)(v:V):V:=if c=true then v else .a8 []
@[go_sem] theorem CZ (b:Bool):(!!b)=b:=by simp
attribute [go_sem] true_or or_true false_or ne_eq not_false_eq_true decide_true decide_false Bool.not_true Bool.not_false Bool.and_true Bool.true_and Bool.and_false Bool.false_and Bool.or_true Bool.true_or Bool.or_false Bool.false_or beq_self_eq_true Bool.true_eq_false Bool.false_eq_true not_true_eq_false and_true true_and and_false false_and eq_self
@[go_sem] theorem V.C0 (v:V):V.qT true v=v:=rfl
@[go_sem] theorem V.Ad (v:V):V.qT false v= .a8 []:=rfl
def gE(c:Bool)(p:Prop):Prop:=c=true->p
@[congr] theorem xO {c c':Bool} {p p':Prop} (h:c=c') (h2:c'=true->p=p'):gE c p=gE c' p':=by
  subst h;cases c
  ·simp[gE]
  ·simp[gE,h2 rfl]
@[go_sem] theorem zh (p:Prop):gE true p=p:=by simp[gE]
@[go_sem] theorem xP (p:Prop):gE false p=True:=by simp[gE]
@[go_sem] theorem zi (a:Bool):gE a True=True:=by simp[gE]
def gG(v:V)(want:Bool):Option Bool:=
 match v with
 | .d (.bool b)=>some (b==want)
 | .a8 []=>some false
 |_=>none
@[go_sem] theorem zj (b:Bool):gG (.d (.bool b)) true=some b:=by simp[gG]
@[go_sem] theorem xQ (b:Bool):gG (.d (.bool b)) false=some (!b):=by simp[gG]
@[go_sem] theorem C1 (want:Bool):gG (.a8 []) want=some false:=rfl
@[go_sem] theorem Ae (c b want:Bool):gG (V.qT c (.d (.bool b))) want=some (c&&(b==want)):=by cases c<;>simp[gG,V.qT]
@[go_sem] theorem zk (c b e want:Bool):gG (V.qT c (V.qT e (.d (.bool b)))) want=some (c&&e&&(b==want)):=by cases c<;>cases e<;>simp[gG,V.qT]
def gH(c:Bool)(x:Option dy):Option dy:=
 if c=true then(match x with|some (v,[],_)=>some (v,[],[])|_=>none)else some (.a8 [],[],[])
@[congr] theorem wv {c c':Bool} {x x':Option dy} (h:c=c') (h2:c'=true->x=x'):gH c x=gH c' x':=by
  subst h;cases c
  ·rfl
  ·simp[gH,h2 rfl]
def Af(v:V)(rd:List Nat):Option dy:=some (v,[],rd)
@[go_sem] theorem GW (v:V) (rd:List Nat):(some (v,[],rd):Option dy)=Af v rd:=by unfold Af;exact Eq.trans rfl rfl
@[go_sem] theorem zl (c:Bool) (v:V) (rd:List Nat):gH c (Af v rd)=Af (V.qT c v) []:=by cases c<;>rfl
@[go_sem] theorem Ag {v:V} {rd:List Nat} {K}:gD K (Af v rd)=K v []:=propext Iff.rfl
@[go_sem] theorem xR (c:Bool) (v:V) (rd:List Nat):gH c (some (v,[],rd))=some (V.qT c v,[],[]):=by cases c<;>rfl
@[go_sem] theorem wx (x:Option dy):gH false x=some (.a8 [],[],[]):=rfl
@[go_sem] theorem C2 (b x:Bool):jl (.d (.bool b)) (V.qT b (.d (.bool x))) (.d (.bool false))=some (.d (.bool (b&&x))):=by cases b<;>rfl
@[go_sem] theorem DV (b x:Bool):jl (.d (.bool b)) (.d (.bool true)) (V.qT (!b) (.d (.bool x)))=some (.d (.bool (b||x))):=by cases b<;>rfl
@[go_sem] theorem C3 (b x:Bool):jl (.d (.bool (!b))) (.d (.bool true)) (V.qT b (.d (.bool x)))=some (.d (.bool (!b||x))):=by cases b<;>rfl
@[go_sem] theorem Ah (x y:V):jl (.d (.bool true)) x y=some x:=rfl
@[go_sem] theorem zm (x y:V):jl (.d (.bool false)) x y=some y:=rfl
@[reducible] def l9:Op->Bool
  | .move _| .assign _| .pick .. | .load .. | .binOp .. | .unOp .. | .nilCheck _| .convert .. | .makeInterface .. | .makeFunc .. | .fieldAddr .. | .indexAddr .. | .extract .. | .build .. | .index .. | .field .. | .lookup .. =>true
  | .call c=>match c.callee with
    | .builtin .len=>true
    | .builtin .min=>true
    | .builtin .max=>true
    |_=>false
  |_=>false
def uQ(P:Program)(f:V)(args:List V)(o:Nat->aa)(rs:List D):Prop:=
 match f with
 | .func (.func g) first cap=>match aQ o (first++args++cap)with
   |some ds=>c0 P g ds (.ret rs)/\D.fb rs=true
   |none=>False
 |_=>False
def xS(P:Program)(f:V)(args:List V)(o:Nat->aa)(K:V->Prop)(c:Fix Bool (f,args,o,K)):Prop:=
 ∃rs,gE c (uQ P f args o rs)/\K (V.qT c (fP rs))
def uR(P:Program)(g:FuncId)(nx:Nat)(K X:V->(Nat->aa)->Nat->Prop)(args:Fix (List V) (K,X))(o:Fix (Nat->aa) (K,X)):Prop:=m6 P g args o nx K X
def uS(P:Program)(g:FuncId)(o:Nat->aa)(nx:Nat)(K X:V->(Nat->aa)->Nat->Prop)(ds:Fix (List D) (o,nx,K,X))(all:Fix (List V) (o,nx,K,X)):Prop:=
 m5 P g ds o (put o (bD o (V.aB all))) (put o (kq o (V.aB all))) (fun v o'=>K v o' (nx+1)) (fun v o'=>X v o' (nx+1))\/m6 P g all o nx K X
def jP(P:Program)(g:FuncId)(K X:V->(Nat->aa)->Nat->Prop)(s:S)(all:List V)(ds:Fix (Option (List D)) (K,X,s,all)):Prop:=
 match ds with
 |some ds=>uS P g s.o s.nx K X ds all
 |none=>uR P g s.nx K X all s.o
@[go_sem] theorem xT {P:Program} {s:S} {ds:List D} {g:FuncId} {all:List V} {K X}:
 jP P g K X s all (some ds)=uS P g s.o s.nx K X ds all:=propext Iff.rfl
def uT(P:Program)(id:Nat)(K X:V->(Nat->aa)->Nat->Prop)(s:S)(args:Fix (List V) (K,X,s)):Prop:=eo P id args s.o s.nx K X
@[go_sem] theorem xU {P:Program} {s:S} {g:FuncId} {all:List V} {K X}:jP P g K X s all none=uR P g s.nx K X all s.o:=propext Iff.rfl
def nq(P:Program)(K X:V->(Nat->aa)->Nat->Prop)(s:S)(f:Fix V (K,X,s))(args:Fix (List V) (K,X,s)):Prop:=
 match f with
 | .func (.func g) first cap=>jP P g K X s (first++args++cap) (aQ s.o (first++args++cap))
 | .g8 id=>uT P id K X s args
 |_=>False
@[go_sem] theorem Ai {P:Program} {s:S} {id:Nat} {args:List V} {K X}:nq P K X s (.g8 id) args=uT P id K X s args:=propext Iff.rfl
@[go_sem] theorem zn {P:Program} {s:S} {g:FuncId} {first cap args:List V} {K X}:nq P K X s (.func (.func g) first cap) args=jP P g K X s (first++args++cap) (aQ s.o (first++args++cap)):=propext Iff.rfl
def uU(P:Program)(g:FuncId)(o:Nat->aa)(nx:Nat)(K X:V->(Nat->aa)->Nat->Prop)(ds:Fix (List D) (o,nx,K,X))(all:Fix (List V) (o,nx,K,X)):Prop:=
 m5 P g ds o (put o (bD o (V.aB all))) (put o (kq o (V.aB all))) (fun v o'=>K v o' (nx+1)) (fun v o'=>X v o' (nx+1))
def rN(P:Program)(g:FuncId)(K X:V->(Nat->aa)->Nat->Prop)(s:S)(all:List V)(ds:Fix (Option (List D)) (K,X,s,all)):Prop:=
 match ds with
 |some ds=>uU P g s.o s.nx K X ds all
 |none=>False
@[go_sem] theorem zo {P:Program} {s:S} {ds:List D} {g:FuncId} {all:List V} {K X}:rN P g K X s all (some ds)=uU P g s.o s.nx K X ds all:=propext Iff.rfl
def wy(P:Program)(K X:V->(Nat->aa)->Nat->Prop)(s:S)(args:Fix (List V) (K,X,s))(r:Fix (Option (FuncId×V)) (K,X,s)):Prop:=
 match r with
 |some (g,y)=>rN P g K X s (y::args) (aQ s.o (y::args))
 |none=>False
@[go_sem] theorem Aj {P:Program} {s:S} {g:FuncId} {y:V} {args:List V} {K X}:wy P K X s args (some (g,y))=rN P g K X s (y::args) (aQ s.o (y::args)):=propext Iff.rfl
def uV(K:V->Prop)(v:Fix V K):Prop:=
 match v with
 | .d (.iface t y)=>K (.d (.iface t y))
 | .iface t y=>K (.iface t y)
 |_=>False
@[go_sem] theorem GX {t:TypeId} {y:D} {K}:uV K (.d (.iface t y))=K (.d (.iface t y)):=propext Iff.rfl
@[go_sem] theorem GY {t:TypeId} {y:V} {K}:uV K (.iface t y)=K (.iface t y):=propext Iff.rfl
def xV(K:V->List (Nat×aa)->Prop)(id:Nat)(l:Fix (List (D×D)) (K,id)):Prop:=qY id l fun v Δ _=>K v Δ
def wz(K:V->List (Nat×aa)->Prop)(str:Bool)(Ak:Fix (Option dy) (K,str))(left:Fix (Option (Nat×List (D×D))) (K,str)):Prop:=
 match left with
 |some (id,l)=>str=false/\xV K id l
 |none=>gD K Ak
@[go_sem] theorem Al {K} {Ak:Option dy} {id:Nat} {l:List (D×D)}:wz K false Ak (some (id,l))=xV K id l:=propext ⟨fun h=>h.2,fun h=>⟨rfl,h⟩⟩
@[go_sem] theorem Am {K} {str:Bool} {Ak:Option dy}:wz K str Ak none=gD K Ak:=propext Iff.rfl
def rO(P:Program)(X:V->S->Prop)(K:S->Prop)(o:aT)(s:Fix S (X,K,o)):Prop:=
 match o.op with
 | .next x str=>wz (fun v Δ=>K ⟨ay s.env o.dst v,put s.o Δ,s.nx+1⟩) str (iK s.o (s.ev x) str) (iL s.o (s.ev x))
 | .call c=>match c.callee with
   | .value f=>nq P (fun v o' nx'=>K ⟨ay s.env o.dst v,o',nx'⟩) (fun v o' nx'=>X v ⟨s.env,o',nx'⟩) s (s.ev f) (c.args.toList.map s.ev)
   | .invoke r m=>wy P (fun v o' nx'=>K ⟨ay s.env o.dst v,o',nx'⟩) (fun v o' nx'=>X v ⟨s.env,o',nx'⟩) s (c.args.toList.map s.ev) (lA P m (s.ev r))
   |_=>gD (fun v Δ=>K ⟨ay s.env o.dst v,put s.o Δ,s.nx+1⟩) (dG P s s.nx o.op)
 | .panic x=>uV (fun v=>X v s) (s.ev x)
 |op=>gD (fun v Δ=>K ⟨ay s.env o.dst v,put s.o Δ,s.nx+1⟩) (dG P s s.nx op)
@[reducible] def eN:Op->Option (Operand×List Operand)
  | .call c=>match c.callee with
    | .value f=>some (f,c.args.toList)
    |_=>none
  |_=>none
def eO(A B:Prop)(t:Fix Bool (A,B)):Prop:=js t A B
@[go_sem] theorem zp (A B:Prop):eO A B true=A:=lL A B
@[go_sem] theorem xW (A B:Prop):eO A B false=B:=j9 A B
def uW(P:Program)(X:V->S->Prop)(K:S->Prop)(o:aT)(s:S)(f:Operand)(args:List Operand)(c:Fix Bool (X,K,o,s,f,args)):Prop:=
 xS P (s.ev f) (args.map s.ev) s.o (fun v=>K ⟨ay s.env o.dst v,s.o,s.nx+1⟩) c\/eO (rO P X K o s) (K ⟨ay s.env o.dst (.a8 []),s.o,s.nx+1⟩) c
def pR(P:Program)(X:V->S->Prop)(K:S->Prop)(o:aT)(s:S)(c:Fix (Option Bool) (X,K,o,s)):Prop:=
 match c with
 |none=>False
 |some c=>match eN o.op with
  |some (f,args)=>uW P X K o s f args c
  |none=>if l9 o.op=true then gD (fun v _=>K ⟨ay s.env o.dst v,s.o,s.nx+1⟩) (gH c (dG P s s.nx o.op))
   else eO (rO P X K o s) (K ⟨ay s.env o.dst (.a8 []),s.o,s.nx+1⟩) c
def mz(P:Program)(X:V->S->Prop)(K:S->Prop)(l:List aT)(s:Fix S (X,K,l)):Prop:=
 match l with
 |[]=>K s
 |o::l=>match o.gd with
  |none=>rO P X (mz P X K l) o s
  |some (d,want)=>pR P X (mz P X K l) o s (gG (s.env d) want)
def eV(want:Bool)(A B:Prop)(v:Fix V (A,B)):Prop:=
 match v with
 | .d (.bool b)=>js (b==want) A B
 | .a8 []=>B
 |_=>False
@[go_sem] theorem xX (b:Bool) (A B:Prop):eV true A B (.d (.bool b))=eO A B b:=by simp[eV,eO]
@[go_sem] theorem wA (b:Bool) (A B:Prop):eV false A B (.d (.bool b))=eO A B (!b):=by simp[eV,eO]
@[go_sem] theorem An (want:Bool) (A B:Prop):eV want A B (.a8 [])=B:=propext Iff.rfl
@[go_sem] theorem zq (c b want:Bool) (A B:Prop):eV want A B (V.qT c (.d (.bool b)))=eO A B (c&&(b==want)):=by cases c<;>simp[eV,V.qT,eO]
abbrev KD:=V->List (Nat×aa)->List Nat->Prop
abbrev XD:=V->List Nat->List Nat->Prop
def uX(P:Program)(g:FuncId)(K:KD)(X:XD)(o:Nat->aa)(rd:List Nat)(ds:Fix (List D) (K,X,o,rd))(all:Fix (List V) (K,X,o,rd)):Prop:=
 nb P g ds (fun v=>K v (bD o (V.aB all)) rd) (fun v=>K v [] rd) (fun v=>X v [] rd)
def oo(P:Program)(g:FuncId)(K:KD)(X:XD)(o:Nat->aa)(nx fr:Nat)(all:Fix (List V) (K,X,o,nx)):Prop:=gv P g all o nx fr K X
def qU(P:Program)(g:FuncId)(K:KD)(X:XD)(o:Nat->aa)(nx fr:Nat)(rd:List Nat)(ds:Fix (List D) (K,X,o,nx,rd))(all:Fix (List V) (K,X,o,nx,rd)):Prop:=uX P g K X o rd ds all\/oo P g K X o nx fr all
def ma(P:Program)(K:KD)(X:XD)(o:Nat->aa)(nx fr:Nat)(rd:List Nat)(g:FuncId)(all:List V)(ds:Fix (Option (List D)) (K,X,o,nx,rd,all)):Prop:=
 match ds with
 |some ds=>qU P g K X o nx fr rd ds all
 |none=>oo P g K X o nx fr all
@[go_sem] theorem xY {P:Program} {o:Nat->aa} {nx fr:Nat} {rd:List Nat} {ds:List D} {g:FuncId} {all:List V} {K X}:ma P K X o nx fr rd g all (some ds)=qU P g K X o nx fr rd ds all:=propext Iff.rfl
@[go_sem] theorem xZ {P:Program} {o:Nat->aa} {nx fr:Nat} {rd:List Nat} {g:FuncId} {all:List V} {K X}:ma P K X o nx fr rd g all none=oo P g K X o nx fr all:=propext Iff.rfl
def rP(P:Program)(K:KD)(X:XD)(o:Nat->aa)(nx fr:Nat)(rd:Fix (List Nat) (K,X,o,nx))(f:Fix V (K,X,o,nx))(args:Fix (List V) (K,X,o,nx)):Prop:=
 match f with
 | .func (.func g) first cap=>ma P K X o nx fr rd g (first++args++cap) (aQ o (first++args++cap))
 |_=>False
@[go_sem] theorem zr {P:Program} {o:Nat->aa} {nx fr:Nat} {rd:List Nat} {g:FuncId} {first cap args:List V} {K X}:rP P K X o nx fr rd (.func (.func g) first cap) args=ma P K X o nx fr rd g (first++args++cap) (aQ o (first++args++cap)):=propext Iff.rfl
def pS(K:KD)(rd:List Nat)(x:Fix (Option dy) (K,rd)):Prop:=match x with|some (v,Δ,_)=>K v Δ rd|none=>False
@[go_sem] theorem zt {v:V} {Δ:List (Nat×aa)} {r rd:List Nat} {K}:pS K rd (some (v,Δ,r))=K v Δ rd:=propext Iff.rfl
@[go_sem] theorem Ao {v:V} {r rd:List Nat} {K}:pS K rd (Af v r)=K v [] rd:=propext Iff.rfl
def x3(P:Program)(K:KD)(X:XD)(fr:Nat)(o:aT)(s:Fix S (K,X,o)):Prop:=
 match eN o.op with
 |some (f,args)=>rP P K X s.o s.nx fr (ec s o.op) (s.ev f) (args.map s.ev)
 |none=>pS K (ec s o.op) (dG P s fr o.op)
def uY(P:Program)(KB:List Nat->Fp->Prop)(pr:List (List Nat))(l:List aT)(fr:Nat)(fp:Fix Fp (KB,l))(bad ws:Fix (List Nat) (KB,l))(s:Fix S (KB,l)):Prop:=ez P KB pr l fr s fp bad ws
def kK(P:Program)(K:S->Fp->Prop)(KP:V->List Nat->Fp->Prop)(pr:List (List Nat))(l:List aT)(fr:Nat)(s:Fix S (K,KP,l))(fp:Fix Fp (K,KP,l)):Prop:=
 match l with
 |[]=>K s fp
 |o::l=>match o.gd with
  |none=>x3 P (fun v Δ rd=>kK P K KP pr l (fr+1) ⟨ay s.env o.dst v,put s.o Δ,s.nx⟩ (fp++[(rd,Δ.map (·.1))]))
   (fun v ws rd=>uY P (KP v) pr l (fr+1) (fp++[(rd,[])]) [fp.length] (ws++fp.flatMap (·.2)) ⟨ay s.env o.dst .bL,s.o,s.nx⟩) fr o s
  |some (d,want)=>eV want (x3 P (fun v Δ rd=>kK P K KP pr l (fr+1) ⟨ay s.env o.dst v,put s.o Δ,s.nx⟩ (fp++[(rd,Δ.map (·.1))]))
   (fun v ws rd=>uY P (KP v) pr l (fr+1) (fp++[(rd,[])]) [fp.length] (ws++fp.flatMap (·.2)) ⟨ay s.env o.dst .bL,s.o,s.nx⟩) fr o s)
   (kK P K KP pr l (fr+1) ⟨ay s.env o.dst (.a8 []),s.o,s.nx⟩ (fp++[([],[])])) (s.env d)
def zu(pr:List (List Nat))(nx:Nat)(Q:et->S->Prop)(s:Fix S Q)(fp:Fix Fp Q):Prop:=qL pr nx Q s fp
def pT(A B:Prop)(v:Fix V (A,B)):Prop:=
 match v with
 | .d (.bool t)=>eO A B t
 | .cM=>A/\B
 |_=>False
@[go_sem] theorem Ap (A B:Prop):pT A B .cM=(A/\B):=propext Iff.rfl
@[go_sem] theorem zw (t:Bool) (A B:Prop):pT A B (.d (.bool t))=eO A B t:=propext Iff.rfl
def x4{ι:Type}(b:Nat)(st:ι->S)(uZ:ι->Prop)(wB:ι->Nat)(i:ι)(s:S):Prop:=∃j,uZ j/\wB j<wB i/\p4 b s (st j)
def nr(next:S->Prop)(Q:et->S->Prop)(e:et)(s:S):Prop:=match e with| .normal=>next s|e=>Q e s
section
variable {N:S->Prop}{Q:et->S->Prop}{s:S}
@[go_sem ↓] theorem wC:nr N Q .normal s=N s:=propext Iff.rfl
@[go_sem ↓] theorem zx {id:Nat}:nr N Q (.exit id) s=Q (.exit id) s:=propext Iff.rfl
@[go_sem ↓] theorem Aq:nr N Q .ret s=Q .ret s:=propext Iff.rfl
@[go_sem ↓] theorem Ar {v:V}:nr N Q (.aH v) s=Q (.aH v) s:=propext Iff.rfl
end
def u0(b:Nat)(body:(et->S->Prop)->S->Prop)(Q:et->S->Prop)(s:Fix S (body,Q)):Prop:=
 ∃ (ι:Type) (st:ι->S) (uZ:ι->Prop) (wB:ι->Nat) (i0:ι),uZ i0/\p4 b s (st i0)/\∀i,uZ i->body (nr (x4 b st uZ wB i) Q) (st i)
def zy(P:Program)(n:Nat)(rd:Bool)(ps:List Nat)(x y:IC)(Q:et->S->Prop)(s:Fix S (x,y,Q))(g:Fix V (x,y,Q)):Prop:=rd=false/\qs P n g ps x y Q s
def mb(P:Program)(n b:Nat)(rd:Bool)(c:IC)(Q:et->S->Prop)(s:Fix S (c,Q)):Prop:=
 match c with
 | .skip=>Q .normal s
 | .ab l=>mz P (fun v s=>Q (.aH v) s) (Q .normal) l s
 | .ct l pr=>kK P (zu pr (s.nx+l.length) Q) (pE pr l s Q) pr l s.nx s []
 | .seq x y=>mb P n b rd x (j7 (fun s=>mb P n b rd y Q s) Q) s
 | .cond c x y=>pT (mb P n b rd x Q s) (mb P n b rd y Q s) (s.ev c)
 | .block id x=>mb P n b rd x (cV id Q) s
 | .loop x=>u0 b (fun Q s=>mb P n b rd x Q s) Q s
 | .exit id=>Q (.exit id) s
 | .ret=>Q .ret s
 | .sV g ps x y=>zy P n rd ps x y Q s (s.ev g)
 | .bad=>False
section
variable {P:Program}{n b:Nat}{rd:Bool}
theorem gv.mono {P:Program}{g:FuncId}{args:List V}{o:Nat->aa}{nx fr:Nat}{K K':KD}{X X':XD}(hK:∀v Δ r,K v Δ r->K' v Δ r)(hX:∀v w r,X v w r->X' v w r)(h:gv P g args o nx fr K X):gv P g args o nx fr K' X':=by
 obtain⟨rd,Δ,h1,⟨rs,h2,h3⟩|⟨x,h2,h3⟩|⟨v,h2,h3⟩⟩:=h
 ·exact⟨rd,Δ,h1, .inl ⟨rs,h2,hK _ _ _ h3⟩⟩
 ·exact⟨rd,Δ,h1, .inr (.inl ⟨x,h2,hX _ _ _ h3⟩)⟩
 ·exact⟨rd,Δ,h1, .inr (.inr ⟨v,h2,hK _ _ _ h3⟩)⟩
theorem nb.mono {P:Program}{g:FuncId}{ds:List D}{Kf Kb KX Jv Jw Jx:V->Prop}(h1:∀v,Kf v->Jv v)(h2:∀v,Kb v->Jw v)(h3:∀v,KX v->Jx v)(h:nb P g ds Kf Kb KX):nb P g ds Jv Jw Jx:=by
 rcases h with⟨rs,a,b|⟨b,c⟩⟩|⟨x,a,b,c⟩|⟨v,a,b⟩
 ·exact .inl ⟨rs,a, .inl (h1 _ b)⟩
 ·exact .inl ⟨rs,a, .inr ⟨b,h2 _ c⟩⟩
 ·exact .inr (.inl ⟨x,a,b,h3 _ c⟩)
 ·exact .inr (.inr ⟨v,a,h1 _ b⟩)
end
def wD(P:Program)(rs:List ResultVar)(K X:V->(Nat->aa)->Nat->Prop)(e:et)(s:S):Prop:=fG P rs K X e s
section
variable {P:Program}{g:FuncId}{ds:List D}{o:Nat->aa}{nx:Nat}{K X:V->(Nat->aa)->Nat->Prop}{all:List V}
variable {K:KD}{X:XD}{rd:List Nat}{fr:Nat}
end
@[go_sem] theorem C4 (o:Nat->aa):put o []=o:=rfl
@[go_sem] theorem sT (o:Nat->aa) (x:Nat×aa) (l:List (Nat×aa)):put o (x::l)=put (cN o x.1 x.2) l:=rfl
@[go_sem] theorem u1 {α:Type} (f:Nat->α) (i:Nat) (x:α):cN f i x i=x:=by simp
@[go_sem] theorem u3 {α:Type} (f:Nat->α) (i j:Nat) (x:α) (h:j≠i):cN f i x j=f j:=by simp[h]
@[go_sem] theorem wE (v:V) (l:List V):bq (v::l) 0=v:=rfl
@[go_sem] theorem wF (v:V) (l:List V) (i:Nat):bq (v::l) (i+1)=bq l i:=rfl
@[go_sem] theorem x5 (i:Nat):bq [] i= .a8 []:=by simp[bq]
@[go_sem] theorem As {P:Program} {o:Nat->aa} {t:TypeId} {id off:Nat}:gq P o t (.ptr id off)=match o id with
 | .row cs=>match cw P t cs off with
   |some v=>some (v,[],[id])
   |none=>none
 |_=>none:=by unfold gq;exact Eq.trans rfl rfl
@[go_sem] theorem C5 {P:Program} {o:Nat->aa} {t:TypeId} {cs:List D} {off:Nat}:gq P o t (.pp cs off)=match cw P t (cs.map .d) off with
 |some v=>some (v,[],[])
 |none=>none:=by unfold gq;exact Eq.trans rfl rfl
@[go_sem] theorem C6 {P:Program} {o:Nat->aa} {t:TypeId} {id ep i sz off:Nat}:gq P o t (.pe id ep i sz off)=match o id with
 | .arr dB _ gR es=>if ep=dB/\sz=gR then match es[i]? with
  |some e=>match cw P t (e.cells.map .d) off with
   |some v=>some (v,[],[id])
   |none=>none
  |none=>none
   else none
 |_=>none:=by unfold gq;exact Eq.trans rfl rfl
section
variable {P:Program}{o:Nat->aa}{t:TypeId}{op:BinOp}{kx:Bool}
@[go_sem] theorem At {k:IntKind} {a b:Int}:bF P o op t kx (.d (.int k a)) (.d (.int k b))=match pj op k a b with
 |some v=>one v
 |none=>jD P o op t kx (.d (.int k a)) (.d (.int k b)):=by
  simp only[bF,nQ,if_true]
  cases pj op k a b<;>rfl
@[go_sem] theorem Au {a b:Bool} (h:gP P t=true):bF P o .eql t kx (.d (.bool a)) (.d (.bool b))=one (.d (.bool (a==b))):=by simp only[bF,nQ,tW,h,if_true]
@[go_sem] theorem Av {a b:Bool} (h:gP P t=true):bF P o .neq t kx (.d (.bool a)) (.d (.bool b))=one (.d (.bool (a !=b))):=by simp only[bF,nQ,tW,h,if_true]
@[go_sem] theorem Aw {a b:List UInt8}:bF P o .eql t kx (.d (.str a)) (.d (.str b))=one (.d (.bool (a==b))):=by unfold bF;exact Eq.trans rfl rfl
@[go_sem] theorem Ax {a b:List UInt8}:bF P o .neq t kx (.d (.str a)) (.d (.str b))=one (.d (.bool (a !=b))):=by unfold bF;exact Eq.trans rfl rfl
@[go_sem] theorem Ay {a b:List D}:bF P o op t kx (.d (.agg a)) (.d (.agg b))=jD P o op t kx (.d (.agg a)) (.d (.agg b)):=by unfold bF;exact Eq.trans rfl rfl
theorem jw{x:V}{y:V}(h:match y with| .d (.int _ _)| .d (.bool _)| .d (.str _)=>False|_=>True):nQ P op t x y=none:=by
 unfold nQ
 split<;>first|exact h.elim|rfl
@[go_sem] theorem zA {x:V}:bF P o op t kx x .b6=jD P o op t kx x .b6:=by unfold bF;rw[jw trivial]
@[go_sem] theorem zB {x:V}:bF P o op t kx x (.d .dx)=jD P o op t kx x (.d .dx):=by unfold bF;rw[jw trivial]
@[go_sem] theorem zC {x:V}:bF P o op t kx x (.d .fO)=jD P o op t kx x (.d .fO):=by unfold bF;rw[jw trivial]
@[go_sem] theorem zD {x:V}:bF P o op t kx x (.d .fl)=jD P o op t kx x (.d .fl):=by unfold bF;rw[jw trivial]
@[go_sem] theorem zE {x:V}:bF P o op t kx x (.d .eB)=jD P o op t kx x (.d .eB):=by unfold bF;rw[jw trivial]
@[go_sem] theorem C7 {b:Bool}:pk .not (.d (.bool b))=some (.d (.bool !b)):=by unfold pk;exact Eq.trans rfl rfl
@[go_sem] theorem C8:pk .not .cM=some .cM:=by unfold pk;exact Eq.trans rfl rfl
@[go_sem] theorem C9 {k:IntKind} {n:Int}:pk .neg (.d (.int k n))=some (.d (.int k (k.wrap (-n)))):=by unfold pk;exact Eq.trans rfl rfl
end
@[go_sem] theorem D.Az (cs:List D):(D.agg cs).cells=cs:=rfl
@[go_sem] theorem D.AA (k:IntKind) (n:Int):(D.int k n).cells=[.int k n]:=rfl
@[go_sem] theorem D.zF (b:Bool):(D.bool b).cells=[.bool b]:=rfl
@[go_sem] theorem D.AB (b:List UInt8):(D.str b).cells=[.str b]:=rfl
@[go_sem] theorem D.Da (b:List D):(D.sl b).cells=[.sl b]:=rfl
@[go_sem] theorem D.Db (a b:List D):(D.mp a b).cells=[.mp a b]:=rfl
@[go_sem] theorem D.x6 (t:TypeId) (x:D):(D.iface t x).cells=[.iface t x]:=rfl
@[go_sem] theorem D.zG:D.dx.cells=[.dx]:=rfl
@[go_sem] theorem D.zH:D.fO.cells=[.fO]:=rfl
@[go_sem] theorem D.zI:D.fl.cells=[.fl]:=rfl
@[go_sem] theorem D.zJ:D.eB.cells=[.eB]:=rfl
attribute [go_sem] V.ofConst V.bw pj tW jm qw m4 gY dE dF jL dc fH jn jo jq nR ea tX fC cJ aQ cw nv jT iD V.cells D.put bD V.ids V.aB fP D.fb D.flat R.flat
attribute [go_sem] p6 List.take_succ_cons List.take_zero List.take_nil List.drop_zero List.drop_succ_cons List.drop_nil
attribute [go_sem] List.map_cons List.map_nil List.length_cons List.length_nil List.cons_append List.nil_append List.append_nil List.getElem?_cons_zero List.getElem?_cons_succ Option.bind_some Option.bind_none Option.map_some Option.map_none aa.aM aa.aN
section
variable {P:Program}{n b:Nat}{rd:Bool}{Q:et->S->Prop}{s:S}
@[go_sem] theorem Dc:mb P n b rd .skip Q s=Q .normal s:=propext Iff.rfl
@[go_sem] theorem DW {l:List aT}:mb P n b rd (.ab l) Q s=mz P (fun v s=>Q (.aH v) s) (Q .normal) l s:=propext Iff.rfl
@[go_sem] theorem DX {l:List aT} {pr:List (List Nat)}:mb P n b rd (.ct l pr) Q s=kK P (zu pr (s.nx+l.length) Q) (pE pr l s Q) pr l s.nx s []:=propext Iff.rfl
@[go_sem] theorem DY {x y:IC}:mb P n b rd (.seq x y) Q s=mb P n b rd x (j7 (fun s=>mb P n b rd y Q s) Q) s:=propext Iff.rfl
@[go_sem] theorem Dd {c:Operand} {x y:IC}:mb P n b rd (.cond c x y) Q s=pT (mb P n b rd x Q s) (mb P n b rd y Q s) (s.ev c):=propext Iff.rfl
@[go_sem] theorem AD {id:Nat} {x:IC}:mb P n b rd (.block id x) Q s=mb P n b rd x (cV id Q) s:=propext Iff.rfl
@[go_sem] theorem De {x:IC}:mb P n b rd (.loop x) Q s=u0 b (fun Q s=>mb P n b rd x Q s) Q s:=propext Iff.rfl
@[go_sem] theorem Df {id:Nat}:mb P n b rd (.exit id) Q s=Q (.exit id) s:=propext Iff.rfl
@[go_sem] theorem DZ:mb P n b rd .ret Q s=Q .ret s:=propext Iff.rfl
@[go_sem] theorem D0 {g:Operand} {ps:List Nat} {x y:IC}:mb P n b rd (.sV g ps x y) Q s=zy P n rd ps x y Q s (s.ev g):=propext Iff.rfl
@[go_sem] theorem Dg {X:V->S->Prop} {K:S->Prop}:mz P X K [] s=K s:=propext Iff.rfl
@[go_sem] theorem AE {X:V->S->Prop} {K:S->Prop} {d:Option Nat} {op:Op} {l:List aT}:mz P X K (⟨d,op,none⟩::l) s=rO P X (mz P X K l) ⟨d,op,none⟩ s:=propext Iff.rfl
@[go_sem] theorem AF {X:V->S->Prop} {K:S->Prop} {d:Option Nat} {op:Op} {g:Nat} {w:Bool} {l:List aT}:mz P X K (⟨d,op,some (g,w)⟩::l) s=pR P X (mz P X K l) ⟨d,op,some (g,w)⟩ s (gG (s.env g) w):=propext Iff.rfl
variable {X:V->S->Prop}{K:S->Prop}{d:Option Nat}{op:Op}{g:Option (Nat×Bool)}{f:Operand}{args:Array Operand}{ts:Array TypeId}{c:Bool}
@[reducible] def AG:Op->Bool
  | .call c=>match c.callee with
    | .value _=>true
    | .invoke .. =>true
    |_=>false
  | .panic _=>true
  | .next .. =>true
  |_=>false
@[go_sem] theorem GZ (h:AG op=false):rO P X K ⟨d,op,g⟩ s=gD (fun v Δ=>K ⟨ay s.env d v,put s.o Δ,s.nx+1⟩) (dG P s s.nx op):=by
  unfold rO
  cases op with
  |call c=>
   obtain⟨vO,args,ts⟩:=c
   cases vO with
   |value f=>simp[AG]at h
   |invoke r m=>simp[AG]at h
   |_=>rfl
  |panic x=>simp[AG]at h
  |next x str=>simp[AG]at h
  |_=>rfl
@[go_sem] theorem Dh {x:Operand} {str:Bool}:rO P X K ⟨d, .next x str,g⟩ s=wz (fun v Δ=>K ⟨ay s.env d v,put s.o Δ,s.nx+1⟩) str (iK s.o (s.ev x) str) (iL s.o (s.ev x)):=propext Iff.rfl
@[go_sem] theorem Di:rO P X K ⟨d, .call ⟨.value f,args,ts⟩,g⟩ s=nq P (fun v o' nx'=>K ⟨ay s.env d v,o',nx'⟩) (fun v o' nx'=>X v ⟨s.env,o',nx'⟩) s (s.ev f) (args.toList.map s.ev):=propext Iff.rfl
@[go_sem] theorem zK {m:String}:rO P X K ⟨d, .call ⟨.invoke f m,args,ts⟩,g⟩ s=wy P (fun v o' nx'=>K ⟨ay s.env d v,o',nx'⟩) (fun v o' nx'=>X v ⟨s.env,o',nx'⟩) s (args.toList.map s.ev) (lA P m (s.ev f)):=propext Iff.rfl
@[go_sem] theorem AH:rO P X K ⟨d, .panic f,g⟩ s=uV (fun v=>X v s) (s.ev f):=propext Iff.rfl
@[go_sem] theorem AJ:pR P X K ⟨d, .call ⟨.value f,args,ts⟩,g⟩ s (some c)=uW P X K ⟨d, .call ⟨.value f,args,ts⟩,g⟩ s f args.toList c:=propext Iff.rfl
@[go_sem] theorem AK (h:l9 op=true):pR P X K ⟨d,op,g⟩ s (some c)=gD (fun v _=>K ⟨ay s.env d v,s.o,s.nx+1⟩) (gH c (dG P s s.nx op)):=by
  have h2:eN op=none:=by
   cases hc:eN op with
   |none=>rfl
   |some x=>
    exfalso
    unfold eN at hc
    split at hc
    ·split at hc
     ·rename_i hv;simp[l9,hv]at h
     ·cases hc
    ·cases hc
  simp only[pR,h2,h,if_true]
@[go_sem] theorem AL (h:l9 op=false) (h2:eN op=none):pR P X K ⟨d,op,g⟩ s (some c)=eO (rO P X K ⟨d,op,g⟩ s) (K ⟨ay s.env d (.a8 []),s.o,s.nx+1⟩) c:=by
  simp[pR,h2,h]
@[go_sem] theorem zL {l:List Operand}:uW P X K ⟨d,op,g⟩ s f l false=K ⟨ay s.env d (.a8 []),s.o,s.nx+1⟩:=by
  refine propext ⟨fun h=> ?_,fun h=> .inr ⟨(fun e=>by cases e),fun _=>h⟩⟩
  rcases h with⟨rs,_,h⟩|h
  ·exact h
  ·exact h.2 rfl
@[go_sem] theorem AM {l:List Operand} (hl:args.toList=l):uW P X K ⟨d, .call ⟨.value f,args,ts⟩,g⟩ s f l true=rO P X K ⟨d, .call ⟨.value f,args,ts⟩,g⟩ s:=by
  subst hl
  refine propext ⟨fun h=> ?_,fun h=> .inr ⟨fun _=>h,(fun e=>by cases e)⟩⟩
  rcases h with⟨rs,h1,h⟩|h
  ·have h1:=h1 rfl
   unfold uQ at h1
   unfold rO nq jP
   simp only
   split at h1
   ·rename_i fv gg first cap hf
    simp only[hf]
    split at h1
    ·rename_i ds dg
     simp only[dg]
     exact .inl ⟨.ret rs,h1.1, .inr (.inl ⟨h1.2,h⟩)⟩
    ·exact h1.elim
   ·exact h1.elim
  ·exact h.1 rfl
variable {KV:KD}{XV:XD}
@[go_sem] theorem Dj {fr:Nat}:x3 P KV XV fr ⟨d, .call ⟨.value f,args,ts⟩,g⟩ s=rP P KV XV s.o s.nx fr (ec s (.call ⟨.value f,args,ts⟩)) (s.ev f) (args.toList.map s.ev):=propext Iff.rfl
@[go_sem] theorem G0 {fr:Nat} (h2:eN op=none):x3 P KV XV fr ⟨d,op,g⟩ s=pS KV (ec s op) (dG P s fr op):=by simp[x3,h2]
variable {KS:S->Prop}
@[go_sem ↓] theorem wG:j7 KS Q .normal s=KS s:=propext Iff.rfl
@[go_sem ↓] theorem zM {id:Nat}:j7 KS Q (.exit id) s=Q (.exit id) s:=propext Iff.rfl
@[go_sem ↓] theorem AO:j7 KS Q .ret s=Q .ret s:=propext Iff.rfl
@[go_sem ↓] theorem AP {v:V}:j7 KS Q (.aH v) s=Q (.aH v) s:=propext Iff.rfl
@[go_sem ↓] theorem vn {id:Nat}:cV id Q .normal s=Q .normal s:=propext Iff.rfl
@[go_sem ↓] theorem x7 {id:Nat}:cV id Q (.exit id) s=Q .normal s:=by simp[cV]
@[go_sem ↓] theorem wH {id j:Nat} (h:j≠id):cV id Q (.exit j) s=Q (.exit j) s:=by simp[cV,h]
@[go_sem ↓] theorem zN {id:Nat}:cV id Q .ret s=Q .ret s:=propext Iff.rfl
@[go_sem ↓] theorem zO {id:Nat} {v:V}:cV id Q (.aH v) s=Q (.aH v) s:=propext Iff.rfl
def wI(out:R)(x:Option (List D)):Prop:=match x with|some ds=>out= .ret ds|none=>False
@[go_sem] theorem AQ {out:R} {ds:List D}:wI out (some ds)=(out= .ret ds):=propext Iff.rfl
def zP(out:R)(x:Option D):Prop:=match x with|some d=>out= .aH d|none=>False
@[go_sem] theorem AR {out:R} {d:D}:zP out (some d)=(out= .aH d):=propext Iff.rfl
def wJ(out:R)(o:Nat->aa)(x:Option (List V)):Prop:=match x with|some vs=>wI out (aQ o vs)|none=>False
@[go_sem] theorem AS {out:R} {o:Nat->aa} {vs:List V}:wJ out o (some vs)=wI out (aQ o vs):=propext Iff.rfl
variable {rs:List ResultVar}{out:R}
@[go_sem ↓] theorem AU:sr P rs out .ret s=wJ out s.o (fC P s rs):=propext Iff.rfl
@[go_sem ↓] theorem wK:sr P rs out .normal s=wJ out s.o (fC P s rs):=propext Iff.rfl
@[go_sem ↓] theorem AV {v:V}:sr P rs out (.aH v) s=zP out (cJ s.o v):=propext Iff.rfl
def pU(K:V->(Nat->aa)->Nat->Prop)(o:Nat->aa)(nx:Nat)(x:Fix (Option (List V)) (K,o,nx)):Prop:=match x with
 |some [v]=>K v o nx
 |some vs=>K (.a8 vs) o nx
 |none=>False
@[go_sem] theorem Dk {K:V->(Nat->aa)->Nat->Prop} {o:Nat->aa} {nx:Nat} {v:V}:pU K o nx (some [v])=K v o nx:=propext Iff.rfl
@[go_sem] theorem Dl {K:V->(Nat->aa)->Nat->Prop} {o:Nat->aa} {nx:Nat}:pU K o nx (some [])=K (.a8 []) o nx:=propext Iff.rfl
@[go_sem] theorem Dm {K:V->(Nat->aa)->Nat->Prop} {o:Nat->aa} {nx:Nat} {v u:V} {l:List V}:pU K o nx (some (v::u::l))=K (.a8 (v::u::l)) o nx:=propext Iff.rfl
theorem rQ{K X:V->(Nat->aa)->Nat->Prop}:fG P rs K X .ret s=pU K s.o s.nx (fC P s rs):=by
 unfold fG pU
 cases fC P s rs with
 |none=>rfl
 |some l=>match l with
  |[]=>rfl
  |[_]=>rfl
  |_::_::_=>rfl
@[go_sem ↓] theorem Dn {K X:V->(Nat->aa)->Nat->Prop}:wD P rs K X .ret s=pU K s.o s.nx (fC P s rs):=rQ
@[go_sem ↓] theorem x8 {K X:V->(Nat->aa)->Nat->Prop}:wD P rs K X .normal s=pU K s.o s.nx (fC P s rs):=(rQ (X:=X):fG P rs K X .ret s=_)
@[go_sem ↓] theorem Dp {K X:V->(Nat->aa)->Nat->Prop} {v:V}:wD P rs K X (.aH v) s=X v s.o s.nx:=propext Iff.rfl
variable {KE:S->Fp->Prop}{KP:V->List Nat->Fp->Prop}{pr:List (List Nat)}{fr:Nat}{fp:Fp}
@[go_sem] theorem Dq:kK P KE KP pr [] fr s fp=KE s fp:=propext Iff.rfl
@[go_sem] theorem AW {d:Option Nat} {op:Op} {l:List aT}:kK P KE KP pr (⟨d,op,none⟩::l) fr s fp=
 x3 P (fun v Δ rd=>kK P KE KP pr l (fr+1) ⟨ay s.env d v,put s.o Δ,s.nx⟩ (fp++[(rd,Δ.map (·.1))]))
  (fun v ws rd=>uY P (KP v) pr l (fr+1) (fp++[(rd,[])]) [fp.length] (ws++fp.flatMap (·.2)) ⟨ay s.env d .bL,s.o,s.nx⟩) fr ⟨d,op,none⟩ s:=propext Iff.rfl
@[go_sem] theorem AX {d:Option Nat} {op:Op} {g:Nat} {w:Bool} {l:List aT}:kK P KE KP pr (⟨d,op,some (g,w)⟩::l) fr s fp=
 eV w (x3 P (fun v Δ rd=>kK P KE KP pr l (fr+1) ⟨ay s.env d v,put s.o Δ,s.nx⟩ (fp++[(rd,Δ.map (·.1))]))
  (fun v ws rd=>uY P (KP v) pr l (fr+1) (fp++[(rd,[])]) [fp.length] (ws++fp.flatMap (·.2)) ⟨ay s.env d .bL,s.o,s.nx⟩) fr ⟨d,op,some (g,w)⟩ s)
   (kK P KE KP pr l (fr+1) ⟨ay s.env d (.a8 []),s.o,s.nx⟩ (fp++[([],[])])) (s.env g):=propext Iff.rfl
end
attribute [go_sem] AG eN l9 dG one fI ay S.ev uQ
attribute [irreducible] mb mz rO pR uW nq jP rN uU wy xS uS uR gD uV eO eV uX qU oo ma rP pS x3 kK uY zy uT wD pU zu pT u0 wI zP wJ nr x4
end Go.Proofs.YtbmnikpknlkbkaaGreat
namespace Go.Proofs.YtbmnikpknlkbkaaGreat
def aa.x9:aa->Bool
 | .ko .. =>true
 |_=>false
def wL(o:Nat->aa)(v:V):Option D:=if v.ids.all (fun id=>(o id).x9)=true then cJ o v else none
section
variable (ρ:Nat->Option Nat)(o' o:Nat->aa)(nx:Nat)
mutual
def kj:V->V->Prop
 | .bL,_=>True
 | .d x,v=>wL o v=some x
 | .b6,v=>v= .b6
 | .agg cs,v=>match v with| .agg ds=>jQ cs ds|_=>False
 | .a8 cs,v=>match v with| .a8 ds=>jQ cs ds|_=>False
 | .ptr bt pV,v=>match v with| .ptr id off=>ρ bt=some id/\pV=off/\bt<nx|_=>False
 | .osl bt dB,v=>bt<nx/\(o' bt).aN=some dB/\match v with
   | .b6=>ρ bt=none
   | .osl id ep=>ρ bt=some id/\(o id).aN=some ep
   |_=>False
 | .pe bt dB i' gR pV,v=>bt<nx/\(o' bt).aN=some dB/\match v with
   | .pe id ep i sz off=>ρ bt=some id/\(o id).aN=some ep/\i'=i/\gR=sz/\pV=off
   |_=>False
 | .pp cs off,v=>v= .pp cs off
 | .func fn a b,v=>match v with| .func K7 a' b'=>fn=K7/\jQ a a'/\jQ b b'|_=>False
 | .iface t x,v=>match v with| .iface t' y=>t=t'/\kj x y|_=>False
 | .iA es,v=>v= .iA es
 | .mg bt pV n',v=>match v with| .mg id off n=>ρ bt=some id/\pV=off/\n'=n/\bt<nx|_=>False
 | .mp bt,v=>match v with| .mp id=>ρ bt=some id/\bt<nx|_=>False
 | .cM,v=>v= .cM\/∃b,v= .d (.bool b)
 | .g8 bt,v=>match v with| .g8 id=>ρ bt=some id/\bt<nx|_=>False
def jQ:List V->List V->Prop
 |[],vs=>vs=[]
 |x::xs,vs=>match vs with|v::vs=>kj x v/\jQ xs vs|[]=>False
end
def gI(bt:Nat):Prop:=
 match o' bt with
 | .no=>True
 | .row cs'=>match ρ bt with
   |some id=>match o id with| .row cs=>jQ ρ o' o nx cs' cs|_=>False
   |none=>False
 | .arr _ ty sz es=>match ρ bt with
   |some id=>match o id with| .arr _ Fk gR es'=>ty=Fk/\sz=gR/\es=es'|_=>False
   |none=>es=[]/\0<sz
 | .ko _ es=>match ρ bt with
   |some id=>match o id with| .ko _ es'=>es=es'|_=>False
   |none=>False
 | .map kt vt l=>match ρ bt with
   |some id=>match o id with| .map vh vi l'=>kt=vh/\vt=vi/\l=l'|_=>False
   |none=>False
 | .loop nf n env ps a b st pd=>match ρ bt with
   |some id=>match o id with| .loop B3 n' G1 K8 a' b' st' pd'=>nf=B3/\n=n'/\ps=K8/\a=a'/\b=b'/\st=st'/\pd=pd'/\jQ ρ o' o nx env G1|_=>False
   |none=>False
 | .dA l=>match ρ bt with
   |some id=>match o id with| .dA l'=>l=l'|_=>False
   |none=>False
 | .kX l last=>match ρ bt with
   |some id=>match o id with| .kX l' u4=>l=l'/\(last=none\/last=u4)|_=>False
   |none=>False
 | .ot s pos=>match ρ bt with
   |some id=>match o id with| .ot s' pos'=>s=s'/\pos=pos'|_=>False
   |none=>False
end
section
variable {M M':Nat->Prop}{φ ai:Place}{H H':Hp}{w:World}{ρ:Nat->Option Nat}{nx:Nat}
theorem u5(hH:af M φ H w){v:V}{x:D}{val:Value}(h:wL H.o v=some x)(hd:V.den (ad M φ H) φ H w v val):D.den (ad M φ H) w x val:=by
 unfold wL at h
 split at h
 ·rename_i ha
  refine dp hH (o:=H.o) v x val (fun id ah=> ?_) h hd
  have:=List.all_eq_true.1 ha id ah
  cases ho:H.o id<;>rw[ho]at this<;>simp[aa.x9]at this
  rfl
 ·cases h
mutual
theorem kV(hH:af M φ H w)(dV:∀b,aS w b-> ¬ad M φ H b-> ¬ad M' ai H' b)(bG:∀id,ai id=match ρ id with|some j=>φ j|none=> .slice none 0 0)
 (b5:∀id,id<nx->H'.us id) (aL:∀bt id,ρ bt=some id->(H'.o bt).aM=true->(H.o id).aM=true):
 ∀ (x v:V) (val:Value),kj ρ H'.o H.o nx x v->V.den (ad M φ H) φ H w v val->V.den (ad M' ai H') ai H' w x val
 | .bL,_,_,_,_=>trivial
 | .d x,v,val,h,hd=>D.aq (fun b hb hn=>⟨rfl,dV b hb hn⟩) x val (u5 hH (by simpa[kj]using h) hd)
 | .b6,v,val,h,hd=>by simp only[kj]at h;subst h;exact hd
 | .agg cs,v,val,h,hd=>by
   unfold kj at h
   split at h
   ·obtain⟨a,rfl,hd,hf⟩:=hd
    exact⟨a,rfl,fj hH dV bG b5 aL _ _ _ h hd,hf⟩
   ·exact h.elim
 | .a8 cs,v,val,h,hd=>by
   unfold kj at h
   split at h
   ·obtain⟨a,rfl,hd⟩:=hd
    exact⟨a,rfl,fj hH dV bG b5 aL _ _ _ h hd⟩
   ·exact h.elim
 | .ptr bt pV,v,val,h,hd=>by
   unfold kj at h
   split at h
   ·obtain⟨h1,rfl,h3⟩:=h
    obtain⟨g1,_,g3⟩:=hd
    refine⟨g1,b5 _ h3,fun hr=> ?_⟩
    obtain⟨b,k1,k2⟩:=g3 (aL _ _ h1 hr)
    exact⟨b,by rw[bG,h1];exact k1,k2⟩
   ·exact h.elim
 | .osl bt dB,v,val,h,hd=>by
   unfold kj at h
   obtain⟨h1,h2,h3⟩:=h
   split at h3
   ·simp only[V.den]at hd;subst hd
    refine⟨rfl,b5 _ h1,fun e he=> ?_⟩
    rw[h2]at he;injection he with he;subst he
    exact⟨Nat.le_refl _,fun _=>by rw[bG,h3]⟩
   ·obtain⟨g1,_,g3⟩:=hd
    refine⟨g1,b5 _ h1,fun e he=> ?_⟩
    rw[h2]at he;injection he with he;subst he
    exact⟨Nat.le_refl _,fun _=>by rw[bG,h3.1];exact(g3 _ h3.2).2 rfl⟩
   ·exact h3.elim
 | .pe bt dB i' gR pV,v,val,h,hd=>by
   unfold kj at h
   obtain⟨h1,h2,h3⟩:=h
   split at h3
   ·obtain⟨h3,h4,rfl,rfl,rfl⟩:=h3
    obtain⟨g1,_,g3⟩:=hd
    refine⟨g1,b5 _ h1,fun e he=> ?_⟩
    rw[h2]at he;injection he with he;subst he
    refine⟨Nat.le_refl _,fun _=> ?_⟩
    obtain⟨b,n,c,k1,k2⟩:=(g3 _ h4).2 rfl
    exact⟨b,n,c,by rw[bG,h3];exact k1,k2⟩
   ·exact h3.elim
 | .pp cs off,v,val,h,hd=>by
   simp only[kj]at h;subst h
   obtain⟨a,ev,h1,h2,h3,h5,h4⟩:=hd
   exact⟨a,ev,h1,h2,D.aw (fun b hb hn=>⟨rfl,dV b hb hn⟩) cs ev h3,h5,h4.mono (fun b hb hn=>⟨rfl,dV b hb hn⟩)⟩
 | .func fn a b,v,val,h,hd=>by
   unfold kj at h
   split at h
   ·obtain⟨rfl,h1,h2⟩:=h
    obtain⟨f,c,rfl,k1,k2⟩:=hd
    exact⟨f,c,rfl,fj hH dV bG b5 aL _ _ _ h1 k1,fj hH dV bG b5 aL _ _ _ h2 k2⟩
   ·exact h.elim
 | .iface t x,v,val,h,hd=>by
   unfold kj at h
   split at h
   ·obtain⟨rfl,h1⟩:=h
    obtain⟨u,rfl,k1⟩:=hd
    exact⟨u,rfl,kV hH dV bG b5 aL _ _ _ h1 k1⟩
   ·exact h.elim
 | .iA es,v,val,h,hd=>by
   simp only[kj]at h;subst h
   exact⟨D.aq (fun b hb hn=>⟨rfl,dV b hb hn⟩) (.sl es) val hd.1,hd.2⟩
 | .mg bt pV n',v,val,h,hd=>by
   unfold kj at h
   split at h
   ·obtain⟨h1,rfl,rfl,h3⟩:=h
    obtain⟨g1,_,g3⟩:=hd
    refine⟨g1,b5 _ h3,fun hr=> ?_⟩
    obtain⟨b,k1,k2⟩:=g3 (aL _ _ h1 hr)
    exact⟨b,by rw[bG,h1];exact k1,k2⟩
   ·exact h.elim
 | .mp bt,v,val,h,hd=>by
   unfold kj at h
   split at h
   ·obtain⟨h1,h3⟩:=h
    obtain⟨g1,_,g3⟩:=hd
    exact⟨g1,b5 _ h3,fun hr=>by rw[bG,h1];exact g3 (aL _ _ h1 hr)⟩
   ·exact h.elim
 | .cM,v,val,h,hd=>by
   unfold kj at h
   rcases h with rfl|⟨b,rfl⟩
   ·exact hd
   ·exact⟨b,hd⟩
 | .g8 bt,v,val,h,hd=>by
   unfold kj at h
   split at h
   ·obtain⟨h1,h3⟩:=h
    obtain⟨g1,_,g3⟩:=hd
    refine⟨g1,b5 _ h3,fun hr=> ?_⟩
    obtain⟨b,k1,k2⟩:=g3 (aL _ _ h1 hr)
    exact⟨b,by rw[bG,h1];exact k1,k2⟩
   ·exact h.elim
theorem fj(hH:af M φ H w)(dV:∀b,aS w b-> ¬ad M φ H b-> ¬ad M' ai H' b)(bG:∀id,ai id=match ρ id with|some j=>φ j|none=> .slice none 0 0)
 (b5:∀id,id<nx->H'.us id) (aL:∀bt id,ρ bt=some id->(H'.o bt).aM=true->(H.o id).aM=true):
 ∀ (xs vs:List V) (vals:List Value),jQ ρ H'.o H.o nx xs vs->V.aj (ad M φ H) φ H w vs vals->V.aj (ad M' ai H') ai H' w xs vals
 |[],vs,vals,h,hd=>by simp only[jQ]at h;subst h;exact hd
 |x::xs,vs,vals,h,hd=>by
  unfold jQ at h
  split at h
  ·obtain⟨u,us,rfl,k1,k2⟩:=hd
   exact⟨u,us,rfl,kV hH dV bG b5 aL _ _ _ h.1 k1,fj hH dV bG b5 aL _ _ _ h.2 k2⟩
  ·exact h.elim
end
theorem u6(hH:af M φ H w){o':Nat->aa}(ho:∀id,gI ρ o' H.o nx id)(cz:∀id,nx<=id->o' id= .no)
 (qu:∀i j k,(o' i).live=true->(o' j).live=true->ρ i=some k->ρ j=some k->i=j)
 (hM:∀b,M' b->ad M φ H b) (G2:∀b,M' b->b<w.heap.size) (wM:∀b,M' b-> ¬bc (fun id=>match ρ id with|some j=>φ j|none=> .slice none 0 0) ⟨o',fun id=>id<nx⟩ b):
 let ai:Place:=fun id=>match ρ id with|some j=>φ j|none=> .slice none 0 0
 let H':Hp:=⟨o',fun id=>id<nx⟩
 af M' ai H' w/\(∀b,bc ai H' b->bc φ H b)/\(∀b,aS w b-> ¬ad M φ H b-> ¬ad M' ai H' b)/\
  (∀x v val,kj ρ o' H.o nx x v->V.den (ad M φ H) φ H w v val->V.den (ad M' ai H') ai H' w x val):=by
 intro ai H'
 have aL:∀bt id,ρ bt=some id->(H'.o bt).aM=true->(H.o id).aM=true:=by
  intro bt id h1 h2
  have h3:=ho bt
  unfold gI at h3
  simp only[H']at h2
  split at h3
  ·rename_i e;rw[e]at h2;cases h2
  ·rw[h1]at h3
   simp only at h3
   split at h3
   ·rename_i e;rw[e];rfl
   ·exact h3.elim
  ·rename_i e;rw[e]at h2;cases h2
  ·rename_i e;rw[e]at h2;cases h2
  ·rw[h1]at h3
   simp only at h3
   split at h3
   ·rename_i e;rw[e];rfl
   ·exact h3.elim
  ·rw[h1]at h3
   simp only at h3
   split at h3
   ·rename_i e;rw[e];rfl
   ·exact h3.elim
  ·rw[h1]at h3
   simp only at h3
   split at h3
   ·rename_i e;rw[e];rfl
   ·exact h3.elim
  ·rw[h1]at h3
   simp only at h3
   split at h3
   ·rename_i e;rw[e];rfl
   ·exact h3.elim
  ·rw[h1]at h3
   simp only at h3
   split at h3
   ·rename_i e;rw[e];rfl
   ·exact h3.elim
 have bP:∀bt b,(o' bt).live=true->cI (ai bt)=some b->∃id,ρ bt=some id/\(H.o id).live=true/\cI (φ id)=some b:=by
  intro bt b h1 h2
  have h3:=ho bt
  unfold gI at h3
  simp only[ai]at h2
  split at h3
  ·rename_i e;rw[e]at h1;cases h1
  ·cases hr:ρ bt with
   |none=>rw[hr]at h3;exact h3.elim
   |some id=>
    rw[hr]at h3 h2
    simp only at h3 h2
    split at h3
    ·rename_i e;exact⟨id,rfl,by rw[e];rfl,h2⟩
    ·exact h3.elim
  ·cases hr:ρ bt with
   |none=>rw[hr]at h2;simp[cI]at h2
   |some id=>
    rw[hr]at h3 h2
    simp only at h3 h2
    split at h3
    ·rename_i e;exact⟨id,rfl,by rw[e];rfl,h2⟩
    ·exact h3.elim
  ·rename_i e;rw[e]at h1;cases h1
  ·cases hr:ρ bt with
   |none=>rw[hr]at h3;exact h3.elim
   |some id=>
    rw[hr]at h3 h2
    simp only at h3 h2
    split at h3
    ·rename_i e;exact⟨id,rfl,by rw[e];rfl,h2⟩
    ·exact h3.elim
  ·cases hr:ρ bt with
   |none=>rw[hr]at h3;exact h3.elim
   |some id=>
    rw[hr]at h3 h2
    simp only at h3 h2
    split at h3
    ·rename_i e;exact⟨id,rfl,by rw[e];rfl,h2⟩
    ·exact h3.elim
  ·rename_i e;rw[e]at h1;cases h1
  ·cases hr:ρ bt with
   |none=>rw[hr]at h3;exact h3.elim
   |some id=>
    rw[hr]at h3 h2
    simp only at h3 h2
    split at h3
    ·rename_i e;exact⟨id,rfl,by rw[e];rfl,h2⟩
    ·exact h3.elim
  ·cases hr:ρ bt with
   |none=>rw[hr]at h3;exact h3.elim
   |some id=>
    rw[hr]at h3 h2
    simp only at h3 h2
    split at h3
    ·rename_i e;exact⟨id,rfl,by rw[e];rfl,h2⟩
    ·exact h3.elim
 have vj:∀b,bc ai H' b->bc φ H b:=by
  rintro b ⟨bt,h1,h2⟩
  obtain⟨id,_,h3,h4⟩:=bP bt b h1 h2
  exact⟨id,h3,h4⟩
 have G3:∀b,ad M' ai H' b->ad M φ H b:=by
  rintro b (h|h)
  ·exact hM b h
  ·exact .inr (vj b h)
 have dV:∀b,aS w b-> ¬ad M φ H b-> ¬ad M' ai H' b:=fun b _ h k=>h (G3 b k)
 have K9:=fj (M':=M') (ai:=ai) (H':=H') (ρ:=ρ) (nx:=nx) hH dV (fun _=>rfl) (fun _ h=>h) aL
 refine⟨⟨fun bt=> ?_,fun id hn=>cz id (by simpa[H']using hn),fun i j b h1 h2 h3 h4=> ?_,fun b hb=>⟨fun hm=>wM b hm hb,(hH.ours b (vj b hb)).2⟩,G2⟩,vj,dV,
  kV (M':=M') (ai:=ai) (H':=H') (ρ:=ρ) (nx:=nx) hH dV (fun _=>rfl) (fun _ h=>h) aL⟩
 ·have h3:=ho bt
  unfold gI at h3
  unfold au
  simp only[H']
  split at h3
  ·rename_i e;rw[e];trivial
  ·rename_i cs' e
   rw[e]
   cases hr:ρ bt with
   |none=>rw[hr]at h3;exact h3.elim
   |some id=>
    rw[hr]at h3
    simp only at h3
    split at h3
    ·rename_i cs e2
     have:=hH.ok id
     unfold au at this
     rw[e2]at this
     obtain⟨b,cg,ty,k1,k2,k3,k4⟩:=this
     exact⟨b,cg,ty,by simp only[ai,hr];exact k1,k2,K9 _ _ _ h3 k3,k4⟩
    ·exact h3.elim
  ·rename_i ep ty sz es e
   rw[e]
   cases hr:ρ bt with
   |none=>
    rw[hr]at h3
    obtain⟨rfl,h4⟩:=h3
    exact⟨h4,[],by simp only[ai,hr];exact World.ownsRow_nil _ _ _ _,[],by simp,by simp,rfl⟩
   |some id=>
    rw[hr]at h3
    simp only at h3
    split at h3
    ·rename_i e2
     obtain⟨rfl,rfl,rfl⟩:=h3
     have:=hH.ok id
     unfold au at this
     rw[e2]at this
     obtain⟨k1,xs,k2,evs,k3,k4,k5⟩:=this
     exact⟨k1,xs,by simp only[ai,hr];exact k2,evs,k3,k4,D.aw (fun b hb hn=>⟨rfl,dV b hb hn⟩) _ _ k5⟩
    ·exact h3.elim
  ·rename_i ep es e
   rw[e]
   cases hr:ρ bt with
   |none=>rw[hr]at h3;exact h3.elim
   |some id=>
    rw[hr]at h3
    simp only at h3
    split at h3
    ·rename_i e2
     subst h3
     have:=hH.ok id
     unfold au at this
     rw[e2]at this
     simp only[ai,hr]
     exact D.aq (fun b hb hn=>⟨rfl,dV b hb hn⟩) _ _ this
    ·exact h3.elim
  ·rename_i kt vt l e
   rw[e]
   cases hr:ρ bt with
   |none=>rw[hr]at h3;exact h3.elim
   |some id=>
    rw[hr]at h3
    simp only at h3
    split at h3
    ·rename_i e2
     obtain⟨rfl,rfl,rfl⟩:=h3
     have:=hH.ok id
     unfold au at this
     rw[e2]at this
     obtain⟨b,es,clock,k1,k2,k4,k3⟩:=this
     exact⟨b,es,clock,by simp only[ai,hr];exact k1,k2,k4,ao.mono (fun b hb hn=>⟨rfl,dV b hb hn⟩) _ _ k3⟩
    ·exact h3.elim
  ·rename_i nf n env ps a b st pd e
   rw[e]
   cases hr:ρ bt with
   |none=>rw[hr]at h3;exact h3.elim
   |some id=>
    rw[hr]at h3
    simp only at h3
    split at h3
    ·rename_i e2
     obtain⟨rfl,rfl,rfl,rfl,rfl,rfl,rfl,hv⟩:=h3
     have:=hH.ok id
     unfold au at this
     rw[e2]at this
     obtain⟨b,r,k1,k2,k3,k4,k5,k6,k7,k8,k9,La⟩:=this
     refine⟨b,r,by simp only[ai,hr];exact k1,k2,k3,k4,k5,k6,k7,k8,k9,fun i=> ?_⟩
     have key:∀ (xs vs:List V),jQ ρ o' H.o nx xs vs->∀i,kj ρ o' H.o nx (eX xs i) (eX vs i):=by
      intro xs
      induction xs with
      |nil=>intro vs hv i;simp[eX,kj]
      |cons x xs ih=>
       intro vs hv i
       unfold jQ at hv
       split at hv
       ·cases i with
        |zero=>exact hv.1
        |succ i=>exact ih _ hv.2 i
       ·exact hv.elim
     exact kV (M':=M') (ai:=ai) (H':=H') (ρ:=ρ) (nx:=nx) hH dV (fun _=>rfl) (fun _ h=>h) aL _ _ _ (key _ _ hv i) (La i)
    ·exact h3.elim
  ·rename_i l e
   rw[e]
   cases hr:ρ bt with
   |none=>rw[hr]at h3;exact h3.elim
   |some id=>
    rw[hr]at h3
    simp only at h3
    split at h3
    ·rename_i e2
     subst h3
     have:=hH.ok id
     unfold au at this
     rw[e2]at this
     simp only[ai,hr]
     exact D.aq (fun b hb hn=>⟨rfl,dV b hb hn⟩) _ _ this
    ·exact h3.elim
  ·rename_i l last e
   rw[e]
   cases hr:ρ bt with
   |none=>rw[hr]at h3;exact h3.elim
   |some id=>
    rw[hr]at h3
    simp only at h3
    split at h3
    ·rename_i u4 e2
     obtain⟨rfl,h3⟩:=h3
     have:=hH.ok id
     unfold au at this
     rw[e2]at this
     obtain⟨b,k1,k2⟩:=this
     have k3:kY (ad M' ai H') w l u4 b:=k2.mono (fun b hb hn=>⟨rfl,dV b hb hn⟩) rfl
     refine⟨b,by simp only[ai,hr];exact k1, ?_⟩
     rcases h3 with rfl|rfl
     ·rcases k3 with⟨a1,a2,_⟩|⟨m,since,seen,es,a1,a2,a3,a4,a5,_⟩
      ·exact .inl ⟨a1,a2,rfl⟩
      ·exact .inr ⟨m,since,seen,es,a1,a2,a3,a4,a5,fun _ _ e=>by cases e⟩
     ·exact k3
    ·exact h3.elim
  ·rename_i s pos e
   rw[e]
   cases hr:ρ bt with
   |none=>rw[hr]at h3;exact h3.elim
   |some id=>
    rw[hr]at h3
    simp only at h3
    split at h3
    ·rename_i e2
     obtain⟨rfl,rfl⟩:=h3
     have:=hH.ok id
     unfold au at this
     rw[e2]at this
     obtain⟨b,k1,k2⟩:=this
     exact⟨b,by simp only[ai,hr];exact k1,k2⟩
    ·exact h3.elim
 ·obtain⟨k1,g1,g2,g3⟩:=bP i b h1 h3
  obtain⟨k2,g4,g5,g6⟩:=bP j b h2 h4
  have:=hH.apart k1 k2 b g2 g5 g3 g6
  subst this
  exact qu i j k1 h1 h2 g1 g4
theorem p4.of_map {b:Nat}{s s':S}(ρ:Nat->Option Nat)(hb:b<=s'.nx)(ho:∀id,gI ρ s'.o s.o s'.nx id)(cz:∀id,s'.nx<=id->s'.o id= .no)
 (qu:∀i j k,(s'.o i).live=true->(s'.o j).live=true->ρ i=some k->ρ j=some k->i=j)
 (gS:∀id,id<b->ρ id=some id/\(∀e',(s'.o id).aN=some e'->∃e,(s.o id).aN=some e/\e<=e')) (bH:∀i,kj ρ s'.o s.o s'.nx (s'.env i) (s.env i)):p4 b s s':=by
 intro M φ w tm hH he
 obtain⟨h1,h2,_,h4⟩:=u6 (M':=M) (ρ:=ρ) (nx:=s'.nx) hH (o':=s'.o) ho cz qu (fun b hb=> .inl hb) hH.oy (fun b hb hl=>by
  have:bc φ s.H b:=by
   obtain⟨bt,g1,g2⟩:=hl
   have h3:=ho bt
   unfold gI at h3
   simp only at g1 g2
   split at h3
   ·rename_i e;rw[e]at g1;cases g1
   ·cases hr:ρ bt with
    |none=>rw[hr]at h3;exact h3.elim
    |some id=>
     rw[hr]at h3 g2
     simp only at h3 g2
     split at h3
     ·rename_i e;exact⟨id,by simp only[S.H];rw[e];rfl,g2⟩
     ·exact h3.elim
   ·cases hr:ρ bt with
    |none=>rw[hr]at g2;simp[cI]at g2
    |some id=>
     rw[hr]at h3 g2
     simp only at h3 g2
     split at h3
     ·rename_i e;exact⟨id,by simp only[S.H];rw[e];rfl,g2⟩
     ·exact h3.elim
   ·rename_i e;rw[e]at g1;cases g1
   ·cases hr:ρ bt with
    |none=>rw[hr]at h3;exact h3.elim
    |some id=>
     rw[hr]at h3 g2
     simp only at h3 g2
     split at h3
     ·rename_i e;exact⟨id,by simp only[S.H];rw[e];rfl,g2⟩
     ·exact h3.elim
   ·cases hr:ρ bt with
    |none=>rw[hr]at h3;exact h3.elim
    |some id=>
     rw[hr]at h3 g2
     simp only at h3 g2
     split at h3
     ·rename_i e;exact⟨id,by simp only[S.H];rw[e];rfl,g2⟩
     ·exact h3.elim
   ·rename_i e;rw[e]at g1;cases g1
   ·cases hr:ρ bt with
    |none=>rw[hr]at h3;exact h3.elim
    |some id=>
     rw[hr]at h3 g2
     simp only at h3 g2
     split at h3
     ·rename_i e;exact⟨id,by simp only[S.H];rw[e];rfl,g2⟩
     ·exact h3.elim
   ·cases hr:ρ bt with
    |none=>rw[hr]at h3;exact h3.elim
    |some id=>
     rw[hr]at h3 g2
     simp only at h3 g2
     split at h3
     ·rename_i e;exact⟨id,by simp only[S.H];rw[e];rfl,g2⟩
     ·exact h3.elim
  exact(hH.ours b this).1 hb)
 refine⟨_,h1,fun i=>h4 _ _ _ (bH i) (he i),h2,hb,fun id ah hr=> ?_,fun id e' ah qV=> ?_⟩
 ·obtain⟨g1,_⟩:=gS id ah
  refine⟨?_,by simp only[g1]⟩
  have h3:=ho id
  unfold gI at h3
  rw[g1]at h3
  split at h3
  ·rename_i e;rw[e]at hr;cases hr
  ·simp only at h3
   split at h3
   ·rename_i e;rw[e];rfl
   ·exact h3.elim
  ·rename_i e;rw[e]at hr;cases hr
  ·rename_i e;rw[e]at hr;cases hr
  ·simp only at h3
   split at h3
   ·rename_i e;rw[e];rfl
   ·exact h3.elim
  ·simp only at h3
   split at h3
   ·rename_i e;rw[e];rfl
   ·exact h3.elim
  ·simp only at h3
   split at h3
   ·rename_i e;rw[e];rfl
   ·exact h3.elim
  ·simp only at h3
   split at h3
   ·rename_i e;rw[e];rfl
   ·exact h3.elim
  ·simp only at h3
   split at h3
   ·rename_i e;rw[e];rfl
   ·exact h3.elim
 ·obtain⟨g1,g2⟩:=gS id ah
  obtain⟨e,g3,g4⟩:=g2 e' qV
  exact⟨e,g3,g4,fun _=>by simp only[g1]⟩
end
end Go.Proofs.YtbmnikpknlkbkaaGreat
namespace Go.Proofs.YtbmnikpknlkbkaaGreat
@[go_sem] theorem AY (v:V) (l:List V):eX (v::l) 0=v:=rfl
@[go_sem] theorem sU (v:V) (l:List V) (i:Nat):eX (v::l) (i+1)=eX l i:=rfl
@[go_sem] theorem u7 (i:Nat):eX [] i= .bL:=by simp[eX]
def dT:List (Nat×Option Nat)->Nat->Option Nat
 |[],id=>some id
 |(i,r)::R,id=>if i=id then r else dT R id
def wN(R:List (Nat×Option Nat)):List Nat->Bool
 |[]=>true
 |i::l=>l.all (fun j=>i==j||dT R i==none||dT R i !=dT R j)&&wN R l
def rR(ρ:Nat->Option Nat)(o' o:Nat->aa)(nx:Nat)(env:Nat->V):List V->Nat->Prop
 |[],_=>True
 |v::l,i=>kj ρ o' o nx v (env i)/\rR ρ o' o nx env l (i+1)
def oq(ρ:Nat->Option Nat)(o' o:Nat->aa)(nx:Nat):List Nat->Prop
 |[]=>True
 |i::l=>gI ρ o' o nx i/\oq ρ o' o nx l
def zQ:Option Nat->Option Nat->Prop
 |none,_=>True
 |some _,none=>False
 |some a,some b=>b<=a
def rS(b:Nat)(o' o:Nat->aa):List Nat->Prop
 |[]=>True
 |i::l=>(i<b->zQ (o' i).aN (o i).aN)/\rS b o' o l
theorem wO{o:Nat->aa}:∀ (Δ:List (Nat×aa)) (id:Nat),id∉Δ.map (·.1)->put o Δ id=o id:=by
 intro Δ
 induction Δ generalizing o with
 |nil=>intro id _;rfl
 |cons p Δ ih=>
  intro id h
  simp only[List.map_cons,List.mem_cons,not_or]at h
  rw[sT,ih id h.2]
  simp[h.1]
theorem p4.to {b:Nat}{s:S}(l:List V)(Δ:List (Nat×aa))(nx:Nat)(R:List (Nat×Option Nat))(h1:decide (b<=nx)=true)(h2:(Δ.map (·.1)).all (· <nx)=true)(h3:wN R (Δ.map (·.1))=true)(h4:R.all (fun r=>decide (b<=r.1))=true)
 (h5:rS b (put (fun _=> .no) Δ) s.o (Δ.map (·.1))) (h6:oq (dT R) (put (fun _=> .no) Δ) s.o nx (Δ.map (·.1))) (h7:rR (dT R) (put (fun _=> .no) Δ) s.o nx s.env l 0):
 p4 b s ⟨eX l,put (fun _=> .no) Δ,nx⟩:=by
 have w8:∀id,id∈Δ.map (·.1)\/put (fun _=>aa.no) Δ id= .no:=fun id=>by
  by_cases h:id∈Δ.map (·.1)
  ·exact .inl h
  ·exact .inr (wO Δ id h)
 have lk:∀ (ids:List Nat),oq (dT R) (put (fun _=> .no) Δ) s.o nx ids->∀id∈ids,gI (dT R) (put (fun _=> .no) Δ) s.o nx id:=by
  intro ids
  induction ids with
  |nil=>intro _ id h;cases h
  |cons i ids ih=>
   intro h id ah
   rcases List.mem_cons.1 ah with rfl|ah
   ·exact h.1
   ·exact ih h.2 id ah
 have G4:∀ (ids:List Nat),rS b (put (fun _=> .no) Δ) s.o ids->∀id∈ids,id<b->zQ (put (fun _=>aa.no) Δ id).aN (s.o id).aN:=by
  intro ids
  induction ids with
  |nil=>intro _ id h;cases h
  |cons i ids ih=>
   intro h id ah
   rcases List.mem_cons.1 ah with rfl|ah
   ·exact h.1
   ·exact ih h.2 id ah
 have bH:∀ (l:List V) (i:Nat),rR (dT R) (put (fun _=> .no) Δ) s.o nx s.env l i->∀j,kj (dT R) (put (fun _=> .no) Δ) s.o nx (eX l j) (s.env (i+j)):=by
  intro l
  induction l with
  |nil=>intro i _ j;rw[u7];simp[kj]
  |cons v l ih=>
   intro i h j
   cases j with
   |zero=>exact h.1
   |succ j=>
    rw[sU]
    have:=ih (i+1) h.2 j
    rwa [show i+1+j=i+(j+1) by omega]at this
 have qu:∀ (ids:List Nat),wN R ids=true->∀i∈ids,∀j∈ids,∀k,dT R i=some k->dT R j=some k->i=j:=by
  intro ids
  induction ids with
  |nil=>intro _ i h;cases h
  |cons x ids ih=>
   intro h i hi j hj k h1 h2
   simp only[wN,Bool.and_eq_true,List.all_eq_true]at h
   rcases List.mem_cons.1 hi with te|te<;>rcases List.mem_cons.1 hj with vM|vM
   ·exact te.trans vM.symm
   ·subst te
    have:=h.1 j vM
    simp only[Bool.or_eq_true,beq_iff_eq,bne_iff_ne,ne_eq]at this
    rcases this with(e|e)|e
    ·exact e
    ·rw[h1]at e;cases e
    ·exact absurd (h1.trans h2.symm) e
   ·subst vM
    have:=h.1 i te
    simp only[Bool.or_eq_true,beq_iff_eq,bne_iff_ne,ne_eq]at this
    rcases this with(e|e)|e
    ·exact e.symm
    ·rw[h2]at e;cases e
    ·exact absurd (h2.trans h1.symm) e
   ·exact ih h.2 i te j vM k h1 h2
 have Dr:∀ (R:List (Nat×Option Nat)),R.all (fun r=>decide (b<=r.1))=true->∀id,id<b->dT R id=some id:=by
  intro R
  induction R with
  |nil=>intro _ id _;rfl
  |cons r R ih=>
   intro h id ah
   obtain⟨i,r⟩:=r
   simp only[List.all_cons,Bool.and_eq_true,decide_eq_true_eq]at h
   unfold dT
   rw[if_neg (by omega)]
   exact ih h.2 id ah
 have nP:∀id,(put (fun _=>aa.no) Δ id).live=true->id∈Δ.map (·.1):=fun id h=>by
  rcases w8 id with h'|h'
  ·exact h'
  ·rw[h']at h;cases h
 refine p4.of_map (dT R) (by simpa using h1) (fun id=> ?_) (fun id ah=> ?_) (fun i j k g1 g2 g3 g4=>qu _ h3 i (nP i g1) j (nP j g2) k g3 g4) (fun id ah=>⟨Dr R h4 id ah,fun e' he=> ?_⟩) (fun i=>by simpa using bH l 0 h7 i)
 ·rcases w8 id with h|h
  ·exact lk _ h6 id h
  ·unfold gI;simp only[h]
 ·rcases w8 id with h|h
  ·have:=List.all_eq_true.1 h2 id h
   simp only[decide_eq_true_eq]at this
   simp only at ah
   omega
  ·exact h
 ·rcases w8 id with h|h
  ·have:=G4 _ h5 id h ah
   simp only at he
   rw[he]at this
   cases hs:(s.o id).aN with
   |none=>rw[hs]at this;exact this.elim
   |some e=>rw[hs]at this;exact⟨e,rfl,this⟩
  ·simp only[h]at he;cases he
@[go_sem] theorem ya (k:Nat):(0<=(k:Int))=True:=by simp
attribute [go_sem] List.getElem?_map List.length_map Int.toNat_natCast
attribute [go_sem] cy List.flatMap_cons List.flatMap_nil
attribute [go_sem] isConst jD vr jB jC oC jA iG p8 vu mE rV hG hO mC lf lg iH
attribute [go_sem] ec V.refs V.bn
attribute [go_sem] rR oq rS zQ kj jQ gI dT wL List.all_nil List.all_cons Option.some.injEq D.int.injEq D.bool.injEq Nat.zero_add Nat.add_zero
end Go.Proofs.YtbmnikpknlkbkaaGreat
namespace Go.Proofs.YtbmnikpknlkbkaaGreat
structure Good (o:Nat->aa) (nx:Nat):Prop where
 fresh:∀id,nx<=id->o id= .no
 refs:∀id,∀r∈(o id).refs,r<nx
theorem Good.nil {nx:Nat}:Good (fun _=> .no) nx:=⟨fun _ _=>rfl,fun id r h=>by cases h⟩
theorem Good.cN {o:Nat->aa}{nx i:Nat}{x:aa}(h:Good o nx)(hi:i<nx)(hx:x.refs.all (fun r=>decide (r<nx))=true):Good (cN o i x) nx:=by
 refine⟨fun id ah=> ?_,fun id r hr=> ?_⟩
 ·rw[u3 _ _ _ _ (by omega)];exact h.fresh id ah
 ·by_cases e:id=i
  ·subst e
   rw[u1]at hr
   simpa using List.all_eq_true.1 hx r hr
  ·rw[u3 _ _ _ _ e]at hr
   exact h.refs id r hr
theorem Good.mono {o:Nat->aa}{nx m:Nat}(h:Good o nx)(hm:nx<=m):Good o m:=⟨fun id ah=>h.fresh id (by omega),fun id r hr=>Nat.lt_of_lt_of_le (h.refs id r hr) hm⟩
theorem Good.lt {o:Nat->aa}{nx id:Nat}(h:Good o nx)(hn:o id≠ .no):id<nx:=by
 rcases Nat.lt_or_ge id nx with hl|hl
 ·exact hl
 ·exact absurd (h.fresh id hl) hn
end Go.Proofs.YtbmnikpknlkbkaaGreat
namespace Go.Proofs.YtbmnikpknlkbkaaGreat
abbrev D.i (n:Int):D:= .int .i64 n
structure AZ where
 name:List UInt8
 args:Int
structure Ds where
 cons:List AZ
 G5:List AZ
inductive Tm where
 |mk (op n:Int) (kids:List Tm)
 deriving Inhabited
structure TB where
 var:Int
 term:Tm
def Tm.op:Tm->Int| .mk op _ _=>op
def Tm.n:Tm->Int| .mk _ n _=>n
def Tm.kids:Tm->List Tm| .mk _ _ l=>l
theorem Tm.ind {P:Tm->Prop}(h:∀op n kids,(∀k∈kids,P k)->P (.mk op n kids)):∀t,P t:=
 fun t=>Tm.rec (motive_1:=P) (motive_2:=fun l=>∀k∈l,P k) (fun op n kids ih=>h op n kids ih) (fun _ h=>by cases h)
  (fun x l hx hl k hk=>(List.mem_cons.1 hk).elim (fun e=>e ▸ hx) (hl k)) t
mutual
def Tm.d:Tm->D
 | .mk op n kids=> .agg [.i op, .i n, .sl (Tm.ds kids)]
def Tm.ds:List Tm->List D
 |[]=>[]
 |t::l=>t.d::Tm.ds l
end
theorem Tm.u9:∀l:List Tm,Tm.ds l=l.map Tm.d
 |[]=>rfl
 |t::l=>by simp[Tm.ds,Tm.u9 l]
theorem Tm.Dt (t:Tm):t.d= .agg [.i t.op, .i t.n, .sl (t.kids.map Tm.d)]:=by cases t;simp[Tm.d,Tm.u9,Tm.op,Tm.n,Tm.kids]
@[go_sem] theorem Tm.G6 (t:Tm):D.agg [.i t.op, .i t.n, .sl (t.kids.map Tm.d)]=t.d:=(Tm.Dt t).symm
@[go_sem] theorem Tm.D1 (t:Tm):D.cells t.d=[.i t.op, .i t.n, .sl (t.kids.map Tm.d)]:=by rw[Tm.Dt];rfl
@[reducible] def AZ.d (x:AZ):D:= .agg [.str x.name, .i x.args]
@[reducible] def Ds.d (s:Ds):D:= .agg [.sl (s.cons.map AZ.d), .sl (s.G5.map AZ.d)]
@[reducible] def TB.d (b:TB):D:= .agg [.i b.var, .i b.term.op, .i b.term.n, .sl (b.term.kids.map Tm.d)]
mutual
def pre:Tm->Int->List (Tm×Int)
 | .mk op n kids,d=>(.mk op n kids,d)::Du kids (d+1)
def Du:List Tm->Int->List (Tm×Int)
 |[],_=>[]
 |k::l,d=>pre k d++Du l d
end
end Go.Proofs.YtbmnikpknlkbkaaGreat
section
namespace Go.Proofs.YtbmnikpknlkbkaaGreat
open Go
def wP:Nat->Bool:=fun g=> !([92,106,107,113,94,109,110,40,52,53,41,54,75,76,77,78,79,80,82,83,96,99,100,112,88,60,59,102,44]:List Nat).contains g
def yP:D:= .agg [.sl [.agg [.str [70,97,108,115,101], .i 0], .agg [.str [84,114,117,101], .i 0], .agg [.str [90], .i 0], .agg [.str [83], .i 1], .agg [.str [78,105,108], .i 0], .agg [.str [67,111,110,115], .i 2]], .sl [.agg [.str [97,100,100], .i 2], .agg [.str [111,114], .i 2], .agg [.str [99,111,105,110], .i 0], .agg [.str [108,101,110], .i 1]], .sl [.agg [.i 0, .sl [.agg [.i 3, .i 2, .sl []], .agg [.i 1, .i 0, .sl []]], .i 1, .i 0, .sl [], .i 1], .agg [.i 0, .sl [.agg [.i 3, .i 3, .sl [.agg [.i 1, .i 0, .sl []]]], .agg [.i 1, .i 1, .sl []]], .i 3, .i 3, .sl [.agg [.i 4, .i 0, .sl [.agg [.i 1, .i 0, .sl []], .agg [.i 1, .i 1, .sl []]]]], .i 2], .agg [.i 1, .sl [.agg [.i 3, .i 1, .sl []], .agg [.i 1, .i 0, .sl []]], .i 3, .i 1, .sl [], .i 1], .agg [.i 1, .sl [.agg [.i 1, .i 0, .sl []], .agg [.i 3, .i 1, .sl []]], .i 3, .i 1, .sl [], .i 1], .agg [.i 1, .sl [.agg [.i 3, .i 0, .sl []], .agg [.i 3, .i 0, .sl []]], .i 3, .i 0, .sl [], .i 0], .agg [.i 2, .sl [], .i 3, .i 2, .sl [], .i 0], .agg [.i 2, .sl [], .i 3, .i 3, .sl [.agg [.i 3, .i 2, .sl []]], .i 0], .agg [.i 3, .sl [.agg [.i 3, .i 5, .sl [.agg [.i 1, .i 0, .sl []], .agg [.i 1, .i 1, .sl []]]]], .i 3, .i 3, .sl [.agg [.i 4, .i 3, .sl [.agg [.i 1, .i 1, .sl []]]]], .i 2], .agg [.i 3, .sl [.agg [.i 1, .i 0, .sl []]], .i 4, .i 0, .sl [.agg [.i 1, .i 1, .sl []], .agg [.i 1, .i 1, .sl []]], .i 2]]]
def yR:D:= .agg [.sl [.agg [.str [70,97,108,115,101], .i 0], .agg [.str [84,114,117,101], .i 0], .agg [.str [90], .i 0], .agg [.str [83], .i 1], .agg [.str [78,105,108], .i 0], .agg [.str [67,111,110,115], .i 2]], .sl [.agg [.str [97,100,100], .i 2], .agg [.str [111,114], .i 2], .agg [.str [99,111,105,110], .i 0], .agg [.str [108,101,110], .i 1]], .sl [.agg [.i 0, .sl [.agg [.i 3, .i 2, .sl []], .agg [.i 1, .i 0, .sl []]], .i 1, .i 0, .sl [], .i 1], .agg [.i 0, .sl [.agg [.i 3, .i 3, .sl [.agg [.i 1, .i 0, .sl []]]], .agg [.i 1, .i 1, .sl []]], .i 3, .i 3, .sl [.agg [.i 4, .i 0, .sl [.agg [.i 1, .i 0, .sl []], .agg [.i 1, .i 1, .sl []]]]], .i 2], .agg [.i 1, .sl [.agg [.i 3, .i 1, .sl []], .agg [.i 1, .i 0, .sl []]], .i 3, .i 1, .sl [], .i 1], .agg [.i 1, .sl [.agg [.i 1, .i 0, .sl []], .agg [.i 3, .i 1, .sl []]], .i 3, .i 1, .sl [], .i 1], .agg [.i 1, .sl [.agg [.i 3, .i 0, .sl []], .agg [.i 3, .i 0, .sl []]], .i 3, .i 0, .sl [], .i 0], .agg [.i 2, .sl [], .i 3, .i 2, .sl [], .i 0], .agg [.i 2, .sl [], .i 3, .i 3, .sl [.agg [.i 3, .i 2, .sl []]], .i 0], .agg [.i 3, .sl [.agg [.i 3, .i 5, .sl [.agg [.i 1, .i 0, .sl []], .agg [.i 1, .i 1, .sl []]]]], .i 3, .i 3, .sl [.agg [.i 4, .i 3, .sl [.agg [.i 1, .i 1, .sl []]]]], .i 2]]]
def yS:D:= .agg [.sl [.agg [.str [70,97,108,115,101], .i 0], .agg [.str [84,114,117,101], .i 0], .agg [.str [90], .i 0], .agg [.str [83], .i 1], .agg [.str [78,105,108], .i 0], .agg [.str [67,111,110,115], .i 2]], .sl [.agg [.str [97,100,100], .i 2], .agg [.str [111,114], .i 2], .agg [.str [99,111,105,110], .i 0], .agg [.str [108,101,110], .i 1]], .sl [.agg [.i 0, .sl [.agg [.i 3, .i 2, .sl []], .agg [.i 1, .i 0, .sl []]], .i 1, .i 0, .sl [], .i 1], .agg [.i 0, .sl [.agg [.i 3, .i 3, .sl [.agg [.i 1, .i 0, .sl []]]], .agg [.i 1, .i 1, .sl []]], .i 3, .i 3, .sl [.agg [.i 4, .i 0, .sl [.agg [.i 1, .i 0, .sl []], .agg [.i 1, .i 1, .sl []]]]], .i 2], .agg [.i 1, .sl [.agg [.i 3, .i 1, .sl []], .agg [.i 1, .i 0, .sl []]], .i 3, .i 1, .sl [], .i 1], .agg [.i 1, .sl [.agg [.i 1, .i 0, .sl []], .agg [.i 3, .i 1, .sl []]], .i 3, .i 1, .sl [], .i 1], .agg [.i 1, .sl [.agg [.i 3, .i 0, .sl []], .agg [.i 3, .i 0, .sl []]], .i 3, .i 0, .sl [], .i 0], .agg [.i 2, .sl [], .i 3, .i 2, .sl [], .i 0], .agg [.i 2, .sl [], .i 3, .i 3, .sl [.agg [.i 3, .i 2, .sl []]], .i 0], .agg [.i 3, .sl [.agg [.i 1, .i 0, .sl []]], .i 4, .i 3, .sl [.agg [.i 1, .i 0, .sl []]], .i 1]]]
def yC:D:= .agg [.sl [.agg [.str [70,97,108,115,101], .i 0], .agg [.str [84,114,117,101], .i 0], .agg [.str [90], .i 0], .agg [.str [83], .i 1], .agg [.str [78,105,108], .i 0], .agg [.str [67,111,110,115], .i 2]], .sl [.agg [.str [97,100,100], .i 2], .agg [.str [111,114], .i 2], .agg [.str [99,111,105,110], .i 0], .agg [.str [108,101,110], .i 1]], .sl [.agg [.i 0, .sl [.agg [.i 3, .i 2, .sl []], .agg [.i 1, .i 0, .sl []]], .i 1, .i 0, .sl [], .i 1], .agg [.i 0, .sl [.agg [.i 3, .i 3, .sl [.agg [.i 1, .i 0, .sl []]]], .agg [.i 1, .i 1, .sl []]], .i 3, .i 3, .sl [.agg [.i 4, .i 0, .sl [.agg [.i 1, .i 0, .sl []], .agg [.i 1, .i 1, .sl []]]]], .i 2], .agg [.i 1, .sl [.agg [.i 3, .i 1, .sl []], .agg [.i 1, .i 0, .sl []]], .i 3, .i 1, .sl [], .i 1], .agg [.i 1, .sl [.agg [.i 1, .i 0, .sl []], .agg [.i 3, .i 1, .sl []]], .i 3, .i 1, .sl [], .i 1], .agg [.i 1, .sl [.agg [.i 3, .i 0, .sl []], .agg [.i 3, .i 0, .sl []]], .i 3, .i 0, .sl [], .i 0], .agg [.i 2, .sl [], .i 3, .i 2, .sl [], .i 0], .agg [.i 2, .sl [], .i 3, .i 3, .sl [.agg [.i 3, .i 2, .sl []]], .i 0], .agg [.i 3, .sl [.agg [.i 1, .i 0, .sl []]], .i 3, .i 5, .sl [.agg [.i 1, .i 0, .sl []], .agg [.i 4, .i 3, .sl [.agg [.i 1, .i 0, .sl []]]]], .i 1]]]
def yT:D:= .agg [.sl [.agg [.str [70,97,108,115,101], .i 0], .agg [.str [84,114,117,101], .i 0], .agg [.str [90], .i 0], .agg [.str [83], .i 1], .agg [.str [78,105,108], .i 0], .agg [.str [67,111,110,115], .i 2]], .sl [.agg [.str [97,100,100], .i 2], .agg [.str [111,114], .i 2], .agg [.str [99,111,105,110], .i 0], .agg [.str [108,101,110], .i 1]], .sl [.agg [.i 0, .sl [.agg [.i 3, .i 3, .sl [.agg [.i 1, .i 0, .sl []]]], .agg [.i 1, .i 1, .sl []]], .i 4, .i 0, .sl [.agg [.i 1, .i 1, .sl []], .agg [.i 1, .i 0, .sl []]], .i 2]]]
def va:iw Tryz.prog:=iw.of wP [] (fun _ h=>by cases h)
end Go.Proofs.YtbmnikpknlkbkaaGreat
end
section
namespace Go.Proofs.YtbmnikpknlkbkaaGreat
open Go
theorem wQ:eU Tryz.prog aI va 5000 26 [yP]=some (.ret [.i 0]):=by kernel_rfl
theorem vb:c0 Tryz.prog 26 [yP] (.ret [.i 0]):=c0.bZ mix b4 wQ
end Go.Proofs.YtbmnikpknlkbkaaGreat
end
section
namespace Go.Proofs.YtbmnikpknlkbkaaGreat
open Go
theorem wR:eU Tryz.prog aI va 5000 26 [yR]=some (.ret [.i 0]):=by kernel_rfl
theorem vc:c0 Tryz.prog 26 [yR] (.ret [.i 0]):=c0.bZ mix b4 wR
end Go.Proofs.YtbmnikpknlkbkaaGreat
end
section
namespace Go.Proofs.YtbmnikpknlkbkaaGreat
open Go
theorem wS:eU Tryz.prog aI va 5000 26 [yS]=some (.ret [.i 0]):=by kernel_rfl
theorem ve:c0 Tryz.prog 26 [yS] (.ret [.i 0]):=c0.bZ mix b4 wS
end Go.Proofs.YtbmnikpknlkbkaaGreat
end
section
namespace Go.Proofs.YtbmnikpknlkbkaaGreat
open Go
theorem wT:eU Tryz.prog aI va 5000 26 [yC]=some (.ret [.i 0]):=by kernel_rfl
theorem vf:c0 Tryz.prog 26 [yC] (.ret [.i 0]):=c0.bZ mix b4 wT
end Go.Proofs.YtbmnikpknlkbkaaGreat
end
section
namespace Go.Proofs.YtbmnikpknlkbkaaGreat
open Go
theorem wU:eU Tryz.prog aI va 5000 26 [yT]=some (.ret [.i 0]):=by kernel_rfl
theorem vg:c0 Tryz.prog 26 [yT] (.ret [.i 0]):=c0.bZ mix b4 wU
end Go.Proofs.YtbmnikpknlkbkaaGreat
end
section
namespace Go.Proofs.YtbmnikpknlkbkaaGreat
open Go
def kL:iw Tryz.prog:=iw.of wP [(26,[yP], .ret [.i 0]),(26,[yR], .ret [.i 0]),(26,[yS], .ret [.i 0]),(26,[yC], .ret [.i 0]),(26,[yT], .ret [.i 0])] (fun x h=>by
 simp only[List.mem_cons,List.not_mem_nil,or_false]at h
 rcases h with rfl|rfl|rfl|rfl|rfl
 ·exact vb
 ·exact vc
 ·exact ve
 ·exact vf
 ·exact vg
 )
end Go.Proofs.YtbmnikpknlkbkaaGreat
end
section
namespace Go.Proofs.YtbmnikpknlkbkaaGreat
open Go
theorem zR:eU Tryz.prog aI kL 5000 10 [yR]=some (.ret [.sl [.agg [.i 1, .i 0, .i 0, .sl [.i 0], .bool false, .sl [.agg [.i 0, .i 0, .bool true], .agg [.i 1, .i 1, .bool false]]], .agg [.i 7, .i 3, .i 3, .sl [.i 0], .bool false, .sl [.agg [.i 0, .i 0, .bool true]]]], .i 0]):=by kernel_rfl
theorem G7:c0 Tryz.prog 10 [yR] (.ret [.sl [.agg [.i 1, .i 0, .i 0, .sl [.i 0], .bool false, .sl [.agg [.i 0, .i 0, .bool true], .agg [.i 1, .i 1, .bool false]]], .agg [.i 7, .i 3, .i 3, .sl [.i 0], .bool false, .sl [.agg [.i 0, .i 0, .bool true]]]], .i 0]):=c0.bZ mix b4 zR
theorem zS:eU Tryz.prog aI kL 5000 16 [yR, .sl [.i 0]]=some (.ret [.bool true, .i 0]):=by kernel_rfl
theorem G8:c0 Tryz.prog 16 [yR, .sl [.i 0]] (.ret [.bool true, .i 0]):=c0.bZ mix b4 zS
end Go.Proofs.YtbmnikpknlkbkaaGreat
end
section
namespace Go.Proofs.YtbmnikpknlkbkaaGreat
open Go
theorem zT:eU Tryz.prog aI kL 5000 12 [yR]=some (.ret [.bool true, .sl [], .i 0]):=by kernel_rfl
theorem G9:c0 Tryz.prog 12 [yR] (.ret [.bool true, .sl [], .i 0]):=c0.bZ mix b4 zT
end Go.Proofs.YtbmnikpknlkbkaaGreat
end
section
namespace Go.Proofs.YtbmnikpknlkbkaaGreat
open Go
theorem zU:eU Tryz.prog aI kL 5000 12 [yS]=some (.ret [.bool false, .sl [.i 1], .i 0]):=by kernel_rfl
theorem Dv:c0 Tryz.prog 12 [yS] (.ret [.bool false, .sl [.i 1], .i 0]):=c0.bZ mix b4 zU
theorem zV:eU Tryz.prog aI kL 5000 13 [yS]=some (.ret [.bool false, .sl [.i 1], .i 0]):=by kernel_rfl
theorem Dw:c0 Tryz.prog 13 [yS] (.ret [.bool false, .sl [.i 1], .i 0]):=c0.bZ mix b4 zV
end Go.Proofs.YtbmnikpknlkbkaaGreat
end
section
namespace Go.Proofs.YtbmnikpknlkbkaaGreat
open Go
theorem zW:eU Tryz.prog aI kL 5000 12 [yC]=some (.ret [.bool false, .sl [.i 1], .i 0]):=by kernel_rfl
theorem Ha:c0 Tryz.prog 12 [yC] (.ret [.bool false, .sl [.i 1], .i 0]):=c0.bZ mix b4 zW
theorem zX:eU Tryz.prog aI kL 5000 13 [yC]=some (.ret [.bool true, .sl [], .i 0]):=by kernel_rfl
theorem Hb:c0 Tryz.prog 13 [yC] (.ret [.bool true, .sl [], .i 0]):=c0.bZ mix b4 zX
end Go.Proofs.YtbmnikpknlkbkaaGreat
end
section
namespace Go.Proofs.YtbmnikpknlkbkaaGreat
open Go
theorem zY:eU Tryz.prog aI kL 5000 12 [yT]=some (.ret [.bool true, .sl [], .i 0]):=by kernel_rfl
theorem Hc:c0 Tryz.prog 12 [yT] (.ret [.bool true, .sl [], .i 0]):=c0.bZ mix b4 zY
end Go.Proofs.YtbmnikpknlkbkaaGreat
end
