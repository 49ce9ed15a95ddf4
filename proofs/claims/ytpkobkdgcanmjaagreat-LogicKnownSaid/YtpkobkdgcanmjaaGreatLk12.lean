/-
  A PART OF THE PROOF. Conditions: none.
-/
import Derived.Test.YtpkobkdgcanmjaaGreatLk11
set_option linter.unusedSimpArgs false
set_option linter.unusedVariables false
namespace Go.Proofs.YtpkobkdgcanmjaaGreat
theorem mix:Tryz.prog.follows .mixedOrders=true:=by kernel_rfl
def E4:Tr FD:=
 (.n .no (.n .no (.n (.fn 177 c3 [.tmp 6]) (.n (.fn 6 c7 [.tmp 2]) (.n (.fn 5 J8 [.tmp 2]) (.n (.fn 11 Kq [.cell 6 54]) (.n (.fn 28 K4 [.tmp 2]) (.n (.fn 31 CL []) (.e fun _=> .no) (.e fun _=> .no)) (.n (.fn 14 EW [.tmp 4]) (.e fun _=> .no) (.e fun _=> .no))) (.n (.fn 15 Lz [.tmp 6]) (.n (.fn 9 DP [.cell 4 117]) (.e fun _=> .no) (.e fun _=> .no)) (.e fun _=> .no))) (.n (.fn 24 KK [.tmp 4]) (.n (.fn 19 Lj [.tmp 2]) (.n (.fn 4 Di [.tmp 2]) (.e fun _=> .no) (.e fun _=> .no)) (.e fun _=> .no)) (.n (.fn 7 Ce [.tmp 3]) (.n (.fn 27 Eo [.tmp 4]) (.e fun _=> .no) (.e fun _=> .no)) (.e fun _=> .no)))) (.n (.fn 8 Ki [.cell 4 28]) (.n (.fn 26 Kz [.tmp 4]) (.n (.fn 35 Lc [.tmp 2]) (.n (.fn 43 C2 [.cell 4 4, .cell 5 32]) (.e fun _=> .no) (.e fun _=> .no)) (.e fun _=> .no)) (.n (.fn 2 BX [.cell 0 134]) (.n (.fn 8 D7 [.tmp 3]) (.e fun _=> .no) (.e fun _=> .no)) (.e fun _=> .no))) (.n (.fn 5 KU [.cell 2 28]) (.n (.fn 24 Lr [.tmp 3]) (.n (.fn 84 Dz [.tmp 8]) (.e fun _=> .no) (.e fun _=> .no)) (.e fun _=> .no)) (.n (.fn 22 Cu []) (.n (.fn 33 EF [.tmp 2]) (.e fun _=> .no) (.e fun _=> .no)) (.e fun _=> .no))))) (.n (.fn 32 J4 [.cell 6 28, .tmp 7]) (.n (.fn 46 Kd [.tmp 4]) (.n (.fn 37 Kv [.tmp 6]) (.n (.fn 7 K8 [.tmp 3]) (.n (.fn 98 CU []) (.e fun _=> .no) (.e fun _=> .no)) (.e fun _=> .no)) (.n (.fn 11 LD []) (.n (.fn 31 DZ [.cell 8 28, .cell 9 28]) (.e fun _=> .no) (.e fun _=> .no)) (.e fun _=> .no))) (.n (.fn 8 KO [.cell 4 28]) (.n (.fn 8 Ln []) (.n (.fn 57 Dr [.tmp 6, .tmp 7]) (.e fun _=> .no) (.e fun _=> .no)) (.e fun _=> .no)) (.n (.fn 8 Cm [.tmp 2]) (.n (.fn 17 Ex [.tmp 6]) (.e fun _=> .no) (.e fun _=> .no)) (.e fun _=> .no)))) (.n (.fn 30 Km [.cell 0 54]) (.n (.fn 87 KG [.cell 4 28, .tmp 5]) (.n (.fn 9 Lg [.tmp 4]) (.n (.fn 18 Da [.tmp 2]) (.e fun _=> .no) (.e fun _=> .no)) (.e fun _=> .no)) (.n (.fn 9 B6 [.tmp 4]) (.n (.fn 14 Eg [.tmp 4]) (.e fun _=> .no) (.e fun _=> .no)) (.e fun _=> .no))) (.n (.fn 15 K0 [.tmp 6]) (.n (.fn 9 Lv [.tmp 4]) (.n (.fn 24 DH [.tmp 4]) (.e fun _=> .no) (.e fun _=> .no)) (.e fun _=> .no)) (.n (.fn 10 CD []) (.n (.fn 26 EN []) (.e fun _=> .no) (.e fun _=> .no)) (.e fun _=> .no)))))) (.n (.fn 244 c5 [.tmp 0]) (.n (.fn 18 c9 [.tmp 4, .tmp 5, .tmp 6]) (.n (.fn 49 Ka [.tmp 4]) (.n (.fn 3 Ks [.cell 0 54]) (.n (.fn 46 K6 [.tmp 2]) (.n (.fn 34 CP []) (.e fun _=> .no) (.e fun _=> .no)) (.n (.fn 28 E0 [.tmp 8, .tmp 9]) (.e fun _=> .no) (.e fun _=> .no))) (.n (.fn 13 LB [.tmp 4]) (.n (.fn 39 DV []) (.e fun _=> .no) (.e fun _=> .no)) (.e fun _=> .no))) (.n (.fn 8 KM [.cell 4 28]) (.n (.fn 8 Ll [.tmp 2]) (.n (.fn 56 Dm []) (.e fun _=> .no) (.e fun _=> .no)) (.e fun _=> .no)) (.n (.fn 45 Ci []) (.n (.fn 14 Et [.tmp 4]) (.e fun _=> .no) (.e fun _=> .no)) (.e fun _=> .no)))) (.n (.fn 5 Kk [.cell 2 28]) (.n (.fn 33 KC [.tmp 2]) (.n (.fn 13 Le [.tmp 4]) (.n (.fn 10 C6 [.tmp 4]) (.e fun _=> .no) (.e fun _=> .no)) (.e fun _=> .no)) (.n (.fn 8 B2 [.tmp 3]) (.n (.fn 9 Eb [.tmp 4]) (.e fun _=> .no) (.e fun _=> .no)) (.e fun _=> .no))) (.n (.fn 6 KY [.tmp 2]) (.n (.fn 15 Lt [.tmp 6]) (.n (.fn 19 DD [.tmp 2]) (.e fun _=> .no) (.e fun _=> .no)) (.e fun _=> .no)) (.n (.fn 14 Cz []) (.n (.fn 36 EJ [.tmp 10]) (.e fun _=> .no) (.e fun _=> .no)) (.e fun _=> .no))))) (.n (.fn 13 J6 [.tmp 4]) (.n (.fn 8 Kg [.cell 4 28]) (.n (.fn 31 Kx [.cell 2 54]) (.n (.fn 32 La [.tmp 6]) (.n (.fn 8 CY [.tmp 3]) (.e fun _=> .no) (.e fun _=> .no)) (.e fun _=> .no)) (.n (.fn 8 BT [.tmp 3]) (.n (.fn 28 D3 [.cell 4 28]) (.e fun _=> .no) (.e fun _=> .no)) (.e fun _=> .no))) (.n (.Hl 16 BP KR 77 9 [.tmp 8] [.cell 8 4] 10 4 4 J2) (.n (.fn 9 Lp [.tmp 4]) (.n (.fn 133 Dv [.tmp 6]) (.e fun _=> .no) (.e fun _=> .no)) (.e fun _=> .no)) (.n (.fn 17 Cq []) (.n (.fn 76 EB []) (.e fun _=> .no) (.e fun _=> .no)) (.e fun _=> .no)))) (.n (.fn 30 Ko [.cell 8 28, .tmp 9]) (.n (.fn 15 KI [.tmp 6]) (.n .no (.n (.fn 19 De [.tmp 4]) (.e fun _=> .no) (.e fun _=> .no)) (.e fun _=> .no)) (.n (.fn 19 Ca [.tmp 4]) (.n (.fn 27 Ek [.tmp 4]) (.e fun _=> .no) (.e fun _=> .no)) (.e fun _=> .no))) (.n (.fn 24 K2 [.tmp 2]) (.n (.fn 92 Lx [.tmp 4]) (.n (.fn 38 DL [.cell 4 28]) (.e fun _=> .no) (.e fun _=> .no)) (.e fun _=> .no)) (.n (.fn 71 CH []) (.n (.fn 5 ES [.cell 2 28]) (.e fun _=> .no) (.e fun _=> .no)) (.e fun _=> .no))))))) (.n .no (.n (.fn 211 c4 [.tmp 8]) (.n (.fn 161 c8 [.tmp 0]) (.n (.fn 9 J9 [.tmp 2]) (.n (.fn 14 Kr [.cell 8 54]) (.n (.fn 4 K5 [.tmp 2]) (.n (.fn 31 CN []) (.e fun _=> .no) (.e fun _=> .no)) (.n (.fn 19 EY [.tmp 4]) (.e fun _=> .no) (.e fun _=> .no))) (.n (.fn 7 LA [.tmp 3]) (.n (.fn 15 DT [.tmp 4]) (.e fun _=> .no) (.e fun _=> .no)) (.e fun _=> .no))) (.n (.fn 25 KL [.tmp 4]) (.n (.fn 46 Lk [.tmp 4]) (.n (.fn 49 Dk []) (.e fun _=> .no) (.e fun _=> .no)) (.e fun _=> .no)) (.n (.fn 39 Cg [.cell 4 4]) (.n (.fn 14 Er [.tmp 4]) (.e fun _=> .no) (.e fun _=> .no)) (.e fun _=> .no)))) (.n (.fn 42 Kj [.cell 10 54, .tmp 11]) (.n (.fn 13 KA [.tmp 4]) (.n (.fn 78 Ld [.tmp 4]) (.n (.fn 9 C4 [.tmp 4]) (.e fun _=> .no) (.e fun _=> .no)) (.e fun _=> .no)) (.n (.fn 9 B0 [.tmp 4]) (.n (.fn 4 D9 [.tmp 2]) (.e fun _=> .no) (.e fun _=> .no)) (.e fun _=> .no))) (.n (.fn 7 KW [.cell 0 54]) (.n (.fn 28 Ls [.tmp 2]) (.n (.fn 168 DB [.tmp 8, .tmp 9]) (.e fun _=> .no) (.e fun _=> .no)) (.e fun _=> .no)) (.n (.fn 14 Cw []) (.n (.fn 15 EH [.tmp 6]) (.e fun _=> .no) (.e fun _=> .no)) (.e fun _=> .no))))) (.n (.fn 48 J5 [.tmp 2]) (.n (.fn 76 Ke [.cell 0 47]) (.n (.fn 5 Kw [.cell 0 28]) (.n (.fn 16 K9 [.tmp 2]) (.n (.fn 9 CW [.tmp 4]) (.e fun _=> .no) (.e fun _=> .no)) (.e fun _=> .no)) (.n (.fn 9 BR [.tmp 4]) (.n (.fn 6 D1 [.cell 2 28]) (.e fun _=> .no) (.e fun _=> .no)) (.e fun _=> .no))) (.n (.fn 41 KQ [.tmp 8]) (.n (.fn 17 Lo [.tmp 6]) (.n (.fn 32 Dt []) (.e fun _=> .no) (.e fun _=> .no)) (.e fun _=> .no)) (.n (.fn 19 Co [.tmp 4]) (.n (.fn 10 Ez [.tmp 4]) (.e fun _=> .no) (.e fun _=> .no)) (.e fun _=> .no)))) (.n (.fn 68 Kn [.cell 6 54, .tmp 7]) (.n (.fn 9 KH [.tmp 4]) (.n (.fn 8 Lh [.tmp 3]) (.n (.fn 52 Dc [.tmp 6]) (.e fun _=> .no) (.e fun _=> .no)) (.e fun _=> .no)) (.n (.fn 8 B8 [.tmp 3]) (.n (.fn 14 Ei [.tmp 4]) (.e fun _=> .no) (.e fun _=> .no)) (.e fun _=> .no))) (.n (.fn 41 K1 [.cell 4 54]) (.n (.fn 8 Lw [.tmp 3]) (.n (.fn 58 DJ []) (.e fun _=> .no) (.e fun _=> .no)) (.e fun _=> .no)) (.n (.fn 10 CF []) (.n (.fn 9 EP [.tmp 4]) (.e fun _=> .no) (.e fun _=> .no)) (.e fun _=> .no)))))) (.n (.fn 45 c6 [.tmp 2]) (.n (.fn 17 J3 [.tmp 6, .tmp 7]) (.n (.fn 76 Kc [.cell 4 28, .tmp 5]) (.n (.fn 10 Ku [.tmp 2]) (.n (.fn 9 K7 [.tmp 4]) (.n (.fn 58 CS []) (.e fun _=> .no) (.e fun _=> .no)) (.n (.fn 19 E2 [.tmp 4]) (.e fun _=> .no) (.e fun _=> .no))) (.n (.fn 9 LC [.tmp 2]) (.n (.fn 4 DX [.cell 2 28]) (.e fun _=> .no) (.e fun _=> .no)) (.e fun _=> .no))) (.n (.fn 5 KN [.cell 2 28]) (.n (.fn 23 Lm [.tmp 2]) (.n (.fn 65 Dp []) (.e fun _=> .no) (.e fun _=> .no)) (.e fun _=> .no)) (.n (.fn 134 Ck []) (.n (.fn 8 Ev []) (.e fun _=> .no) (.e fun _=> .no)) (.e fun _=> .no)))) (.n (.fn 7 Kl [.cell 0 28]) (.n (.fn 39 KF [.tmp 4]) (.n (.fn 27 Lf [.tmp 4, .tmp 5]) (.n (.fn 27 C8 [.tmp 2]) (.e fun _=> .no) (.e fun _=> .no)) (.e fun _=> .no)) (.n (.fn 121 B4 [.tmp 4]) (.n (.fn 8 Ed [.tmp 2]) (.e fun _=> .no) (.e fun _=> .no)) (.e fun _=> .no))) (.n (.fn 52 KZ [.cell 4 4]) (.n (.fn 18 Lu [.tmp 4]) (.n (.fn 25 DF [.tmp 2]) (.e fun _=> .no) (.e fun _=> .no)) (.e fun _=> .no)) (.n (.fn 116 CB []) (.n (.fn 6 EL [.tmp 2]) (.e fun _=> .no) (.e fun _=> .no)) (.e fun _=> .no))))) (.n (.fn 6 J7 [.tmp 2]) (.n (.fn 2 Kh [.cell 0 28]) (.n (.fn 35 Ky [.tmp 4, .tmp 5, .tmp 6]) (.n (.fn 33 Lb [.tmp 8]) (.n (.fn 17 C0 [.tmp 3]) (.e fun _=> .no) (.e fun _=> .no)) (.e fun _=> .no)) (.n (.fn 6 BV []) (.n (.fn 19 D5 [.tmp 4]) (.e fun _=> .no) (.e fun _=> .no)) (.e fun _=> .no))) (.n (.fn 115 KT [.cell 4 54]) (.n (.fn 10 Lq [.tmp 4]) (.n (.fn 17 Dx [.tmp 4]) (.e fun _=> .no) (.e fun _=> .no)) (.e fun _=> .no)) (.n (.fn 27 Cs []) (.n (.fn 7 ED [.tmp 2]) (.e fun _=> .no) (.e fun _=> .no)) (.e fun _=> .no)))) (.n (.fn 11 Kp [.cell 6 28]) (.n (.fn 56 KJ [.tmp 4, .tmp 5]) (.n (.fn 18 Li []) (.n (.fn 19 Dg [.cell 0 153]) (.e fun _=> .no) (.e fun _=> .no)) (.e fun _=> .no)) (.n (.fn 18 Cc [.tmp 4]) (.n (.fn 27 Em [.tmp 4]) (.e fun _=> .no) (.e fun _=> .no)) (.e fun _=> .no))) (.n (.fn 37 K3 [.tmp 6]) (.n (.fn 12 Ly [.tmp 5]) (.n (.fn 29 DN []) (.e fun _=> .no) (.e fun _=> .no)) (.e fun _=> .no)) (.n (.fn 26 CJ []) (.n (.fn 8 EU []) (.e fun _=> .no) (.e fun _=> .no)) (.e fun _=> .no))))))))
noncomputable def aK:Nat->FD:=E4.get
theorem du:∀g,(aK g).Ok Tryz.prog g:=
 Tr.n7 (p:=fun g d=>d.Ok Tryz.prog g) (f:=fun g=>g) E4
   ⟨trivial,⟨trivial,⟨MZ,⟨M5,⟨HD,⟨HV,⟨Iw,⟨CM,(fun _=>trivial),(fun _=>trivial)⟩,⟨EX,(fun _=>trivial),(fun _=>trivial)⟩⟩,⟨I8,⟨DS,(fun _=>trivial),(fun _=>trivial)⟩,(fun _=>trivial)⟩⟩,⟨Ig,⟨IP,⟨Dj,(fun _=>trivial),(fun _=>trivial)⟩,(fun _=>trivial)⟩,⟨Cf,⟨Ep,(fun _=>trivial),(fun _=>trivial)⟩,(fun _=>trivial)⟩⟩⟩,⟨HM,⟨H6,⟨IF,⟨C3,(fun _=>trivial),(fun _=>trivial)⟩,(fun _=>trivial)⟩,⟨BZ,⟨D8,(fun _=>trivial),(fun _=>trivial)⟩,(fun _=>trivial)⟩⟩,⟨Io,⟨I0,⟨DA,(fun _=>trivial),(fun _=>trivial)⟩,(fun _=>trivial)⟩,⟨Cv,⟨EG,(fun _=>trivial),(fun _=>trivial)⟩,(fun _=>trivial)⟩⟩⟩⟩,⟨Hz,⟨HI,⟨HZ,⟨IA,⟨CV,(fun _=>trivial),(fun _=>trivial)⟩,(fun _=>trivial)⟩,⟨Jc,⟨D0,(fun _=>trivial),(fun _=>trivial)⟩,(fun _=>trivial)⟩⟩,⟨Ik,⟨IW,⟨Ds,(fun _=>trivial),(fun _=>trivial)⟩,(fun _=>trivial)⟩,⟨Cn,⟨Ey,(fun _=>trivial),(fun _=>trivial)⟩,(fun _=>trivial)⟩⟩⟩,⟨HQ,⟨Ia,⟨IK,⟨Db,(fun _=>trivial),(fun _=>trivial)⟩,(fun _=>trivial)⟩,⟨B7,⟨Eh,(fun _=>trivial),(fun _=>trivial)⟩,(fun _=>trivial)⟩⟩,⟨Is,⟨I4,⟨DI,(fun _=>trivial),(fun _=>trivial)⟩,(fun _=>trivial)⟩,⟨CE,⟨EO,(fun _=>trivial),(fun _=>trivial)⟩,(fun _=>trivial)⟩⟩⟩⟩⟩,⟨M3,⟨M7,⟨HG,⟨HX,⟨Iy,⟨CQ,(fun _=>trivial),(fun _=>trivial)⟩,⟨E1,(fun _=>trivial),(fun _=>trivial)⟩⟩,⟨Ja,⟨DW,(fun _=>trivial),(fun _=>trivial)⟩,(fun _=>trivial)⟩⟩,⟨Ii,⟨IU,⟨Dn,(fun _=>trivial),(fun _=>trivial)⟩,(fun _=>trivial)⟩,⟨Cj,⟨Eu,(fun _=>trivial),(fun _=>trivial)⟩,(fun _=>trivial)⟩⟩⟩,⟨HO,⟨H8,⟨II,⟨C7,(fun _=>trivial),(fun _=>trivial)⟩,(fun _=>trivial)⟩,⟨B3,⟨Ec,(fun _=>trivial),(fun _=>trivial)⟩,(fun _=>trivial)⟩⟩,⟨Iq,⟨I2,⟨DE,(fun _=>trivial),(fun _=>trivial)⟩,(fun _=>trivial)⟩,⟨CA,⟨EK,(fun _=>trivial),(fun _=>trivial)⟩,(fun _=>trivial)⟩⟩⟩⟩,⟨HB,⟨HK,⟨H4,⟨ID,⟨CZ,(fun _=>trivial),(fun _=>trivial)⟩,(fun _=>trivial)⟩,⟨BU,⟨D4,(fun _=>trivial),(fun _=>trivial)⟩,(fun _=>trivial)⟩⟩,⟨⟨BQ,BO⟩,⟨IY,⟨Dw,(fun _=>trivial),(fun _=>trivial)⟩,(fun _=>trivial)⟩,⟨Cr,⟨EC,(fun _=>trivial),(fun _=>trivial)⟩,(fun _=>trivial)⟩⟩⟩,⟨HT,⟨Ic,⟨trivial,⟨Df,(fun _=>trivial),(fun _=>trivial)⟩,(fun _=>trivial)⟩,⟨Cb,⟨El,(fun _=>trivial),(fun _=>trivial)⟩,(fun _=>trivial)⟩⟩,⟨Iu,⟨I6,⟨DM,(fun _=>trivial),(fun _=>trivial)⟩,(fun _=>trivial)⟩,⟨CI,⟨ET,(fun _=>trivial),(fun _=>trivial)⟩,(fun _=>trivial)⟩⟩⟩⟩⟩⟩,⟨trivial,⟨M0,⟨M6,⟨HE,⟨HW,⟨Ix,⟨CO,(fun _=>trivial),(fun _=>trivial)⟩,⟨EZ,(fun _=>trivial),(fun _=>trivial)⟩⟩,⟨I9,⟨DU,(fun _=>trivial),(fun _=>trivial)⟩,(fun _=>trivial)⟩⟩,⟨Ih,⟨IQ,⟨Dl,(fun _=>trivial),(fun _=>trivial)⟩,(fun _=>trivial)⟩,⟨Ch,⟨Es,(fun _=>trivial),(fun _=>trivial)⟩,(fun _=>trivial)⟩⟩⟩,⟨HN,⟨H7,⟨IG,⟨C5,(fun _=>trivial),(fun _=>trivial)⟩,(fun _=>trivial)⟩,⟨B1,⟨Ea,(fun _=>trivial),(fun _=>trivial)⟩,(fun _=>trivial)⟩⟩,⟨Ip,⟨I1,⟨DC,(fun _=>trivial),(fun _=>trivial)⟩,(fun _=>trivial)⟩,⟨Cy,⟨EI,(fun _=>trivial),(fun _=>trivial)⟩,(fun _=>trivial)⟩⟩⟩⟩,⟨HA,⟨HJ,⟨H3,⟨IB,⟨CX,(fun _=>trivial),(fun _=>trivial)⟩,(fun _=>trivial)⟩,⟨BS,⟨D2,(fun _=>trivial),(fun _=>trivial)⟩,(fun _=>trivial)⟩⟩,⟨Il,⟨IX,⟨Du,(fun _=>trivial),(fun _=>trivial)⟩,(fun _=>trivial)⟩,⟨Cp,⟨EA,(fun _=>trivial),(fun _=>trivial)⟩,(fun _=>trivial)⟩⟩⟩,⟨HS,⟨Ib,⟨IL,⟨Dd,(fun _=>trivial),(fun _=>trivial)⟩,(fun _=>trivial)⟩,⟨B9,⟨Ej,(fun _=>trivial),(fun _=>trivial)⟩,(fun _=>trivial)⟩⟩,⟨It,⟨I5,⟨DK,(fun _=>trivial),(fun _=>trivial)⟩,(fun _=>trivial)⟩,⟨CG,⟨ER,(fun _=>trivial),(fun _=>trivial)⟩,(fun _=>trivial)⟩⟩⟩⟩⟩,⟨M4,⟨Hy,⟨HH,⟨HY,⟨Iz,⟨CT,(fun _=>trivial),(fun _=>trivial)⟩,⟨E3,(fun _=>trivial),(fun _=>trivial)⟩⟩,⟨Jb,⟨DY,(fun _=>trivial),(fun _=>trivial)⟩,(fun _=>trivial)⟩⟩,⟨Ij,⟨IV,⟨Dq,(fun _=>trivial),(fun _=>trivial)⟩,(fun _=>trivial)⟩,⟨Cl,⟨Ew,(fun _=>trivial),(fun _=>trivial)⟩,(fun _=>trivial)⟩⟩⟩,⟨HP,⟨H9,⟨IJ,⟨C9,(fun _=>trivial),(fun _=>trivial)⟩,(fun _=>trivial)⟩,⟨B5,⟨Ee,(fun _=>trivial),(fun _=>trivial)⟩,(fun _=>trivial)⟩⟩,⟨Ir,⟨I3,⟨DG,(fun _=>trivial),(fun _=>trivial)⟩,(fun _=>trivial)⟩,⟨CC,⟨EM,(fun _=>trivial),(fun _=>trivial)⟩,(fun _=>trivial)⟩⟩⟩⟩,⟨HC,⟨HL,⟨H5,⟨IE,⟨C1,(fun _=>trivial),(fun _=>trivial)⟩,(fun _=>trivial)⟩,⟨BW,⟨D6,(fun _=>trivial),(fun _=>trivial)⟩,(fun _=>trivial)⟩⟩,⟨Im,⟨IZ,⟨Dy,(fun _=>trivial),(fun _=>trivial)⟩,(fun _=>trivial)⟩,⟨Ct,⟨EE,(fun _=>trivial),(fun _=>trivial)⟩,(fun _=>trivial)⟩⟩⟩,⟨HU,⟨Ie,⟨IM,⟨Dh,(fun _=>trivial),(fun _=>trivial)⟩,(fun _=>trivial)⟩,⟨Cd,⟨En,(fun _=>trivial),(fun _=>trivial)⟩,(fun _=>trivial)⟩⟩,⟨Iv,⟨I7,⟨DO,(fun _=>trivial),(fun _=>trivial)⟩,(fun _=>trivial)⟩,⟨CK,⟨EV,(fun _=>trivial),(fun _=>trivial)⟩,(fun _=>trivial)⟩⟩⟩⟩⟩⟩⟩
end Go.Proofs.YtpkobkdgcanmjaaGreat
namespace Go.Proofs.YtpkobkdgcanmjaaGreat
abbrev Fix(α:Type){β:Type}(_:β):Type:=α
def gy(K:V->List (Nat×ab)->Prop)(x:Fix (Option dH) K):Prop:=match x with|some (v,Δ,_)=>K v Δ|none=>False
@[go_sem] theorem yK {v:V} {Δ:List (Nat×ab)} {rd:List Nat} {K}:gy K (some (v,Δ,rd))=K v Δ:=propext Iff.rfl
@[go_sem] theorem yL {K}:gy K none=False:=propext Iff.rfl
def V.qF (c:Bool)(v:V):V:=if c=true then v else .a8 []
@[go_sem] theorem E5 (b:Bool):(!!b)=b:=by simp
attribute [go_sem] true_or or_true false_or ne_eq not_false_eq_true decide_true decide_false Bool.not_true Bool.not_false Bool.and_true Bool.true_and Bool.and_false Bool.false_and Bool.or_true Bool.true_or Bool.or_false Bool.false_or beq_self_eq_true Bool.true_eq_false Bool.false_eq_true not_true_eq_false and_true true_and and_false false_and eq_self
@[go_sem] theorem V.E6 (v:V):V.qF true v=v:=rfl
@[go_sem] theorem V.zI (v:V):V.qF false v= .a8 []:=rfl
def gz(c:Bool)(p:Prop):Prop:=c=true->p
@[congr] theorem xp {c c':Bool} {p p':Prop} (h:c=c') (h2:c'=true->p=p'):gz c p=gz c' p':=by
  subst h;cases c
  ·simp[gz]
  ·simp[gz,h2 rfl]
@[go_sem] theorem yM (p:Prop):gz true p=p:=by simp[gz]
@[go_sem] theorem xq (p:Prop):gz false p=True:=by simp[gz]
@[go_sem] theorem yN (a:Bool):gz a True=True:=by simp[gz]
def gA(v:V)(want:Bool):Option Bool:=
 match v with
 | .d (.bool b)=>some (b==want)
 | .a8 []=>some false
 |_=>none
@[go_sem] theorem yO (b:Bool):gA (.d (.bool b)) true=some b:=by simp[gA]
@[go_sem] theorem xr (b:Bool):gA (.d (.bool b)) false=some (!b):=by simp[gA]
@[go_sem] theorem E7 (want:Bool):gA (.a8 []) want=some false:=rfl
@[go_sem] theorem zJ (c b want:Bool):gA (V.qF c (.d (.bool b))) want=some (c&&(b==want)):=by cases c<;>simp[gA,V.qF]
@[go_sem] theorem yP (c b e want:Bool):gA (V.qF c (V.qF e (.d (.bool b)))) want=some (c&&e&&(b==want)):=by cases c<;>cases e<;>simp[gA,V.qF]
def gB(c:Bool)(x:Option dH):Option dH:=
 if c=true then(match x with|some (v,[],_)=>some (v,[],[])|_=>none)else some (.a8 [],[],[])
@[congr] theorem vW {c c':Bool} {x x':Option dH} (h:c=c') (h2:c'=true->x=x'):gB c x=gB c' x':=by
  subst h;cases c
  ·rfl
  ·simp[gB,h2 rfl]
def zK(v:V)(rd:List Nat):Option dH:=some (v,[],rd)
@[go_sem] theorem Jd (v:V) (rd:List Nat):(some (v,[],rd):Option dH)=zK v rd:=by unfold zK;exact Eq.trans rfl rfl
@[go_sem] theorem yQ (c:Bool) (v:V) (rd:List Nat):gB c (zK v rd)=zK (V.qF c v) []:=by cases c<;>rfl
@[go_sem] theorem zL {v:V} {rd:List Nat} {K}:gy K (zK v rd)=K v []:=propext Iff.rfl
@[go_sem] theorem xu (c:Bool) (v:V) (rd:List Nat):gB c (some (v,[],rd))=some (V.qF c v,[],[]):=by cases c<;>rfl
@[go_sem] theorem vX (x:Option dH):gB false x=some (.a8 [],[],[]):=rfl
@[go_sem] theorem E8 (b x:Bool):jf (.d (.bool b)) (V.qF b (.d (.bool x))) (.d (.bool false))=some (.d (.bool (b&&x))):=by cases b<;>rfl
@[go_sem] theorem F9 (b x:Bool):jf (.d (.bool b)) (.d (.bool true)) (V.qF (!b) (.d (.bool x)))=some (.d (.bool (b||x))):=by cases b<;>rfl
@[go_sem] theorem E9 (b x:Bool):jf (.d (.bool (!b))) (.d (.bool true)) (V.qF b (.d (.bool x)))=some (.d (.bool (!b||x))):=by cases b<;>rfl
@[go_sem] theorem zM (x y:V):jf (.d (.bool true)) x y=some x:=rfl
@[go_sem] theorem yR (x y:V):jf (.d (.bool false)) x y=some y:=rfl
@[reducible] def l4:Op->Bool
  | .move _| .assign _| .pick .. | .load .. | .binOp .. | .unOp .. | .nilCheck _| .convert .. | .makeInterface .. | .makeFunc .. | .fieldAddr .. | .indexAddr .. | .extract .. | .build .. | .index .. | .field .. | .lookup .. =>true
  | .call c=>match c.callee with
    | .builtin .len=>true
    | .builtin .min=>true
    | .builtin .max=>true
    |_=>false
  |_=>false
def uE(P:Program)(f:V)(args:List V)(o:Nat->ab)(rs:List D):Prop:=
 match f with
 | .func (.func g) first cap=>match aR o (first++args++cap)with
   |some ds=>dN P g ds (.ret rs)/\D.e8 rs=true
   |none=>False
 |_=>False
def xw(P:Program)(f:V)(args:List V)(o:Nat->ab)(K:V->Prop)(c:Fix Bool (f,args,o,K)):Prop:=
 ∃rs,gz c (uE P f args o rs)/\K (V.qF c (fM rs))
def uF(P:Program)(g:FuncId)(nx:Nat)(K X:V->(Nat->ab)->Nat->Prop)(args:Fix (List V) (K,X))(o:Fix (Nat->ab) (K,X)):Prop:=mT P g args o nx K X
def uG(P:Program)(g:FuncId)(o:Nat->ab)(nx:Nat)(K X:V->(Nat->ab)->Nat->Prop)(ds:Fix (List D) (o,nx,K,X))(all:Fix (List V) (o,nx,K,X)):Prop:=
 mS P g ds o (put o (bH o (V.aA all))) (put o (ki o (V.aA all))) (fun v o'=>K v o' (nx+1)) (fun v o'=>X v o' (nx+1))\/mT P g all o nx K X
def jL(P:Program)(g:FuncId)(K X:V->(Nat->ab)->Nat->Prop)(s:S)(all:List V)(ds:Fix (Option (List D)) (K,X,s,all)):Prop:=
 match ds with
 |some ds=>uG P g s.o s.nx K X ds all
 |none=>uF P g s.nx K X all s.o
@[go_sem] theorem xy {P:Program} {s:S} {ds:List D} {g:FuncId} {all:List V} {K X}:
 jL P g K X s all (some ds)=uG P g s.o s.nx K X ds all:=propext Iff.rfl
def uH(P:Program)(id:Nat)(K X:V->(Nat->ab)->Nat->Prop)(s:S)(args:Fix (List V) (K,X,s)):Prop:=ek P id args s.o s.nx K X
@[go_sem] theorem xz {P:Program} {s:S} {g:FuncId} {all:List V} {K X}:jL P g K X s all none=uF P g s.nx K X all s.o:=propext Iff.rfl
def nd(P:Program)(K X:V->(Nat->ab)->Nat->Prop)(s:S)(f:Fix V (K,X,s))(args:Fix (List V) (K,X,s)):Prop:=
 match f with
 | .func (.func g) first cap=>jL P g K X s (first++args++cap) (aR s.o (first++args++cap))
 | .gW id=>uH P id K X s args
 |_=>False
@[go_sem] theorem zN {P:Program} {s:S} {id:Nat} {args:List V} {K X}:nd P K X s (.gW id) args=uH P id K X s args:=propext Iff.rfl
@[go_sem] theorem yS {P:Program} {s:S} {g:FuncId} {first cap args:List V} {K X}:nd P K X s (.func (.func g) first cap) args=jL P g K X s (first++args++cap) (aR s.o (first++args++cap)):=propext Iff.rfl
def uI(P:Program)(g:FuncId)(o:Nat->ab)(nx:Nat)(K X:V->(Nat->ab)->Nat->Prop)(ds:Fix (List D) (o,nx,K,X))(all:Fix (List V) (o,nx,K,X)):Prop:=
 mS P g ds o (put o (bH o (V.aA all))) (put o (ki o (V.aA all))) (fun v o'=>K v o' (nx+1)) (fun v o'=>X v o' (nx+1))
def rA(P:Program)(g:FuncId)(K X:V->(Nat->ab)->Nat->Prop)(s:S)(all:List V)(ds:Fix (Option (List D)) (K,X,s,all)):Prop:=
 match ds with
 |some ds=>uI P g s.o s.nx K X ds all
 |none=>False
@[go_sem] theorem yT {P:Program} {s:S} {ds:List D} {g:FuncId} {all:List V} {K X}:rA P g K X s all (some ds)=uI P g s.o s.nx K X ds all:=propext Iff.rfl
def vY(P:Program)(K X:V->(Nat->ab)->Nat->Prop)(s:S)(args:Fix (List V) (K,X,s))(r:Fix (Option (FuncId×V)) (K,X,s)):Prop:=
 match r with
 |some (g,y)=>rA P g K X s (y::args) (aR s.o (y::args))
 |none=>False
@[go_sem] theorem zO {P:Program} {s:S} {g:FuncId} {y:V} {args:List V} {K X}:vY P K X s args (some (g,y))=rA P g K X s (y::args) (aR s.o (y::args)):=propext Iff.rfl
def uJ(K:V->Prop)(v:Fix V K):Prop:=
 match v with
 | .d (.iface t y)=>K (.d (.iface t y))
 | .iface t y=>K (.iface t y)
 |_=>False
@[go_sem] theorem Je {t:TypeId} {y:D} {K}:uJ K (.d (.iface t y))=K (.d (.iface t y)):=propext Iff.rfl
@[go_sem] theorem Jf {t:TypeId} {y:V} {K}:uJ K (.iface t y)=K (.iface t y):=propext Iff.rfl
def xA(K:V->List (Nat×ab)->Prop)(id:Nat)(l:Fix (List (D×D)) (K,id)):Prop:=qM id l fun v Δ _=>K v Δ
def vZ(K:V->List (Nat×ab)->Prop)(str:Bool)(zP:Fix (Option dH) (K,str))(left:Fix (Option (Nat×List (D×D))) (K,str)):Prop:=
 match left with
 |some (id,l)=>str=false/\xA K id l
 |none=>gy K zP
@[go_sem] theorem zQ {K} {zP:Option dH} {id:Nat} {l:List (D×D)}:vZ K false zP (some (id,l))=xA K id l:=propext ⟨fun h=>h.2,fun h=>⟨rfl,h⟩⟩
@[go_sem] theorem zR {K} {str:Bool} {zP:Option dH}:vZ K str zP none=gy K zP:=propext Iff.rfl
def rB(P:Program)(X:V->S->Prop)(K:S->Prop)(o:aV)(s:Fix S (X,K,o)):Prop:=
 match o.op with
 | .next x str=>vZ (fun v Δ=>K ⟨ay s.env o.dst v,put s.o Δ,s.nx+1⟩) str (iE s.o (s.ev x) str) (iF s.o (s.ev x))
 | .call c=>match c.callee with
   | .value f=>nd P (fun v o' nx'=>K ⟨ay s.env o.dst v,o',nx'⟩) (fun v o' nx'=>X v ⟨s.env,o',nx'⟩) s (s.ev f) (c.args.toList.map s.ev)
   | .invoke r m=>vY P (fun v o' nx'=>K ⟨ay s.env o.dst v,o',nx'⟩) (fun v o' nx'=>X v ⟨s.env,o',nx'⟩) s (c.args.toList.map s.ev) (lq P m (s.ev r))
   |_=>gy (fun v Δ=>K ⟨ay s.env o.dst v,put s.o Δ,s.nx+1⟩) (dC P s s.nx o.op)
 | .panic x=>uJ (fun v=>X v s) (s.ev x)
 |op=>gy (fun v Δ=>K ⟨ay s.env o.dst v,put s.o Δ,s.nx+1⟩) (dC P s s.nx op)
@[reducible] def eM:Op->Option (Operand×List Operand)
  | .call c=>match c.callee with
    | .value f=>some (f,c.args.toList)
    |_=>none
  |_=>none
def eN(A B:Prop)(t:Fix Bool (A,B)):Prop:=jl t A B
@[go_sem] theorem yU (A B:Prop):eN A B true=A:=lG A B
@[go_sem] theorem xB (A B:Prop):eN A B false=B:=jZ A B
def uK(P:Program)(X:V->S->Prop)(K:S->Prop)(o:aV)(s:S)(f:Operand)(args:List Operand)(c:Fix Bool (X,K,o,s,f,args)):Prop:=
 xw P (s.ev f) (args.map s.ev) s.o (fun v=>K ⟨ay s.env o.dst v,s.o,s.nx+1⟩) c\/eN (rB P X K o s) (K ⟨ay s.env o.dst (.a8 []),s.o,s.nx+1⟩) c
def pH(P:Program)(X:V->S->Prop)(K:S->Prop)(o:aV)(s:S)(c:Fix (Option Bool) (X,K,o,s)):Prop:=
 match c with
 |none=>False
 |some c=>match eM o.op with
  |some (f,args)=>uK P X K o s f args c
  |none=>if l4 o.op=true then gy (fun v _=>K ⟨ay s.env o.dst v,s.o,s.nx+1⟩) (gB c (dC P s s.nx o.op))
   else eN (rB P X K o s) (K ⟨ay s.env o.dst (.a8 []),s.o,s.nx+1⟩) c
def mn(P:Program)(X:V->S->Prop)(K:S->Prop)(l:List aV)(s:Fix S (X,K,l)):Prop:=
 match l with
 |[]=>K s
 |o::l=>match o.gd with
  |none=>rB P X (mn P X K l) o s
  |some (d,want)=>pH P X (mn P X K l) o s (gA (s.env d) want)
def eT(want:Bool)(A B:Prop)(v:Fix V (A,B)):Prop:=
 match v with
 | .d (.bool b)=>jl (b==want) A B
 | .a8 []=>B
 |_=>False
@[go_sem] theorem xC (b:Bool) (A B:Prop):eT true A B (.d (.bool b))=eN A B b:=by simp[eT,eN]
@[go_sem] theorem v3 (b:Bool) (A B:Prop):eT false A B (.d (.bool b))=eN A B (!b):=by simp[eT,eN]
@[go_sem] theorem zS (want:Bool) (A B:Prop):eT want A B (.a8 [])=B:=propext Iff.rfl
@[go_sem] theorem yV (c b want:Bool) (A B:Prop):eT want A B (V.qF c (.d (.bool b)))=eN A B (c&&(b==want)):=by cases c<;>simp[eT,V.qF,eN]
abbrev KD:=V->List (Nat×ab)->List Nat->Prop
abbrev XD:=V->List Nat->List Nat->Prop
def uL(P:Program)(g:FuncId)(K:KD)(X:XD)(o:Nat->ab)(rd:List Nat)(ds:Fix (List D) (K,X,o,rd))(all:Fix (List V) (K,X,o,rd)):Prop:=
 mY P g ds (fun v=>K v (bH o (V.aA all)) rd) (fun v=>K v [] rd) (fun v=>X v [] rd)
def n8(P:Program)(g:FuncId)(K:KD)(X:XD)(o:Nat->ab)(nx fr:Nat)(all:Fix (List V) (K,X,o,nx)):Prop:=gk P g all o nx fr K X
def qG(P:Program)(g:FuncId)(K:KD)(X:XD)(o:Nat->ab)(nx fr:Nat)(rd:List Nat)(ds:Fix (List D) (K,X,o,nx,rd))(all:Fix (List V) (K,X,o,nx,rd)):Prop:=uL P g K X o rd ds all\/n8 P g K X o nx fr all
def l5(P:Program)(K:KD)(X:XD)(o:Nat->ab)(nx fr:Nat)(rd:List Nat)(g:FuncId)(all:List V)(ds:Fix (Option (List D)) (K,X,o,nx,rd,all)):Prop:=
 match ds with
 |some ds=>qG P g K X o nx fr rd ds all
 |none=>n8 P g K X o nx fr all
@[go_sem] theorem xD {P:Program} {o:Nat->ab} {nx fr:Nat} {rd:List Nat} {ds:List D} {g:FuncId} {all:List V} {K X}:l5 P K X o nx fr rd g all (some ds)=qG P g K X o nx fr rd ds all:=propext Iff.rfl
@[go_sem] theorem xE {P:Program} {o:Nat->ab} {nx fr:Nat} {rd:List Nat} {g:FuncId} {all:List V} {K X}:l5 P K X o nx fr rd g all none=n8 P g K X o nx fr all:=propext Iff.rfl
def rC(P:Program)(K:KD)(X:XD)(o:Nat->ab)(nx fr:Nat)(rd:Fix (List Nat) (K,X,o,nx))(f:Fix V (K,X,o,nx))(args:Fix (List V) (K,X,o,nx)):Prop:=
 match f with
 | .func (.func g) first cap=>l5 P K X o nx fr rd g (first++args++cap) (aR o (first++args++cap))
 |_=>False
@[go_sem] theorem yW {P:Program} {o:Nat->ab} {nx fr:Nat} {rd:List Nat} {g:FuncId} {first cap args:List V} {K X}:rC P K X o nx fr rd (.func (.func g) first cap) args=l5 P K X o nx fr rd g (first++args++cap) (aR o (first++args++cap)):=propext Iff.rfl
def pI(K:KD)(rd:List Nat)(x:Fix (Option dH) (K,rd)):Prop:=match x with|some (v,Δ,_)=>K v Δ rd|none=>False
@[go_sem] theorem yX {v:V} {Δ:List (Nat×ab)} {r rd:List Nat} {K}:pI K rd (some (v,Δ,r))=K v Δ rd:=propext Iff.rfl
@[go_sem] theorem zT {v:V} {r rd:List Nat} {K}:pI K rd (zK v r)=K v [] rd:=propext Iff.rfl
def xF(P:Program)(K:KD)(X:XD)(fr:Nat)(o:aV)(s:Fix S (K,X,o)):Prop:=
 match eM o.op with
 |some (f,args)=>rC P K X s.o s.nx fr (eb s o.op) (s.ev f) (args.map s.ev)
 |none=>pI K (eb s o.op) (dC P s fr o.op)
def uM(P:Program)(KB:List Nat->Fp->Prop)(pr:List (List Nat))(l:List aV)(fr:Nat)(fp:Fix Fp (KB,l))(bad ws:Fix (List Nat) (KB,l))(s:Fix S (KB,l)):Prop:=ey P KB pr l fr s fp bad ws
def kE(P:Program)(K:S->Fp->Prop)(KP:V->List Nat->Fp->Prop)(pr:List (List Nat))(l:List aV)(fr:Nat)(s:Fix S (K,KP,l))(fp:Fix Fp (K,KP,l)):Prop:=
 match l with
 |[]=>K s fp
 |o::l=>match o.gd with
  |none=>xF P (fun v Δ rd=>kE P K KP pr l (fr+1) ⟨ay s.env o.dst v,put s.o Δ,s.nx⟩ (fp++[(rd,Δ.map (·.1))]))
   (fun v ws rd=>uM P (KP v) pr l (fr+1) (fp++[(rd,[])]) [fp.length] (ws++fp.flatMap (·.2)) ⟨ay s.env o.dst .bO,s.o,s.nx⟩) fr o s
  |some (d,want)=>eT want (xF P (fun v Δ rd=>kE P K KP pr l (fr+1) ⟨ay s.env o.dst v,put s.o Δ,s.nx⟩ (fp++[(rd,Δ.map (·.1))]))
   (fun v ws rd=>uM P (KP v) pr l (fr+1) (fp++[(rd,[])]) [fp.length] (ws++fp.flatMap (·.2)) ⟨ay s.env o.dst .bO,s.o,s.nx⟩) fr o s)
   (kE P K KP pr l (fr+1) ⟨ay s.env o.dst (.a8 []),s.o,s.nx⟩ (fp++[([],[])])) (s.env d)
def yY(pr:List (List Nat))(nx:Nat)(Q:eo->S->Prop)(s:Fix S Q)(fp:Fix Fp Q):Prop:=qx pr nx Q s fp
def pJ(A B:Prop)(v:Fix V (A,B)):Prop:=
 match v with
 | .d (.bool t)=>eN A B t
 | .cJ=>A/\B
 |_=>False
@[go_sem] theorem zU (A B:Prop):pJ A B .cJ=(A/\B):=propext Iff.rfl
@[go_sem] theorem yZ (t:Bool) (A B:Prop):pJ A B (.d (.bool t))=eN A B t:=propext Iff.rfl
def xG{ι:Type}(b:Nat)(st:ι->S)(uN:ι->Prop)(v5:ι->Nat)(i:ι)(s:S):Prop:=∃j,uN j/\v5 j<v5 i/\pP b s (st j)
def ng(next:S->Prop)(Q:eo->S->Prop)(e:eo)(s:S):Prop:=match e with| .normal=>next s|e=>Q e s
section
variable {N:S->Prop}{Q:eo->S->Prop}{s:S}
@[go_sem ↓] theorem v7:ng N Q .normal s=N s:=propext Iff.rfl
@[go_sem ↓] theorem y0 {id:Nat}:ng N Q (.exit id) s=Q (.exit id) s:=propext Iff.rfl
@[go_sem ↓] theorem zV:ng N Q .ret s=Q .ret s:=propext Iff.rfl
@[go_sem ↓] theorem zW {v:V}:ng N Q (.aJ v) s=Q (.aJ v) s:=propext Iff.rfl
end
def uO(b:Nat)(body:(eo->S->Prop)->S->Prop)(Q:eo->S->Prop)(s:Fix S (body,Q)):Prop:=
 ∃ (ι:Type) (st:ι->S) (uN:ι->Prop) (v5:ι->Nat) (i0:ι),uN i0/\pP b s (st i0)/\∀i,uN i->body (ng (xG b st uN v5 i) Q) (st i)
def y5(P:Program)(n:Nat)(rd:Bool)(ps:List Nat)(x y:IC)(Q:eo->S->Prop)(s:Fix S (x,y,Q))(g:Fix V (x,y,Q)):Prop:=rd=false/\qd P n g ps x y Q s
def l6(P:Program)(n b:Nat)(rd:Bool)(c:IC)(Q:eo->S->Prop)(s:Fix S (c,Q)):Prop:=
 match c with
 | .skip=>Q .normal s
 | .aa l=>mn P (fun v s=>Q (.aJ v) s) (Q .normal) l s
 | .bb l pr=>kE P (yY pr (s.nx+l.length) Q) (pv pr l s Q) pr l s.nx s []
 | .seq x y=>l6 P n b rd x (jX (fun s=>l6 P n b rd y Q s) Q) s
 | .cond c x y=>pJ (l6 P n b rd x Q s) (l6 P n b rd y Q s) (s.ev c)
 | .block id x=>l6 P n b rd x (cR id Q) s
 | .loop x=>uO b (fun Q s=>l6 P n b rd x Q s) Q s
 | .exit id=>Q (.exit id) s
 | .ret=>Q .ret s
 | .sI g ps x y=>y5 P n rd ps x y Q s (s.ev g)
 | .bad=>False
section
variable {P:Program}{n b:Nat}{rd:Bool}
theorem gk.mono {P:Program}{g:FuncId}{args:List V}{o:Nat->ab}{nx fr:Nat}{K K':KD}{X X':XD}(hK:∀v Δ r,K v Δ r->K' v Δ r)(hX:∀v w r,X v w r->X' v w r)(h:gk P g args o nx fr K X):gk P g args o nx fr K' X':=by
 obtain⟨rd,Δ,h1,⟨rs,h2,h3⟩|⟨x,h2,h3⟩|⟨v,h2,h3⟩⟩:=h
 ·exact⟨rd,Δ,h1, .inl ⟨rs,h2,hK _ _ _ h3⟩⟩
 ·exact⟨rd,Δ,h1, .inr (.inl ⟨x,h2,hX _ _ _ h3⟩)⟩
 ·exact⟨rd,Δ,h1, .inr (.inr ⟨v,h2,hK _ _ _ h3⟩)⟩
theorem mY.mono {P:Program}{g:FuncId}{ds:List D}{Kf Kb KX LF LG LH:V->Prop}(h1:∀v,Kf v->LF v)(h2:∀v,Kb v->LG v)(h3:∀v,KX v->LH v)(h:mY P g ds Kf Kb KX):mY P g ds LF LG LH:=by
 rcases h with⟨rs,a,b|⟨b,c⟩⟩|⟨x,a,b,c⟩|⟨v,a,b⟩
 ·exact .inl ⟨rs,a, .inl (h1 _ b)⟩
 ·exact .inl ⟨rs,a, .inr ⟨b,h2 _ c⟩⟩
 ·exact .inr (.inl ⟨x,a,b,h3 _ c⟩)
 ·exact .inr (.inr ⟨v,a,h1 _ b⟩)
end
def v8(P:Program)(rs:List ResultVar)(K X:V->(Nat->ab)->Nat->Prop)(e:eo)(s:S):Prop:=fD P rs K X e s
section
variable {P:Program}{g:FuncId}{ds:List D}{o:Nat->ab}{nx:Nat}{K X:V->(Nat->ab)->Nat->Prop}{all:List V}
variable {K:KD}{X:XD}{rd:List Nat}{fr:Nat}
end
@[go_sem] theorem Fa (o:Nat->ab):put o []=o:=rfl
@[go_sem] theorem sG (o:Nat->ab) (x:Nat×ab) (l:List (Nat×ab)):put o (x::l)=put (cK o x.1 x.2) l:=rfl
@[go_sem] theorem uP {α:Type} (f:Nat->α) (i:Nat) (x:α):cK f i x i=x:=by simp
@[go_sem] theorem uQ {α:Type} (f:Nat->α) (i j:Nat) (x:α) (h:j≠i):cK f i x j=f j:=by simp[h]
@[go_sem] theorem v9 (v:V) (l:List V):bt (v::l) 0=v:=rfl
@[go_sem] theorem wa (v:V) (l:List V) (i:Nat):bt (v::l) (i+1)=bt l i:=rfl
@[go_sem] theorem xH (i:Nat):bt [] i= .a8 []:=by simp[bt]
@[go_sem] theorem zX {P:Program} {o:Nat->ab} {t:TypeId} {id off:Nat}:gb P o t (.ptr id off)=match o id with
 | .row cs=>match cn P t cs off with
   |some v=>some (v,[],[id])
   |none=>none
 |_=>none:=by unfold gb;exact Eq.trans rfl rfl
@[go_sem] theorem Fb {P:Program} {o:Nat->ab} {t:TypeId} {cs:List D} {off:Nat}:gb P o t (.pp cs off)=match cn P t (cs.map .d) off with
 |some v=>some (v,[],[])
 |none=>none:=by unfold gb;exact Eq.trans rfl rfl
@[go_sem] theorem Fc {P:Program} {o:Nat->ab} {t:TypeId} {id ep i sz off:Nat}:gb P o t (.pe id ep i sz off)=match o id with
 | .arr dL _ gL es=>if ep=dL/\sz=gL then match es[i]? with
  |some e=>match cn P t (e.cells.map .d) off with
   |some v=>some (v,[],[id])
   |none=>none
  |none=>none
   else none
 |_=>none:=by unfold gb;exact Eq.trans rfl rfl
section
variable {P:Program}{o:Nat->ab}{t:TypeId}{op:BinOp}{kn:Bool}
@[go_sem] theorem zY {k:IntKind} {a b:Int}:bI P o op t kn (.d (.int k a)) (.d (.int k b))=match o7 op k a b with
 |some v=>one v
 |none=>jy P o op t kn (.d (.int k a)) (.d (.int k b)):=by
  simp only[bI,nH,if_true]
  cases o7 op k a b<;>rfl
@[go_sem] theorem zZ {a b:Bool} (h:gJ P t=true):bI P o .eql t kn (.d (.bool a)) (.d (.bool b))=one (.d (.bool (a==b))):=by simp only[bI,nH,tK,h,if_true]
@[go_sem] theorem z0 {a b:Bool} (h:gJ P t=true):bI P o .neq t kn (.d (.bool a)) (.d (.bool b))=one (.d (.bool (a !=b))):=by simp only[bI,nH,tK,h,if_true]
@[go_sem] theorem z3 {a b:List UInt8}:bI P o .eql t kn (.d (.str a)) (.d (.str b))=one (.d (.bool (a==b))):=by unfold bI;exact Eq.trans rfl rfl
@[go_sem] theorem z4 {a b:List UInt8}:bI P o .neq t kn (.d (.str a)) (.d (.str b))=one (.d (.bool (a !=b))):=by unfold bI;exact Eq.trans rfl rfl
@[go_sem] theorem z5 {a b:List D}:bI P o op t kn (.d (.agg a)) (.d (.agg b))=jy P o op t kn (.d (.agg a)) (.d (.agg b)):=by unfold bI;exact Eq.trans rfl rfl
theorem jq{x:V}{y:V}(h:match y with| .d (.int _ _)| .d (.bool _)| .d (.str _)=>False|_=>True):nH P op t x y=none:=by
 unfold nH
 split<;>first|exact h.elim|rfl
@[go_sem] theorem y6 {x:V}:bI P o op t kn x .cu=jy P o op t kn x .cu:=by unfold bI;rw[jq trivial]
@[go_sem] theorem y7 {x:V}:bI P o op t kn x (.d .dv)=jy P o op t kn x (.d .dv):=by unfold bI;rw[jq trivial]
@[go_sem] theorem y8 {x:V}:bI P o op t kn x (.d .fL)=jy P o op t kn x (.d .fL):=by unfold bI;rw[jq trivial]
@[go_sem] theorem y9 {x:V}:bI P o op t kn x (.d .fj)=jy P o op t kn x (.d .fj):=by unfold bI;rw[jq trivial]
@[go_sem] theorem za {x:V}:bI P o op t kn x (.d .eA)=jy P o op t kn x (.d .eA):=by unfold bI;rw[jq trivial]
@[go_sem] theorem Fe {b:Bool}:o8 .not (.d (.bool b))=some (.d (.bool !b)):=by unfold o8;exact Eq.trans rfl rfl
@[go_sem] theorem Ff:o8 .not .cJ=some .cJ:=by unfold o8;exact Eq.trans rfl rfl
@[go_sem] theorem Fg {k:IntKind} {n:Int}:o8 .neg (.d (.int k n))=some (.d (.int k (k.wrap (-n)))):=by unfold o8;exact Eq.trans rfl rfl
end
@[go_sem] theorem D.z6 (cs:List D):(D.agg cs).cells=cs:=rfl
@[go_sem] theorem D.z7 (k:IntKind) (n:Int):(D.int k n).cells=[.int k n]:=rfl
@[go_sem] theorem D.zb (b:Bool):(D.bool b).cells=[.bool b]:=rfl
@[go_sem] theorem D.z8 (b:List UInt8):(D.str b).cells=[.str b]:=rfl
@[go_sem] theorem D.Fh (b:List D):(D.sl b).cells=[.sl b]:=rfl
@[go_sem] theorem D.Fi (a b:List D):(D.mp a b).cells=[.mp a b]:=rfl
@[go_sem] theorem D.xI (t:TypeId) (x:D):(D.iface t x).cells=[.iface t x]:=rfl
@[go_sem] theorem D.zc:D.dv.cells=[.dv]:=rfl
@[go_sem] theorem D.zd:D.fL.cells=[.fL]:=rfl
@[go_sem] theorem D.ze:D.fj.cells=[.fj]:=rfl
@[go_sem] theorem D.zf:D.eA.cells=[.eA]:=rfl
attribute [go_sem] V.ofConst V.bC o7 tK jg qh mR gU dA dB jG cZ fE jh ji jj nI dZ tL fy cD aR cn nj jO iy V.cells D.put bH V.ids V.aA fM D.e8 D.flat R.flat
attribute [go_sem] pR List.take_succ_cons List.take_zero List.take_nil List.drop_zero List.drop_succ_cons List.drop_nil
attribute [go_sem] List.map_cons List.map_nil List.length_cons List.length_nil List.cons_append List.nil_append List.append_nil List.getElem?_cons_zero List.getElem?_cons_succ Option.bind_some Option.bind_none Option.map_some Option.map_none ab.aN ab.aO
section
variable {P:Program}{n b:Nat}{rd:Bool}{Q:eo->S->Prop}{s:S}
@[go_sem] theorem Fj:l6 P n b rd .skip Q s=Q .normal s:=propext Iff.rfl
@[go_sem] theorem Ga {l:List aV}:l6 P n b rd (.aa l) Q s=mn P (fun v s=>Q (.aJ v) s) (Q .normal) l s:=propext Iff.rfl
@[go_sem] theorem Gb {l:List aV} {pr:List (List Nat)}:l6 P n b rd (.bb l pr) Q s=kE P (yY pr (s.nx+l.length) Q) (pv pr l s Q) pr l s.nx s []:=propext Iff.rfl
@[go_sem] theorem Gc {x y:IC}:l6 P n b rd (.seq x y) Q s=l6 P n b rd x (jX (fun s=>l6 P n b rd y Q s) Q) s:=propext Iff.rfl
@[go_sem] theorem Fk {c:Operand} {x y:IC}:l6 P n b rd (.cond c x y) Q s=pJ (l6 P n b rd x Q s) (l6 P n b rd y Q s) (s.ev c):=propext Iff.rfl
@[go_sem] theorem z9 {id:Nat} {x:IC}:l6 P n b rd (.block id x) Q s=l6 P n b rd x (cR id Q) s:=propext Iff.rfl
@[go_sem] theorem Fl {x:IC}:l6 P n b rd (.loop x) Q s=uO b (fun Q s=>l6 P n b rd x Q s) Q s:=propext Iff.rfl
@[go_sem] theorem Fm {id:Nat}:l6 P n b rd (.exit id) Q s=Q (.exit id) s:=propext Iff.rfl
@[go_sem] theorem Gd:l6 P n b rd .ret Q s=Q .ret s:=propext Iff.rfl
@[go_sem] theorem Ge {g:Operand} {ps:List Nat} {x y:IC}:l6 P n b rd (.sI g ps x y) Q s=y5 P n rd ps x y Q s (s.ev g):=propext Iff.rfl
@[go_sem] theorem Fo {X:V->S->Prop} {K:S->Prop}:mn P X K [] s=K s:=propext Iff.rfl
@[go_sem] theorem Aa {X:V->S->Prop} {K:S->Prop} {d:Option Nat} {op:Op} {l:List aV}:mn P X K (⟨d,op,none⟩::l) s=rB P X (mn P X K l) ⟨d,op,none⟩ s:=propext Iff.rfl
@[go_sem] theorem Ab {X:V->S->Prop} {K:S->Prop} {d:Option Nat} {op:Op} {g:Nat} {w:Bool} {l:List aV}:mn P X K (⟨d,op,some (g,w)⟩::l) s=pH P X (mn P X K l) ⟨d,op,some (g,w)⟩ s (gA (s.env g) w):=propext Iff.rfl
variable {X:V->S->Prop}{K:S->Prop}{d:Option Nat}{op:Op}{g:Option (Nat×Bool)}{f:Operand}{args:Array Operand}{ts:Array TypeId}{c:Bool}
@[reducible] def Ac:Op->Bool
  | .call c=>match c.callee with
    | .value _=>true
    | .invoke .. =>true
    |_=>false
  | .panic _=>true
  | .next .. =>true
  |_=>false
@[go_sem] theorem Jg (h:Ac op=false):rB P X K ⟨d,op,g⟩ s=gy (fun v Δ=>K ⟨ay s.env d v,put s.o Δ,s.nx+1⟩) (dC P s s.nx op):=by
  unfold rB
  cases op with
  |call c=>
   obtain⟨vq,args,ts⟩:=c
   cases vq with
   |value f=>simp[Ac]at h
   |invoke r m=>simp[Ac]at h
   |_=>rfl
  |panic x=>simp[Ac]at h
  |next x str=>simp[Ac]at h
  |_=>rfl
@[go_sem] theorem Fq {x:Operand} {str:Bool}:rB P X K ⟨d, .next x str,g⟩ s=vZ (fun v Δ=>K ⟨ay s.env d v,put s.o Δ,s.nx+1⟩) str (iE s.o (s.ev x) str) (iF s.o (s.ev x)):=propext Iff.rfl
@[go_sem] theorem Fs:rB P X K ⟨d, .call ⟨.value f,args,ts⟩,g⟩ s=nd P (fun v o' nx'=>K ⟨ay s.env d v,o',nx'⟩) (fun v o' nx'=>X v ⟨s.env,o',nx'⟩) s (s.ev f) (args.toList.map s.ev):=propext Iff.rfl
@[go_sem] theorem zg {m:String}:rB P X K ⟨d, .call ⟨.invoke f m,args,ts⟩,g⟩ s=vY P (fun v o' nx'=>K ⟨ay s.env d v,o',nx'⟩) (fun v o' nx'=>X v ⟨s.env,o',nx'⟩) s (args.toList.map s.ev) (lq P m (s.ev f)):=propext Iff.rfl
@[go_sem] theorem Ad:rB P X K ⟨d, .panic f,g⟩ s=uJ (fun v=>X v s) (s.ev f):=propext Iff.rfl
@[go_sem] theorem Ae:pH P X K ⟨d, .call ⟨.value f,args,ts⟩,g⟩ s (some c)=uK P X K ⟨d, .call ⟨.value f,args,ts⟩,g⟩ s f args.toList c:=propext Iff.rfl
@[go_sem] theorem Af (h:l4 op=true):pH P X K ⟨d,op,g⟩ s (some c)=gy (fun v _=>K ⟨ay s.env d v,s.o,s.nx+1⟩) (gB c (dC P s s.nx op)):=by
  have h2:eM op=none:=by
   cases hc:eM op with
   |none=>rfl
   |some x=>
    exfalso
    unfold eM at hc
    split at hc
    ·split at hc
     ·rename_i hv;simp[l4,hv]at h
     ·cases hc
    ·cases hc
  simp only[pH,h2,h,if_true]
@[go_sem] theorem Ag (h:l4 op=false) (h2:eM op=none):pH P X K ⟨d,op,g⟩ s (some c)=eN (rB P X K ⟨d,op,g⟩ s) (K ⟨ay s.env d (.a8 []),s.o,s.nx+1⟩) c:=by
  simp[pH,h2,h]
@[go_sem] theorem zh {l:List Operand}:uK P X K ⟨d,op,g⟩ s f l false=K ⟨ay s.env d (.a8 []),s.o,s.nx+1⟩:=by
  refine propext ⟨fun h=> ?_,fun h=> .inr ⟨(fun e=>by cases e),fun _=>h⟩⟩
  rcases h with⟨rs,_,h⟩|h
  ·exact h
  ·exact h.2 rfl
@[go_sem] theorem Ah {l:List Operand} (hl:args.toList=l):uK P X K ⟨d, .call ⟨.value f,args,ts⟩,g⟩ s f l true=rB P X K ⟨d, .call ⟨.value f,args,ts⟩,g⟩ s:=by
  subst hl
  refine propext ⟨fun h=> ?_,fun h=> .inr ⟨fun _=>h,(fun e=>by cases e)⟩⟩
  rcases h with⟨rs,h1,h⟩|h
  ·have h1:=h1 rfl
   unfold uE at h1
   unfold rB nd jL
   simp only
   split at h1
   ·rename_i fv gg first cap hf
    simp only[hf]
    split at h1
    ·rename_i ds dc
     simp only[dc]
     exact .inl ⟨.ret rs,h1.1, .inr (.inl ⟨h1.2,h⟩)⟩
    ·exact h1.elim
   ·exact h1.elim
  ·exact h.1 rfl
variable {KV:KD}{XV:XD}
@[go_sem] theorem Ft {fr:Nat}:xF P KV XV fr ⟨d, .call ⟨.value f,args,ts⟩,g⟩ s=rC P KV XV s.o s.nx fr (eb s (.call ⟨.value f,args,ts⟩)) (s.ev f) (args.toList.map s.ev):=propext Iff.rfl
@[go_sem] theorem Jh {fr:Nat} (h2:eM op=none):xF P KV XV fr ⟨d,op,g⟩ s=pI KV (eb s op) (dC P s fr op):=by simp[xF,h2]
variable {KS:S->Prop}
@[go_sem ↓] theorem wb:jX KS Q .normal s=KS s:=propext Iff.rfl
@[go_sem ↓] theorem zi {id:Nat}:jX KS Q (.exit id) s=Q (.exit id) s:=propext Iff.rfl
@[go_sem ↓] theorem Ai:jX KS Q .ret s=Q .ret s:=propext Iff.rfl
@[go_sem ↓] theorem Aj {v:V}:jX KS Q (.aJ v) s=Q (.aJ v) s:=propext Iff.rfl
@[go_sem ↓] theorem u1 {id:Nat}:cR id Q .normal s=Q .normal s:=propext Iff.rfl
@[go_sem ↓] theorem xJ {id:Nat}:cR id Q (.exit id) s=Q .normal s:=by simp[cR]
@[go_sem ↓] theorem wc {id j:Nat} (h:j≠id):cR id Q (.exit j) s=Q (.exit j) s:=by simp[cR,h]
@[go_sem ↓] theorem zj {id:Nat}:cR id Q .ret s=Q .ret s:=propext Iff.rfl
@[go_sem ↓] theorem zk {id:Nat} {v:V}:cR id Q (.aJ v) s=Q (.aJ v) s:=propext Iff.rfl
def we(out:R)(x:Option (List D)):Prop:=match x with|some ds=>out= .ret ds|none=>False
@[go_sem] theorem Ak {out:R} {ds:List D}:we out (some ds)=(out= .ret ds):=propext Iff.rfl
def zl(out:R)(x:Option D):Prop:=match x with|some d=>out= .aJ d|none=>False
@[go_sem] theorem Al {out:R} {d:D}:zl out (some d)=(out= .aJ d):=propext Iff.rfl
def wg(out:R)(o:Nat->ab)(x:Option (List V)):Prop:=match x with|some vs=>we out (aR o vs)|none=>False
@[go_sem] theorem Am {out:R} {o:Nat->ab} {vs:List V}:wg out o (some vs)=we out (aR o vs):=propext Iff.rfl
variable {rs:List ResultVar}{out:R}
@[go_sem ↓] theorem An:rZ P rs out .ret s=wg out s.o (fy P s rs):=propext Iff.rfl
@[go_sem ↓] theorem wh:rZ P rs out .normal s=wg out s.o (fy P s rs):=propext Iff.rfl
@[go_sem ↓] theorem Ao {v:V}:rZ P rs out (.aJ v) s=zl out (cD s.o v):=propext Iff.rfl
def pK(K:V->(Nat->ab)->Nat->Prop)(o:Nat->ab)(nx:Nat)(x:Fix (Option (List V)) (K,o,nx)):Prop:=match x with
 |some [v]=>K v o nx
 |some vs=>K (.a8 vs) o nx
 |none=>False
@[go_sem] theorem Fu {K:V->(Nat->ab)->Nat->Prop} {o:Nat->ab} {nx:Nat} {v:V}:pK K o nx (some [v])=K v o nx:=propext Iff.rfl
@[go_sem] theorem Fv {K:V->(Nat->ab)->Nat->Prop} {o:Nat->ab} {nx:Nat}:pK K o nx (some [])=K (.a8 []) o nx:=propext Iff.rfl
@[go_sem] theorem Fw {K:V->(Nat->ab)->Nat->Prop} {o:Nat->ab} {nx:Nat} {v u:V} {l:List V}:pK K o nx (some (v::u::l))=K (.a8 (v::u::l)) o nx:=propext Iff.rfl
theorem rD{K X:V->(Nat->ab)->Nat->Prop}:fD P rs K X .ret s=pK K s.o s.nx (fy P s rs):=by
 unfold fD pK
 cases fy P s rs with
 |none=>rfl
 |some l=>match l with
  |[]=>rfl
  |[_]=>rfl
  |_::_::_=>rfl
@[go_sem ↓] theorem Fx {K X:V->(Nat->ab)->Nat->Prop}:v8 P rs K X .ret s=pK K s.o s.nx (fy P s rs):=rD
@[go_sem ↓] theorem xK {K X:V->(Nat->ab)->Nat->Prop}:v8 P rs K X .normal s=pK K s.o s.nx (fy P s rs):=(rD (X:=X):fD P rs K X .ret s=_)
@[go_sem ↓] theorem Fy {K X:V->(Nat->ab)->Nat->Prop} {v:V}:v8 P rs K X (.aJ v) s=X v s.o s.nx:=propext Iff.rfl
variable {KE:S->Fp->Prop}{KP:V->List Nat->Fp->Prop}{pr:List (List Nat)}{fr:Nat}{fp:Fp}
@[go_sem] theorem Fz:kE P KE KP pr [] fr s fp=KE s fp:=propext Iff.rfl
@[go_sem] theorem Ap {d:Option Nat} {op:Op} {l:List aV}:kE P KE KP pr (⟨d,op,none⟩::l) fr s fp=
 xF P (fun v Δ rd=>kE P KE KP pr l (fr+1) ⟨ay s.env d v,put s.o Δ,s.nx⟩ (fp++[(rd,Δ.map (·.1))]))
  (fun v ws rd=>uM P (KP v) pr l (fr+1) (fp++[(rd,[])]) [fp.length] (ws++fp.flatMap (·.2)) ⟨ay s.env d .bO,s.o,s.nx⟩) fr ⟨d,op,none⟩ s:=propext Iff.rfl
@[go_sem] theorem Aq {d:Option Nat} {op:Op} {g:Nat} {w:Bool} {l:List aV}:kE P KE KP pr (⟨d,op,some (g,w)⟩::l) fr s fp=
 eT w (xF P (fun v Δ rd=>kE P KE KP pr l (fr+1) ⟨ay s.env d v,put s.o Δ,s.nx⟩ (fp++[(rd,Δ.map (·.1))]))
  (fun v ws rd=>uM P (KP v) pr l (fr+1) (fp++[(rd,[])]) [fp.length] (ws++fp.flatMap (·.2)) ⟨ay s.env d .bO,s.o,s.nx⟩) fr ⟨d,op,some (g,w)⟩ s)
   (kE P KE KP pr l (fr+1) ⟨ay s.env d (.a8 []),s.o,s.nx⟩ (fp++[([],[])])) (s.env g):=propext Iff.rfl
end
attribute [go_sem] Ac eM l4 dC one fF ay S.ev uE
attribute [irreducible] l6 mn rB pH uK nd jL rA uI vY xw uG uF gy uJ eN eT uL qG n8 l5 rC pI xF kE uM y5 uH v8 pK yY pJ uO we zl wg ng xG
end Go.Proofs.YtpkobkdgcanmjaaGreat
namespace Go.Proofs.YtpkobkdgcanmjaaGreat
def ab.xL:ab->Bool
 | .kf .. =>true
 |_=>false
def wk(o:Nat->ab)(v:V):Option D:=if v.ids.all (fun id=>(o id).xL)=true then cD o v else none
section
variable (ρ:Nat->Option Nat)(o' o:Nat->ab)(nx:Nat)
mutual
def kb:V->V->Prop
 | .bO,_=>True
 | .d x,v=>wk o v=some x
 | .cu,v=>v= .cu
 | .agg cs,v=>match v with| .agg ds=>jM cs ds|_=>False
 | .a8 cs,v=>match v with| .a8 ds=>jM cs ds|_=>False
 | .ptr bA pL,v=>match v with| .ptr id off=>ρ bA=some id/\pL=off/\bA<nx|_=>False
 | .osl bA dL,v=>bA<nx/\(o' bA).aO=some dL/\match v with
   | .cu=>ρ bA=none
   | .osl id ep=>ρ bA=some id/\(o id).aO=some ep
   |_=>False
 | .pe bA dL i' gL pL,v=>bA<nx/\(o' bA).aO=some dL/\match v with
   | .pe id ep i sz off=>ρ bA=some id/\(o id).aO=some ep/\i'=i/\gL=sz/\pL=off
   |_=>False
 | .pp cs off,v=>v= .pp cs off
 | .func fn a b,v=>match v with| .func M8 a' b'=>fn=M8/\jM a a'/\jM b b'|_=>False
 | .iface t x,v=>match v with| .iface t' y=>t=t'/\kb x y|_=>False
 | .ir es,v=>v= .ir es
 | .mb bA pL n',v=>match v with| .mb id off n=>ρ bA=some id/\pL=off/\n'=n/\bA<nx|_=>False
 | .mp bA,v=>match v with| .mp id=>ρ bA=some id/\bA<nx|_=>False
 | .cJ,v=>v= .cJ\/∃b,v= .d (.bool b)
 | .gW bA,v=>match v with| .gW id=>ρ bA=some id/\bA<nx|_=>False
def jM:List V->List V->Prop
 |[],vs=>vs=[]
 |x::xs,vs=>match vs with|v::vs=>kb x v/\jM xs vs|[]=>False
end
def gC(bA:Nat):Prop:=
 match o' bA with
 | .no=>True
 | .row cs'=>match ρ bA with
   |some id=>match o id with| .row cs=>jM ρ o' o nx cs' cs|_=>False
   |none=>False
 | .arr _ ty sz es=>match ρ bA with
   |some id=>match o id with| .arr _ Hv gL es'=>ty=Hv/\sz=gL/\es=es'|_=>False
   |none=>es=[]/\0<sz
 | .kf _ es=>match ρ bA with
   |some id=>match o id with| .kf _ es'=>es=es'|_=>False
   |none=>False
 | .map kt vt l=>match ρ bA with
   |some id=>match o id with| .map uW uX l'=>kt=uW/\vt=uX/\l=l'|_=>False
   |none=>False
 | .loop nf n env ps a b st pd=>match ρ bA with
   |some id=>match o id with| .loop BE n' Ji M9 a' b' st' pd'=>nf=BE/\n=n'/\ps=M9/\a=a'/\b=b'/\st=st'/\pd=pd'/\jM ρ o' o nx env Ji|_=>False
   |none=>False
 | .dw l=>match ρ bA with
   |some id=>match o id with| .dw l'=>l=l'|_=>False
   |none=>False
 | .kQ l last=>match ρ bA with
   |some id=>match o id with| .kQ l' uR=>l=l'/\(last=none\/last=uR)|_=>False
   |none=>False
 | .oe s pos=>match ρ bA with
   |some id=>match o id with| .oe s' pos'=>s=s'/\pos=pos'|_=>False
   |none=>False
end
section
variable {M M':Nat->Prop}{φ aj:Place}{H H':Hp}{w:World}{ρ:Nat->Option Nat}{nx:Nat}
theorem uS(hH:af M φ H w){v:V}{x:D}{val:Value}(h:wk H.o v=some x)(hd:V.den (ad M φ H) φ H w v val):D.den (ad M φ H) w x val:=by
 unfold wk at h
 split at h
 ·rename_i ha
  refine dh hH (o:=H.o) v x val (fun id ai=> ?_) h hd
  have:=List.all_eq_true.1 ha id ai
  cases ho:H.o id<;>rw[ho]at this<;>simp[ab.xL]at this
  rfl
 ·cases h
mutual
theorem kO(hH:af M φ H w)(dU:∀b,aU w b-> ¬ad M φ H b-> ¬ad M' aj H' b)(bJ:∀id,aj id=match ρ id with|some j=>φ j|none=> .slice none 0 0)
 (cl:∀id,id<nx->H'.us id) (aM:∀bA id,ρ bA=some id->(H'.o bA).aN=true->(H.o id).aN=true):
 ∀ (x v:V) (val:Value),kb ρ H'.o H.o nx x v->V.den (ad M φ H) φ H w v val->V.den (ad M' aj H') aj H' w x val
 | .bO,_,_,_,_=>trivial
 | .d x,v,val,h,hd=>D.au (fun b hb hn=>⟨rfl,dU b hb hn⟩) x val (uS hH (by simpa[kb]using h) hd)
 | .cu,v,val,h,hd=>by simp only[kb]at h;subst h;exact hd
 | .agg cs,v,val,h,hd=>by
   unfold kb at h
   split at h
   ·obtain⟨a,rfl,hd,hf⟩:=hd
    exact⟨a,rfl,fh hH dU bJ cl aM _ _ _ h hd,hf⟩
   ·exact h.elim
 | .a8 cs,v,val,h,hd=>by
   unfold kb at h
   split at h
   ·obtain⟨a,rfl,hd⟩:=hd
    exact⟨a,rfl,fh hH dU bJ cl aM _ _ _ h hd⟩
   ·exact h.elim
 | .ptr bA pL,v,val,h,hd=>by
   unfold kb at h
   split at h
   ·obtain⟨h1,rfl,h3⟩:=h
    obtain⟨g1,_,g3⟩:=hd
    refine⟨g1,cl _ h3,fun hr=> ?_⟩
    obtain⟨b,k1,k2⟩:=g3 (aM _ _ h1 hr)
    exact⟨b,by rw[bJ,h1];exact k1,k2⟩
   ·exact h.elim
 | .osl bA dL,v,val,h,hd=>by
   unfold kb at h
   obtain⟨h1,h2,h3⟩:=h
   split at h3
   ·simp only[V.den]at hd;subst hd
    refine⟨rfl,cl _ h1,fun e he=> ?_⟩
    rw[h2]at he;injection he with he;subst he
    exact⟨Nat.le_refl _,fun _=>by rw[bJ,h3]⟩
   ·obtain⟨g1,_,g3⟩:=hd
    refine⟨g1,cl _ h1,fun e he=> ?_⟩
    rw[h2]at he;injection he with he;subst he
    exact⟨Nat.le_refl _,fun _=>by rw[bJ,h3.1];exact(g3 _ h3.2).2 rfl⟩
   ·exact h3.elim
 | .pe bA dL i' gL pL,v,val,h,hd=>by
   unfold kb at h
   obtain⟨h1,h2,h3⟩:=h
   split at h3
   ·obtain⟨h3,h4,rfl,rfl,rfl⟩:=h3
    obtain⟨g1,_,g3⟩:=hd
    refine⟨g1,cl _ h1,fun e he=> ?_⟩
    rw[h2]at he;injection he with he;subst he
    refine⟨Nat.le_refl _,fun _=> ?_⟩
    obtain⟨b,n,c,k1,k2⟩:=(g3 _ h4).2 rfl
    exact⟨b,n,c,by rw[bJ,h3];exact k1,k2⟩
   ·exact h3.elim
 | .pp cs off,v,val,h,hd=>by
   simp only[kb]at h;subst h
   obtain⟨a,ev,h1,h2,h3,h5,h4⟩:=hd
   exact⟨a,ev,h1,h2,D.ax (fun b hb hn=>⟨rfl,dU b hb hn⟩) cs ev h3,h5,h4.mono (fun b hb hn=>⟨rfl,dU b hb hn⟩)⟩
 | .func fn a b,v,val,h,hd=>by
   unfold kb at h
   split at h
   ·obtain⟨rfl,h1,h2⟩:=h
    obtain⟨f,c,rfl,k1,k2⟩:=hd
    exact⟨f,c,rfl,fh hH dU bJ cl aM _ _ _ h1 k1,fh hH dU bJ cl aM _ _ _ h2 k2⟩
   ·exact h.elim
 | .iface t x,v,val,h,hd=>by
   unfold kb at h
   split at h
   ·obtain⟨rfl,h1⟩:=h
    obtain⟨u,rfl,k1⟩:=hd
    exact⟨u,rfl,kO hH dU bJ cl aM _ _ _ h1 k1⟩
   ·exact h.elim
 | .ir es,v,val,h,hd=>by
   simp only[kb]at h;subst h
   exact⟨D.au (fun b hb hn=>⟨rfl,dU b hb hn⟩) (.sl es) val hd.1,hd.2⟩
 | .mb bA pL n',v,val,h,hd=>by
   unfold kb at h
   split at h
   ·obtain⟨h1,rfl,rfl,h3⟩:=h
    obtain⟨g1,_,g3⟩:=hd
    refine⟨g1,cl _ h3,fun hr=> ?_⟩
    obtain⟨b,k1,k2⟩:=g3 (aM _ _ h1 hr)
    exact⟨b,by rw[bJ,h1];exact k1,k2⟩
   ·exact h.elim
 | .mp bA,v,val,h,hd=>by
   unfold kb at h
   split at h
   ·obtain⟨h1,h3⟩:=h
    obtain⟨g1,_,g3⟩:=hd
    exact⟨g1,cl _ h3,fun hr=>by rw[bJ,h1];exact g3 (aM _ _ h1 hr)⟩
   ·exact h.elim
 | .cJ,v,val,h,hd=>by
   unfold kb at h
   rcases h with rfl|⟨b,rfl⟩
   ·exact hd
   ·exact⟨b,hd⟩
 | .gW bA,v,val,h,hd=>by
   unfold kb at h
   split at h
   ·obtain⟨h1,h3⟩:=h
    obtain⟨g1,_,g3⟩:=hd
    refine⟨g1,cl _ h3,fun hr=> ?_⟩
    obtain⟨b,k1,k2⟩:=g3 (aM _ _ h1 hr)
    exact⟨b,by rw[bJ,h1];exact k1,k2⟩
   ·exact h.elim
theorem fh(hH:af M φ H w)(dU:∀b,aU w b-> ¬ad M φ H b-> ¬ad M' aj H' b)(bJ:∀id,aj id=match ρ id with|some j=>φ j|none=> .slice none 0 0)
 (cl:∀id,id<nx->H'.us id) (aM:∀bA id,ρ bA=some id->(H'.o bA).aN=true->(H.o id).aN=true):
 ∀ (xs vs:List V) (vals:List Value),jM ρ H'.o H.o nx xs vs->V.ak (ad M φ H) φ H w vs vals->V.ak (ad M' aj H') aj H' w xs vals
 |[],vs,vals,h,hd=>by simp only[jM]at h;subst h;exact hd
 |x::xs,vs,vals,h,hd=>by
  unfold jM at h
  split at h
  ·obtain⟨u,us,rfl,k1,k2⟩:=hd
   exact⟨u,us,rfl,kO hH dU bJ cl aM _ _ _ h.1 k1,fh hH dU bJ cl aM _ _ _ h.2 k2⟩
  ·exact h.elim
end
theorem uT(hH:af M φ H w){o':Nat->ab}(ho:∀id,gC ρ o' H.o nx id)(cE:∀id,nx<=id->o' id= .no)
 (qf:∀i j k,(o' i).live=true->(o' j).live=true->ρ i=some k->ρ j=some k->i=j)
 (hM:∀b,M' b->ad M φ H b) (Jj:∀b,M' b->b<w.heap.size) (wm:∀b,M' b-> ¬bf (fun id=>match ρ id with|some j=>φ j|none=> .slice none 0 0) ⟨o',fun id=>id<nx⟩ b):
 let aj:Place:=fun id=>match ρ id with|some j=>φ j|none=> .slice none 0 0
 let H':Hp:=⟨o',fun id=>id<nx⟩
 af M' aj H' w/\(∀b,bf aj H' b->bf φ H b)/\(∀b,aU w b-> ¬ad M φ H b-> ¬ad M' aj H' b)/\
  (∀x v val,kb ρ o' H.o nx x v->V.den (ad M φ H) φ H w v val->V.den (ad M' aj H') aj H' w x val):=by
 intro aj H'
 have aM:∀bA id,ρ bA=some id->(H'.o bA).aN=true->(H.o id).aN=true:=by
  intro bA id h1 h2
  have h3:=ho bA
  unfold gC at h3
  simp only[H']at h2
  split at h3
  ·rename_i e;rw[e]at h2;cases h2
  ·rw[h1]at h3
   simp only at h3
   split at h3
   ·rename_i e;rw[e];rfl
   ·exact h3.elim
  ·rename_i e;rw[e]at h2;cases h2
  ·rename_i e;rw[e]at h2;cases h2
  ·rw[h1]at h3
   simp only at h3
   split at h3
   ·rename_i e;rw[e];rfl
   ·exact h3.elim
  ·rw[h1]at h3
   simp only at h3
   split at h3
   ·rename_i e;rw[e];rfl
   ·exact h3.elim
  ·rw[h1]at h3
   simp only at h3
   split at h3
   ·rename_i e;rw[e];rfl
   ·exact h3.elim
  ·rw[h1]at h3
   simp only at h3
   split at h3
   ·rename_i e;rw[e];rfl
   ·exact h3.elim
  ·rw[h1]at h3
   simp only at h3
   split at h3
   ·rename_i e;rw[e];rfl
   ·exact h3.elim
 have bR:∀bA b,(o' bA).live=true->cF (aj bA)=some b->∃id,ρ bA=some id/\(H.o id).live=true/\cF (φ id)=some b:=by
  intro bA b h1 h2
  have h3:=ho bA
  unfold gC at h3
  simp only[aj]at h2
  split at h3
  ·rename_i e;rw[e]at h1;cases h1
  ·cases hr:ρ bA with
   |none=>rw[hr]at h3;exact h3.elim
   |some id=>
    rw[hr]at h3 h2
    simp only at h3 h2
    split at h3
    ·rename_i e;exact⟨id,rfl,by rw[e];rfl,h2⟩
    ·exact h3.elim
  ·cases hr:ρ bA with
   |none=>rw[hr]at h2;simp[cF]at h2
   |some id=>
    rw[hr]at h3 h2
    simp only at h3 h2
    split at h3
    ·rename_i e;exact⟨id,rfl,by rw[e];rfl,h2⟩
    ·exact h3.elim
  ·rename_i e;rw[e]at h1;cases h1
  ·cases hr:ρ bA with
   |none=>rw[hr]at h3;exact h3.elim
   |some id=>
    rw[hr]at h3 h2
    simp only at h3 h2
    split at h3
    ·rename_i e;exact⟨id,rfl,by rw[e];rfl,h2⟩
    ·exact h3.elim
  ·cases hr:ρ bA with
   |none=>rw[hr]at h3;exact h3.elim
   |some id=>
    rw[hr]at h3 h2
    simp only at h3 h2
    split at h3
    ·rename_i e;exact⟨id,rfl,by rw[e];rfl,h2⟩
    ·exact h3.elim
  ·rename_i e;rw[e]at h1;cases h1
  ·cases hr:ρ bA with
   |none=>rw[hr]at h3;exact h3.elim
   |some id=>
    rw[hr]at h3 h2
    simp only at h3 h2
    split at h3
    ·rename_i e;exact⟨id,rfl,by rw[e];rfl,h2⟩
    ·exact h3.elim
  ·cases hr:ρ bA with
   |none=>rw[hr]at h3;exact h3.elim
   |some id=>
    rw[hr]at h3 h2
    simp only at h3 h2
    split at h3
    ·rename_i e;exact⟨id,rfl,by rw[e];rfl,h2⟩
    ·exact h3.elim
 have uY:∀b,bf aj H' b->bf φ H b:=by
  rintro b ⟨bA,h1,h2⟩
  obtain⟨id,_,h3,h4⟩:=bR bA b h1 h2
  exact⟨id,h3,h4⟩
 have Jk:∀b,ad M' aj H' b->ad M φ H b:=by
  rintro b (h|h)
  ·exact hM b h
  ·exact .inr (uY b h)
 have dU:∀b,aU w b-> ¬ad M φ H b-> ¬ad M' aj H' b:=fun b _ h k=>h (Jk b k)
 have Na:=fh (M':=M') (aj:=aj) (H':=H') (ρ:=ρ) (nx:=nx) hH dU (fun _=>rfl) (fun _ h=>h) aM
 refine⟨⟨fun bA=> ?_,fun id hn=>cE id (by simpa[H']using hn),fun i j b h1 h2 h3 h4=> ?_,fun b hb=>⟨fun hm=>wm b hm hb,(hH.ours b (uY b hb)).2⟩,Jj⟩,uY,dU,
  kO (M':=M') (aj:=aj) (H':=H') (ρ:=ρ) (nx:=nx) hH dU (fun _=>rfl) (fun _ h=>h) aM⟩
 ·have h3:=ho bA
  unfold gC at h3
  unfold aw
  simp only[H']
  split at h3
  ·rename_i e;rw[e];trivial
  ·rename_i cs' e
   rw[e]
   cases hr:ρ bA with
   |none=>rw[hr]at h3;exact h3.elim
   |some id=>
    rw[hr]at h3
    simp only at h3
    split at h3
    ·rename_i cs e2
     have:=hH.ok id
     unfold aw at this
     rw[e2]at this
     obtain⟨b,cd,ty,k1,k2,k3,k4⟩:=this
     exact⟨b,cd,ty,by simp only[aj,hr];exact k1,k2,Na _ _ _ h3 k3,k4⟩
    ·exact h3.elim
  ·rename_i ep ty sz es e
   rw[e]
   cases hr:ρ bA with
   |none=>
    rw[hr]at h3
    obtain⟨rfl,h4⟩:=h3
    exact⟨h4,[],by simp only[aj,hr];exact World.ownsRow_nil _ _ _ _,[],by simp,by simp,rfl⟩
   |some id=>
    rw[hr]at h3
    simp only at h3
    split at h3
    ·rename_i e2
     obtain⟨rfl,rfl,rfl⟩:=h3
     have:=hH.ok id
     unfold aw at this
     rw[e2]at this
     obtain⟨k1,xs,k2,evs,k3,k4,k5⟩:=this
     exact⟨k1,xs,by simp only[aj,hr];exact k2,evs,k3,k4,D.ax (fun b hb hn=>⟨rfl,dU b hb hn⟩) _ _ k5⟩
    ·exact h3.elim
  ·rename_i ep es e
   rw[e]
   cases hr:ρ bA with
   |none=>rw[hr]at h3;exact h3.elim
   |some id=>
    rw[hr]at h3
    simp only at h3
    split at h3
    ·rename_i e2
     subst h3
     have:=hH.ok id
     unfold aw at this
     rw[e2]at this
     simp only[aj,hr]
     exact D.au (fun b hb hn=>⟨rfl,dU b hb hn⟩) _ _ this
    ·exact h3.elim
  ·rename_i kt vt l e
   rw[e]
   cases hr:ρ bA with
   |none=>rw[hr]at h3;exact h3.elim
   |some id=>
    rw[hr]at h3
    simp only at h3
    split at h3
    ·rename_i e2
     obtain⟨rfl,rfl,rfl⟩:=h3
     have:=hH.ok id
     unfold aw at this
     rw[e2]at this
     obtain⟨b,es,clock,k1,k2,k4,k3⟩:=this
     exact⟨b,es,clock,by simp only[aj,hr];exact k1,k2,k4,aq.mono (fun b hb hn=>⟨rfl,dU b hb hn⟩) _ _ k3⟩
    ·exact h3.elim
  ·rename_i nf n env ps a b st pd e
   rw[e]
   cases hr:ρ bA with
   |none=>rw[hr]at h3;exact h3.elim
   |some id=>
    rw[hr]at h3
    simp only at h3
    split at h3
    ·rename_i e2
     obtain⟨rfl,rfl,rfl,rfl,rfl,rfl,rfl,hv⟩:=h3
     have:=hH.ok id
     unfold aw at this
     rw[e2]at this
     obtain⟨b,r,k1,k2,k3,k4,k5,k6,k7,k8,k9,Nb⟩:=this
     refine⟨b,r,by simp only[aj,hr];exact k1,k2,k3,k4,k5,k6,k7,k8,k9,fun i=> ?_⟩
     have key:∀ (xs vs:List V),jM ρ o' H.o nx xs vs->∀i,kb ρ o' H.o nx (eV xs i) (eV vs i):=by
      intro xs
      induction xs with
      |nil=>intro vs hv i;simp[eV,kb]
      |cons x xs ih=>
       intro vs hv i
       unfold jM at hv
       split at hv
       ·cases i with
        |zero=>exact hv.1
        |succ i=>exact ih _ hv.2 i
       ·exact hv.elim
     exact kO (M':=M') (aj:=aj) (H':=H') (ρ:=ρ) (nx:=nx) hH dU (fun _=>rfl) (fun _ h=>h) aM _ _ _ (key _ _ hv i) (Nb i)
    ·exact h3.elim
  ·rename_i l e
   rw[e]
   cases hr:ρ bA with
   |none=>rw[hr]at h3;exact h3.elim
   |some id=>
    rw[hr]at h3
    simp only at h3
    split at h3
    ·rename_i e2
     subst h3
     have:=hH.ok id
     unfold aw at this
     rw[e2]at this
     simp only[aj,hr]
     exact D.au (fun b hb hn=>⟨rfl,dU b hb hn⟩) _ _ this
    ·exact h3.elim
  ·rename_i l last e
   rw[e]
   cases hr:ρ bA with
   |none=>rw[hr]at h3;exact h3.elim
   |some id=>
    rw[hr]at h3
    simp only at h3
    split at h3
    ·rename_i uR e2
     obtain⟨rfl,h3⟩:=h3
     have:=hH.ok id
     unfold aw at this
     rw[e2]at this
     obtain⟨b,k1,k2⟩:=this
     have k3:kR (ad M' aj H') w l uR b:=k2.mono (fun b hb hn=>⟨rfl,dU b hb hn⟩) rfl
     refine⟨b,by simp only[aj,hr];exact k1, ?_⟩
     rcases h3 with rfl|rfl
     ·rcases k3 with⟨a1,a2,_⟩|⟨m,since,seen,es,a1,a2,a3,a4,a5,_⟩
      ·exact .inl ⟨a1,a2,rfl⟩
      ·exact .inr ⟨m,since,seen,es,a1,a2,a3,a4,a5,fun _ _ e=>by cases e⟩
     ·exact k3
    ·exact h3.elim
  ·rename_i s pos e
   rw[e]
   cases hr:ρ bA with
   |none=>rw[hr]at h3;exact h3.elim
   |some id=>
    rw[hr]at h3
    simp only at h3
    split at h3
    ·rename_i e2
     obtain⟨rfl,rfl⟩:=h3
     have:=hH.ok id
     unfold aw at this
     rw[e2]at this
     obtain⟨b,k1,k2⟩:=this
     exact⟨b,by simp only[aj,hr];exact k1,k2⟩
    ·exact h3.elim
 ·obtain⟨k1,g1,g2,g3⟩:=bR i b h1 h3
  obtain⟨k2,g4,g5,g6⟩:=bR j b h2 h4
  have:=hH.apart k1 k2 b g2 g5 g3 g6
  subst this
  exact qf i j k1 h1 h2 g1 g4
theorem pP.of_map {b:Nat}{s s':S}(ρ:Nat->Option Nat)(hb:b<=s'.nx)(ho:∀id,gC ρ s'.o s.o s'.nx id)(cE:∀id,s'.nx<=id->s'.o id= .no)
 (qf:∀i j k,(s'.o i).live=true->(s'.o j).live=true->ρ i=some k->ρ j=some k->i=j)
 (gN:∀id,id<b->ρ id=some id/\(∀e',(s'.o id).aO=some e'->∃e,(s.o id).aO=some e/\e<=e')) (bK:∀i,kb ρ s'.o s.o s'.nx (s'.env i) (s.env i)):pP b s s':=by
 intro M φ w tm hH he
 obtain⟨h1,h2,_,h4⟩:=uT (M':=M) (ρ:=ρ) (nx:=s'.nx) hH (o':=s'.o) ho cE qf (fun b hb=> .inl hb) hH.om (fun b hb hl=>by
  have:bf φ s.H b:=by
   obtain⟨bA,g1,g2⟩:=hl
   have h3:=ho bA
   unfold gC at h3
   simp only at g1 g2
   split at h3
   ·rename_i e;rw[e]at g1;cases g1
   ·cases hr:ρ bA with
    |none=>rw[hr]at h3;exact h3.elim
    |some id=>
     rw[hr]at h3 g2
     simp only at h3 g2
     split at h3
     ·rename_i e;exact⟨id,by simp only[S.H];rw[e];rfl,g2⟩
     ·exact h3.elim
   ·cases hr:ρ bA with
    |none=>rw[hr]at g2;simp[cF]at g2
    |some id=>
     rw[hr]at h3 g2
     simp only at h3 g2
     split at h3
     ·rename_i e;exact⟨id,by simp only[S.H];rw[e];rfl,g2⟩
     ·exact h3.elim
   ·rename_i e;rw[e]at g1;cases g1
   ·cases hr:ρ bA with
    |none=>rw[hr]at h3;exact h3.elim
    |some id=>
     rw[hr]at h3 g2
     simp only at h3 g2
     split at h3
     ·rename_i e;exact⟨id,by simp only[S.H];rw[e];rfl,g2⟩
     ·exact h3.elim
   ·cases hr:ρ bA with
    |none=>rw[hr]at h3;exact h3.elim
    |some id=>
     rw[hr]at h3 g2
     simp only at h3 g2
     split at h3
     ·rename_i e;exact⟨id,by simp only[S.H];rw[e];rfl,g2⟩
     ·exact h3.elim
   ·rename_i e;rw[e]at g1;cases g1
   ·cases hr:ρ bA with
    |none=>rw[hr]at h3;exact h3.elim
    |some id=>
     rw[hr]at h3 g2
     simp only at h3 g2
     split at h3
     ·rename_i e;exact⟨id,by simp only[S.H];rw[e];rfl,g2⟩
     ·exact h3.elim
   ·cases hr:ρ bA with
    |none=>rw[hr]at h3;exact h3.elim
    |some id=>
     rw[hr]at h3 g2
     simp only at h3 g2
     split at h3
     ·rename_i e;exact⟨id,by simp only[S.H];rw[e];rfl,g2⟩
     ·exact h3.elim
  exact(hH.ours b this).1 hb)
 refine⟨_,h1,fun i=>h4 _ _ _ (bK i) (he i),h2,hb,fun id ai hr=> ?_,fun id e' ai qI=> ?_⟩
 ·obtain⟨g1,_⟩:=gN id ai
  refine⟨?_,by simp only[g1]⟩
  have h3:=ho id
  unfold gC at h3
  rw[g1]at h3
  split at h3
  ·rename_i e;rw[e]at hr;cases hr
  ·simp only at h3
   split at h3
   ·rename_i e;rw[e];rfl
   ·exact h3.elim
  ·rename_i e;rw[e]at hr;cases hr
  ·rename_i e;rw[e]at hr;cases hr
  ·simp only at h3
   split at h3
   ·rename_i e;rw[e];rfl
   ·exact h3.elim
  ·simp only at h3
   split at h3
   ·rename_i e;rw[e];rfl
   ·exact h3.elim
  ·simp only at h3
   split at h3
   ·rename_i e;rw[e];rfl
   ·exact h3.elim
  ·simp only at h3
   split at h3
   ·rename_i e;rw[e];rfl
   ·exact h3.elim
  ·simp only at h3
   split at h3
   ·rename_i e;rw[e];rfl
   ·exact h3.elim
 ·obtain⟨g1,g2⟩:=gN id ai
  obtain⟨e,g3,g4⟩:=g2 e' qI
  exact⟨e,g3,g4,fun _=>by simp only[g1]⟩
end
end Go.Proofs.YtpkobkdgcanmjaaGreat
namespace Go.Proofs.YtpkobkdgcanmjaaGreat
@[go_sem] theorem Ar (v:V) (l:List V):eV (v::l) 0=v:=rfl
@[go_sem] theorem sH (v:V) (l:List V) (i:Nat):eV (v::l) (i+1)=eV l i:=rfl
@[go_sem] theorem uU (i:Nat):eV [] i= .bO:=by simp[eV]
def dS:List (Nat×Option Nat)->Nat->Option Nat
 |[],id=>some id
 |(i,r)::R,id=>if i=id then r else dS R id
def wo(R:List (Nat×Option Nat)):List Nat->Bool
 |[]=>true
 |i::l=>l.all (fun j=>i==j||dS R i==none||dS R i !=dS R j)&&wo R l
def rE(ρ:Nat->Option Nat)(o' o:Nat->ab)(nx:Nat)(env:Nat->V):List V->Nat->Prop
 |[],_=>True
 |v::l,i=>kb ρ o' o nx v (env i)/\rE ρ o' o nx env l (i+1)
def n9(ρ:Nat->Option Nat)(o' o:Nat->ab)(nx:Nat):List Nat->Prop
 |[]=>True
 |i::l=>gC ρ o' o nx i/\n9 ρ o' o nx l
def zm:Option Nat->Option Nat->Prop
 |none,_=>True
 |some _,none=>False
 |some a,some b=>b<=a
def rF(b:Nat)(o' o:Nat->ab):List Nat->Prop
 |[]=>True
 |i::l=>(i<b->zm (o' i).aO (o i).aO)/\rF b o' o l
theorem wq{o:Nat->ab}:∀ (Δ:List (Nat×ab)) (id:Nat),id∉Δ.map (·.1)->put o Δ id=o id:=by
 intro Δ
 induction Δ generalizing o with
 |nil=>intro id _;rfl
 |cons p Δ ih=>
  intro id h
  simp only[List.map_cons,List.mem_cons,not_or]at h
  rw[sG,ih id h.2]
  simp[h.1]
theorem pP.to {b:Nat}{s:S}(l:List V)(Δ:List (Nat×ab))(nx:Nat)(R:List (Nat×Option Nat))(h1:decide (b<=nx)=true)(h2:(Δ.map (·.1)).all (· <nx)=true)(h3:wo R (Δ.map (·.1))=true)(h4:R.all (fun r=>decide (b<=r.1))=true)
 (h5:rF b (put (fun _=> .no) Δ) s.o (Δ.map (·.1))) (h6:n9 (dS R) (put (fun _=> .no) Δ) s.o nx (Δ.map (·.1))) (h7:rE (dS R) (put (fun _=> .no) Δ) s.o nx s.env l 0):
 pP b s ⟨eV l,put (fun _=> .no) Δ,nx⟩:=by
 have wH:∀id,id∈Δ.map (·.1)\/put (fun _=>ab.no) Δ id= .no:=fun id=>by
  by_cases h:id∈Δ.map (·.1)
  ·exact .inl h
  ·exact .inr (wq Δ id h)
 have kZ:∀ (ids:List Nat),n9 (dS R) (put (fun _=> .no) Δ) s.o nx ids->∀id∈ids,gC (dS R) (put (fun _=> .no) Δ) s.o nx id:=by
  intro ids
  induction ids with
  |nil=>intro _ id h;cases h
  |cons i ids ih=>
   intro h id ai
   rcases List.mem_cons.1 ai with rfl|ai
   ·exact h.1
   ·exact ih h.2 id ai
 have Jl:∀ (ids:List Nat),rF b (put (fun _=> .no) Δ) s.o ids->∀id∈ids,id<b->zm (put (fun _=>ab.no) Δ id).aO (s.o id).aO:=by
  intro ids
  induction ids with
  |nil=>intro _ id h;cases h
  |cons i ids ih=>
   intro h id ai
   rcases List.mem_cons.1 ai with rfl|ai
   ·exact h.1
   ·exact ih h.2 id ai
 have bK:∀ (l:List V) (i:Nat),rE (dS R) (put (fun _=> .no) Δ) s.o nx s.env l i->∀j,kb (dS R) (put (fun _=> .no) Δ) s.o nx (eV l j) (s.env (i+j)):=by
  intro l
  induction l with
  |nil=>intro i _ j;rw[uU];simp[kb]
  |cons v l ih=>
   intro i h j
   cases j with
   |zero=>exact h.1
   |succ j=>
    rw[sH]
    have:=ih (i+1) h.2 j
    rwa [show i+1+j=i+(j+1) by omega]at this
 have qf:∀ (ids:List Nat),wo R ids=true->∀i∈ids,∀j∈ids,∀k,dS R i=some k->dS R j=some k->i=j:=by
  intro ids
  induction ids with
  |nil=>intro _ i h;cases h
  |cons x ids ih=>
   intro h i hi j hj k h1 h2
   simp only[wo,Bool.and_eq_true,List.all_eq_true]at h
   rcases List.mem_cons.1 hi with sW|sW<;>rcases List.mem_cons.1 hj with vn|vn
   ·exact sW.trans vn.symm
   ·subst sW
    have:=h.1 j vn
    simp only[Bool.or_eq_true,beq_iff_eq,bne_iff_ne,ne_eq]at this
    rcases this with(e|e)|e
    ·exact e
    ·rw[h1]at e;cases e
    ·exact absurd (h1.trans h2.symm) e
   ·subst vn
    have:=h.1 i sW
    simp only[Bool.or_eq_true,beq_iff_eq,bne_iff_ne,ne_eq]at this
    rcases this with(e|e)|e
    ·exact e.symm
    ·rw[h2]at e;cases e
    ·exact absurd (h2.trans h1.symm) e
   ·exact ih h.2 i sW j vn k h1 h2
 have FA:∀ (R:List (Nat×Option Nat)),R.all (fun r=>decide (b<=r.1))=true->∀id,id<b->dS R id=some id:=by
  intro R
  induction R with
  |nil=>intro _ id _;rfl
  |cons r R ih=>
   intro h id ai
   obtain⟨i,r⟩:=r
   simp only[List.all_cons,Bool.and_eq_true,decide_eq_true_eq]at h
   unfold dS
   rw[if_neg (by omega)]
   exact ih h.2 id ai
 have nG:∀id,(put (fun _=>ab.no) Δ id).live=true->id∈Δ.map (·.1):=fun id h=>by
  rcases wH id with h'|h'
  ·exact h'
  ·rw[h']at h;cases h
 refine pP.of_map (dS R) (by simpa using h1) (fun id=> ?_) (fun id ai=> ?_) (fun i j k g1 g2 g3 g4=>qf _ h3 i (nG i g1) j (nG j g2) k g3 g4) (fun id ai=>⟨FA R h4 id ai,fun e' he=> ?_⟩) (fun i=>by simpa using bK l 0 h7 i)
 ·rcases wH id with h|h
  ·exact kZ _ h6 id h
  ·unfold gC;simp only[h]
 ·rcases wH id with h|h
  ·have:=List.all_eq_true.1 h2 id h
   simp only[decide_eq_true_eq]at this
   simp only at ai
   omega
  ·exact h
 ·rcases wH id with h|h
  ·have:=Jl _ h5 id h ai
   simp only at he
   rw[he]at this
   cases hs:(s.o id).aO with
   |none=>rw[hs]at this;exact this.elim
   |some e=>rw[hs]at this;exact⟨e,rfl,this⟩
  ·simp only[h]at he;cases he
@[go_sem] theorem xM (k:Nat):(0<=(k:Int))=True:=by simp
attribute [go_sem] List.getElem?_map List.length_map Int.toNat_natCast
attribute [go_sem] cp List.flatMap_cons List.flatMap_nil
attribute [go_sem] isConst jy u6 jw jx ot jv rH gY gZ mu kV kW iB
attribute [go_sem] eb V.refs V.bq
attribute [go_sem] rE n9 rF zm kb jM gC dS wk List.all_nil List.all_cons Option.some.injEq D.int.injEq D.bool.injEq Nat.zero_add Nat.add_zero
end Go.Proofs.YtpkobkdgcanmjaaGreat
namespace Go.Proofs.YtpkobkdgcanmjaaGreat
structure Good (o:Nat->ab) (nx:Nat):Prop where
 fresh:∀id,nx<=id->o id= .no
 refs:∀id,∀r∈(o id).refs,r<nx
theorem Good.nil {nx:Nat}:Good (fun _=> .no) nx:=⟨fun _ _=>rfl,fun id r h=>by cases h⟩
theorem Good.cK {o:Nat->ab}{nx i:Nat}{x:ab}(h:Good o nx)(hi:i<nx)(hx:x.refs.all (fun r=>decide (r<nx))=true):Good (cK o i x) nx:=by
 refine⟨fun id ai=> ?_,fun id r hr=> ?_⟩
 ·rw[uQ _ _ _ _ (by omega)];exact h.fresh id ai
 ·by_cases e:id=i
  ·subst e
   rw[uP]at hr
   simpa using List.all_eq_true.1 hx r hr
  ·rw[uQ _ _ _ _ e]at hr
   exact h.refs id r hr
theorem Good.mono {o:Nat->ab}{nx m:Nat}(h:Good o nx)(hm:nx<=m):Good o m:=⟨fun id ai=>h.fresh id (by omega),fun id r hr=>Nat.lt_of_lt_of_le (h.refs id r hr) hm⟩
theorem Good.lt {o:Nat->ab}{nx id:Nat}(h:Good o nx)(hn:o id≠ .no):id<nx:=by
 rcases Nat.lt_or_ge id nx with hl|hl
 ·exact hl
 ·exact absurd (h.fresh id hl) hn
end Go.Proofs.YtpkobkdgcanmjaaGreat
namespace Go.Proofs.YtpkobkdgcanmjaaGreat
abbrev D.i (n:Int):D:= .int .i64 n
structure As where
 name:List UInt8
 args:Int
structure FB where
 cons:List As
 Jm:List As
inductive Tm where
 |mk (op n:Int) (kids:List Tm)
 deriving Inhabited
structure TB where
 var:Int
 term:Tm
def Tm.op:Tm->Int| .mk op _ _=>op
def Tm.n:Tm->Int| .mk _ n _=>n
def Tm.kids:Tm->List Tm| .mk _ _ l=>l
theorem Tm.ind {P:Tm->Prop}(h:∀op n kids,(∀k∈kids,P k)->P (.mk op n kids)):∀t,P t:=
 fun t=>Tm.rec (motive_1:=P) (motive_2:=fun l=>∀k∈l,P k) (fun op n kids ih=>h op n kids ih) (fun _ h=>by cases h)
  (fun x l hx hl k hk=>(List.mem_cons.1 hk).elim (fun e=>e ▸ hx) (hl k)) t
mutual
def Tm.d:Tm->D
 | .mk op n kids=> .agg [.i op, .i n, .sl (Tm.ds kids)]
def Tm.ds:List Tm->List D
 |[]=>[]
 |t::l=>t.d::Tm.ds l
end
theorem Tm.uV:∀l:List Tm,Tm.ds l=l.map Tm.d
 |[]=>rfl
 |t::l=>by simp[Tm.ds,Tm.uV l]
theorem Tm.FC (t:Tm):t.d= .agg [.i t.op, .i t.n, .sl (t.kids.map Tm.d)]:=by cases t;simp[Tm.d,Tm.uV,Tm.op,Tm.n,Tm.kids]
@[go_sem] theorem Tm.Jn (t:Tm):D.agg [.i t.op, .i t.n, .sl (t.kids.map Tm.d)]=t.d:=(Tm.FC t).symm
@[go_sem] theorem Tm.Gf (t:Tm):D.cells t.d=[.i t.op, .i t.n, .sl (t.kids.map Tm.d)]:=by rw[Tm.FC];rfl
@[reducible] def As.d (x:As):D:= .agg [.str x.name, .i x.args]
@[reducible] def FB.d (s:FB):D:= .agg [.sl (s.cons.map As.d), .sl (s.Jm.map As.d)]
@[reducible] def TB.d (b:TB):D:= .agg [.i b.var, .i b.term.op, .i b.term.n, .sl (b.term.kids.map Tm.d)]
mutual
def pre:Tm->Int->List (Tm×Int)
 | .mk op n kids,d=>(.mk op n kids,d)::FE kids (d+1)
def FE:List Tm->Int->List (Tm×Int)
 |[],_=>[]
 |k::l,d=>pre k d++FE l d
end
end Go.Proofs.YtpkobkdgcanmjaaGreat
section
namespace Go.Proofs.YtpkobkdgcanmjaaGreat
open Go
def wu:Nat->Bool:=fun g=> !([143,142,178,179,168,190,191,64,83,84,103,68,113,99,114,144,145,146,147,148,149,151,152,181,184,185,193,77,70,81]:List Nat).contains g
def xP:D:= .agg [.sl [.agg [.str [70,97,108,115,101], .i 0], .agg [.str [84,114,117,101], .i 0], .agg [.str [90], .i 0], .agg [.str [83], .i 1], .agg [.str [78,105,108], .i 0], .agg [.str [67,111,110,115], .i 2]], .sl [.agg [.str [97,100,100], .i 2], .agg [.str [111,114], .i 2], .agg [.str [99,111,105,110], .i 0], .agg [.str [108,101,110], .i 1]], .sl [.agg [.i 0, .sl [.agg [.i 3, .i 2, .sl []], .agg [.i 1, .i 0, .sl []]], .i 1, .i 0, .sl [], .i 1], .agg [.i 0, .sl [.agg [.i 3, .i 3, .sl [.agg [.i 1, .i 0, .sl []]]], .agg [.i 1, .i 1, .sl []]], .i 3, .i 3, .sl [.agg [.i 4, .i 0, .sl [.agg [.i 1, .i 0, .sl []], .agg [.i 1, .i 1, .sl []]]]], .i 2], .agg [.i 1, .sl [.agg [.i 3, .i 1, .sl []], .agg [.i 1, .i 0, .sl []]], .i 3, .i 1, .sl [], .i 1], .agg [.i 1, .sl [.agg [.i 1, .i 0, .sl []], .agg [.i 3, .i 1, .sl []]], .i 3, .i 1, .sl [], .i 1], .agg [.i 1, .sl [.agg [.i 3, .i 0, .sl []], .agg [.i 3, .i 0, .sl []]], .i 3, .i 0, .sl [], .i 0], .agg [.i 2, .sl [], .i 3, .i 2, .sl [], .i 0], .agg [.i 2, .sl [], .i 3, .i 3, .sl [.agg [.i 3, .i 2, .sl []]], .i 0], .agg [.i 3, .sl [.agg [.i 3, .i 5, .sl [.agg [.i 1, .i 0, .sl []], .agg [.i 1, .i 1, .sl []]]]], .i 3, .i 3, .sl [.agg [.i 4, .i 3, .sl [.agg [.i 1, .i 1, .sl []]]]], .i 2], .agg [.i 3, .sl [.agg [.i 1, .i 0, .sl []]], .i 4, .i 0, .sl [.agg [.i 1, .i 1, .sl []], .agg [.i 1, .i 1, .sl []]], .i 2]]]
def sO:D:= .agg [.i 6, .i 3, .i 3, .sl [.agg [.i 1, .i 7, .sl []]], .i 1, .sl [.agg [.i 3, .i 2, .sl []], .agg [.i 1, .i 7, .sl []]], .sl [.agg [.i 4, .i 3, .i 3, .sl [.agg [.i 3, .i 2, .sl []]], .i 0, .sl [], .sl [.agg [.i 4, .i 3, .i 2, .sl [], .i 0, .sl [], .sl []]]], .agg [.i 2, .i 1, .i 7, .sl [], .i 0, .sl [], .sl []], .agg [.i 4, .i 3, .i 3, .sl [.agg [.i 1, .i 7, .sl []]], .i 0, .sl [], .sl [.agg [.i 6, .i 1, .i 7, .sl [], .i 0, .sl [.agg [.i 1, .i 7, .sl []]], .sl [.agg [.i 2, .i 3, .i 2, .sl [], .i 0, .sl [], .sl []], .agg [.i 2, .i 1, .i 7, .sl [], .i 0, .sl [], .sl []], .agg [.i 2, .i 1, .i 7, .sl [], .i 0, .sl [], .sl []]]]]]]]
def sP:D:= .agg [.i 4, .i 0, .sl [.agg [.i 3, .i 3, .sl [.agg [.i 3, .i 2, .sl []]]], .agg [.i 1, .i 0, .sl []]]]
def At:D:= .agg [.i 4, .i 0, .sl [.agg [.i 4, .i 2, .sl []], .agg [.i 4, .i 2, .sl []]]]
def Jo:D:= .agg [.i 6, .i 3, .i 3, .sl [.agg [.i 3, .i 2, .sl []]], .i 0, .sl [.agg [.i 3, .i 3, .sl [.agg [.i 3, .i 2, .sl []]]]], .sl [.agg [.i 6, .i 3, .i 2, .sl [], .i 5, .sl [], .sl [.agg [.i 4, .i 3, .i 2, .sl [], .i 0, .sl [], .sl []]]], .agg [.i 6, .i 3, .i 3, .sl [.agg [.i 3, .i 2, .sl []]], .i 6, .sl [], .sl [.agg [.i 4, .i 3, .i 3, .sl [.agg [.i 3, .i 2, .sl []]], .i 0, .sl [], .sl [.agg [.i 4, .i 3, .i 2, .sl [], .i 0, .sl [], .sl []]]]]], .agg [.i 2, .i 3, .i 3, .sl [.agg [.i 3, .i 2, .sl []]], .i 0, .sl [], .sl []]]]
def Jp:D:= .agg [.i 6, .i 3, .i 3, .sl [.agg [.i 3, .i 2, .sl []]], .i 0, .sl [.agg [.i 3, .i 3, .sl [.agg [.i 3, .i 2, .sl []]]]], .sl [.agg [.i 6, .i 3, .i 2, .sl [], .i 5, .sl [], .sl [.agg [.i 4, .i 3, .i 2, .sl [], .i 0, .sl [], .sl []]]], .agg [.i 6, .i 3, .i 2, .sl [], .i 5, .sl [], .sl [.agg [.i 4, .i 3, .i 2, .sl [], .i 0, .sl [], .sl []]]], .agg [.i 2, .i 3, .i 3, .sl [.agg [.i 3, .i 2, .sl []]], .i 0, .sl [], .sl []]]]
def wv:D:= .sl [.agg [.i 1, .i 7, .sl []]]
def FF:il Tryz.prog:=il.of wu [] (fun _ h=>by cases h)
theorem zn:gP Tryz.prog aK FF 5000 20 []=some (.ret [xP]):=by kernel_rfl
theorem FG:dN Tryz.prog 20 [] (.ret [xP]):=dN.dt mix du zn
theorem zo:gP Tryz.prog aK FF 5000 57 [xP]=some (.ret [.i 0]):=by kernel_rfl
theorem zp:dN Tryz.prog 57 [xP] (.ret [.i 0]):=dN.dt mix du zo
def mo:il Tryz.prog:=il.of wu [(57,[xP], .ret [.i 0])] (fun x h=>by
 cases h with
 |head=>exact zp
 |tail _ h=>cases h)
end Go.Proofs.YtpkobkdgcanmjaaGreat
end
section
namespace Go.Proofs.YtpkobkdgcanmjaaGreat
open Go
theorem wx:gP Tryz.prog aK mo 5000 29 [xP,wv,sP,sO]=some (.ret [.agg [.i 3, .i 3, .sl [.agg [.i 1, .i 7, .sl []]]], .i 0]):=by kernel_rfl
theorem FH:dN Tryz.prog 29 [xP,wv,sP,sO] (.ret [.agg [.i 3, .i 3, .sl [.agg [.i 1, .i 7, .sl []]]], .i 0]):=dN.dt mix du wx
end Go.Proofs.YtpkobkdgcanmjaaGreat
end
section
namespace Go.Proofs.YtpkobkdgcanmjaaGreat
open Go
theorem wy:gP Tryz.prog aK mo 5000 29 [xP, .sl [],At,Jo]=some (.ret [.agg [.i 3, .i 3, .sl [.agg [.i 3, .i 2, .sl []]]], .i 0]):=by kernel_rfl
theorem FI:dN Tryz.prog 29 [xP, .sl [],At,Jo] (.ret [.agg [.i 3, .i 3, .sl [.agg [.i 3, .i 2, .sl []]]], .i 0]):=dN.dt mix du wy
end Go.Proofs.YtpkobkdgcanmjaaGreat
end
section
namespace Go.Proofs.YtpkobkdgcanmjaaGreat
open Go
theorem wz:gP Tryz.prog aK mo 5000 29 [xP, .sl [],At,Jp]=some (.ret [.agg [.i 0, .i 0, .sl []], .i 7]):=by kernel_rfl
theorem FJ:dN Tryz.prog 29 [xP, .sl [],At,Jp] (.ret [.agg [.i 0, .i 0, .sl []], .i 7]):=dN.dt mix du wz
end Go.Proofs.YtpkobkdgcanmjaaGreat
end
section
namespace Go.Proofs.YtpkobkdgcanmjaaGreat
open Go
theorem wA:gP Tryz.prog aK mo 5000 38 [xP,sO]=some (.ret [.sl [.i 1, .i 0], .i 9, .i 0]):=by kernel_rfl
theorem FK:dN Tryz.prog 38 [xP,sO] (.ret [.sl [.i 1, .i 0], .i 9, .i 0]):=dN.dt mix du wA
end Go.Proofs.YtpkobkdgcanmjaaGreat
end
