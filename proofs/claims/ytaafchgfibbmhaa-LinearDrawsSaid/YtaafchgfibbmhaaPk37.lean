/-
  LinearDraws: at every call the law answers true, and leaves all memory as it was. Conditions: none.
-/
import Derived.Test.YtaafchgfibbmhaaPk36
set_option linter.unusedSimpArgs false
set_option linter.unusedVariables false
namespace Go.Proofs.Ytaafchgfibbmhaa
@[reducible] noncomputable def drwO (s : Sys) (r : Row) : Nat → Obj' := upd (upd (fun _ => .no) 0 (.row [.d (.i s.vars), .d (.sl (s.rows.map Row.d))])) 1 (.row [.d (.sl (r.c.map .i)), .d (.i r.rel), .d (.i r.b)])
set_option maxHeartbeats 1600000 in
theorem linearDraws_c (s s' : Sys) (r : Row) (hs : s.Fits) (hrl : r.c.length ≤ 9223372036854775807) (by' : List (Int × Int)) (hl : by'.length ≤ 9223372036854775807) (h8 : ∀ x ∈ by', (-128 ≤ x.1 ∧ x.1 ≤ 127) ∧ -128 ≤ x.2 ∧ x.2 ≤ 127) (fit nn : Int) (hn8 : 0 ≤ nn ∧ nn ≤ 255)
    (hc' : checkF s = true → checkF s' = true) (hs' : s'.Fits) (hv' : s'.vars = s.vars) (hlen : s'.rows.length = s.rows.length)
    (hfit : smallF s = true → checkF s = true → PCt Try.prog 34 [s.d, .sl ((atK by' s.vars.toNat s.vars.toNat).map Rat.d), .int .u8 fit] (.ret [s'.d])) :
    PCt Try.prog 7 [s.d, r.d, .sl (by'.map prD), .int .u8 fit, .int .u8 nn] (.ret [.bool true]) := by
  have hfi := fineS_c s hs
  have hrow := row_c r s.vars 1000 hrl (by omega)
  refine PCt.of_ev mix fn7 (by simp) ?_
  rw [c7]
  simp +contextual only [go_sem, Sys.d, Row.d]
  refine call_keep hfi rfl ?_
  cases hf : (smallF s && checkF s) with
  | false =>
    simp +contextual only [go_sem, Sys.d]
    refine call_keep works rfl ?_
    simp +contextual only [go_sem]
  | true =>
    cases h10 : decide ((10 : Int) ≤ (s.rows.length : Int)) with
    | true =>
      simp +contextual only [go_sem, Sys.d, Row.d, h10]
      refine call_keep works rfl ?_
      simp +contextual only [go_sem]
    | false =>
      cases h7 : decide ((7 : Int) < (r.c.length : Int)) with
      | true =>
        simp +contextual only [go_sem, Sys.d, Row.d, h10, h7]
        refine call_keep works rfl ?_
        simp +contextual only [go_sem]
      | false =>
        simp +contextual only [go_sem, Sys.d, Row.d, h10, h7]
        refine call_keep hrow rfl ?_
        cases hfo : formedF r s.vars 1000 with
        | false =>
          simp +contextual only [go_sem, Sys.d, Row.d, h10, h7]
          refine call_keep works rfl ?_
          simp +contextual only [go_sem]
        | true =>
          simp +contextual only [go_sem, Sys.d, Row.d, h10, h7]
          simp only [Bool.and_eq_true] at hf
          obtain ⟨hsm, hc⟩ := hf
          have hc2 := hc' hc
          have hft := hfit hsm hc
          obtain ⟨v1, v5, r10, hall⟩ := check_rows hc2
          obtain ⟨n, hn⟩ : ∃ n : Nat, s.vars = n := ⟨s.vars.toNat, by omega⟩
          have hnt : s.vars.toNat = n := by omega
          have hnt' : s'.vars.toNat = n := by omega
          have hl9 : s'.rows.length < 10 := by simp only [decide_eq_false_iff_not] at h10; omega
          have hfo' : formedF r s'.vars 1000 = true := by rw [hv']; exact hfo
          obtain ⟨f1, f2, f3, f4⟩ := formed_range hfo
          rw [hnt] at hft
          have hat := at_c n (by omega) by' hl h8
          rw [Sys.d, Sys.d, hv', hn] at hft
          have hpd : ∀ (j : Nat) (x : Rat), (atK by' n n)[j]? = some x → 1 ≤ x.den := fun j x hx => by have := atK_small h8 hx; omega
          have hD : 0 < ptD (atK by' n n) := ptD_pos (fun x hx => by
            obtain ⟨j, hj⟩ := List.mem_iff_getElem?.1 hx
            exact hpd j x hj)
          have him := implies_c s' r hs' hrl
          rw [if_pos ⟨hc2, by omega, hfo'⟩, if_pos ⟨hc2, by omega, hfo'⟩] at him
          have hre := refute_c s' hs'
          rw [hc2] at hre
          simp only [if_true] at hre
          have hsl := solves_c s' (atK by' n n) hs' (by rw [atK_len]; omega) (fit_c s' _)
          have hsa := said_c r (atK by' n n) (by rw [atK_len]; omega) (by rw [atK_len]; omega) (by omega) (fun j x hx => by have := atK_small h8 hx; omega) (fun j c x hc hx => by
            have h1 := atK_small h8 hx
            have h2 := f3 c (List.mem_of_getElem? hc)
            have h3 := mulI_bound (a := c) (b := x.num) (A := 1000) (B := 19) (by omega) (by omega) (by omega) (by omega)
            omega)
          have J1 : (impliesF s' r).1 = true → (saidF r (atK by' n n)).2 = true → (saidF r (atK by' n n)).1 = false → (checkF s' && pointF s' (atK by' n n) && decide (holdsN s' (atK by' n n) = s'.rows.length)) = false := fun e1 e2 e3 => by
            cases hx : (checkF s' && pointF s' (atK by' n n) && decide (holdsN s' (atK by' n n) = s'.rows.length)) with
            | false => rfl
            | true =>
              simp only [Bool.and_eq_true, decide_eq_true_eq] at hx
              have hr := imp_sound hc2 hl9 hfo' e1 _ _ hD (holdsN_all hc2 hx.2)
              rw [(saidF_at f2 hpd (by rw [atK_len]; omega) e2).2 hr] at e3
              cases e3
          have J2 : (refuteF s').2 = 0 → (impliesF s' r).2 = 0 → (impliesF s' r).1 = true := fun e1 e2 =>
            imp_complete hc2 hl9 hfo' e2 (fun A D hD hA => absurd hA (refute0 hc2 e1 A D hD))
          have J3 : ∀ x ∈ s'.rows, (impliesF s' x).2 = 0 → (impliesF s' x).1 = true := fun x hx e =>
            imp_complete hc2 hl9 (by obtain ⟨a1, a2, a3, a4⟩ := hall x hx; simp [formedF, inB, allF]; exact ⟨⟨⟨a1, a4⟩, a2⟩, a3⟩) e (fun A D hD hA => hA x hx)
          have J4 : ∀ x ∈ s'.rows, x.rel ≠ 3 → x.b < 1000 → formedF ⟨x.c, x.rel, x.b + 1⟩ s'.vars 1000 = true ∧ ((impliesF s' ⟨x.c, x.rel, x.b + 1⟩).2 = 0 → (impliesF s' ⟨x.c, x.rel, x.b + 1⟩).1 = true) := fun x hx e3 eb => by
            obtain ⟨a1, a2, a3, a4⟩ := hall x hx
            have hf' : formedF ⟨x.c, x.rel, x.b + 1⟩ s'.vars 1000 = true := by simp [formedF, inB, allF]; exact ⟨⟨⟨a1, a4⟩, a2⟩, by omega, by omega⟩
            exact ⟨hf', fun e => imp_complete hc2 hl9 hf' e (fun A D hD hA => at_weaker hD e3 (hA x hx))⟩
          rw [Sys.d, hv', hn] at him hre hsl
          rw [Row.d] at him hsa
          simp +contextual only [go_sem, Sys.d, hn]
          refine call_give hat ?_
          simp +contextual only [go_sem, Sys.d, hn]
          refine call_give hft ?_
          simp +contextual only [go_sem, Sys.d, hn]
          have hO : upd (upd (upd (fun _ => Obj'.no) 0 (Obj'.row [V.d (D.i n), V.d (D.sl (s.rows.map Row.d))])) 1 (Obj'.row [V.d (D.sl (r.c.map .i)), V.d (D.i r.rel), V.d (D.i r.b)])) 0 (Obj'.row [V.d (D.i n), V.d (D.sl (s'.rows.map Row.d))]) = drwO s' r := by
            funext j
            simp only [drwO, upd, hv', hn]
            (repeat' split) <;> first | rfl | omega
          rw [hO]
          refine call_keep him rfl ?_
          rcases imp_cases s' r with ⟨e1, e2⟩ | e2
          · rw [e1, e2]
            have z1 : ((3 : Int) != 0) = true := rfl
            have z2 : ((3 : Int) == 3) = true := rfl
            simp +contextual only [go_sem, z1, z2, hv', hn]
            refine call_keep works rfl ?_
            simp +contextual only [go_sem]
          · rw [e2]
            have z1 : ((0 : Int) != 0) = false := rfl
            simp +contextual only [go_sem, z1, hv', hn, Row.d]
            refine call_keep hsa rfl ?_
            generalize (saidF r (atK by' n n)).1 = y at *
            generalize (saidF r (atK by' n n)).2 = c at *
            generalize (checkF s' && pointF s' (atK by' n n) && decide (holdsN s' (atK by' n n) = s'.rows.length)) = sol at *
            have z5 : ((0 : Int) == 0) = true := rfl
            have hk : ∃ k : Nat, nn = k ∧ k ≤ 255 := ⟨nn.toNat, by omega, by omega⟩
            obtain ⟨k, rfl, hk2⟩ := hk
            have key : (impliesF s' r).1 = false ∨ ((impliesF s' r).1 = true ∧ c = false) ∨ ((impliesF s' r).1 = true ∧ c = true ∧ y = true) ∨ ((impliesF s' r).1 = true ∧ c = true ∧ y = false) := by
              cases (impliesF s' r).1 <;> cases c <;> cases y <;> simp
            rcases key with e | ⟨e, rfl⟩ | ⟨e, rfl, rfl⟩ | ⟨e, rfl, rfl⟩
            all_goals first
              | (have e' : (impliesF s' r).1 = false := e
                 have hz : ((refuteF s').2 == 0) = false := by
                   cases hx : ((refuteF s').2 == 0) with
                   | false => rfl
                   | true => rw [J2 (by simpa using hx) e2] at e'; cases e'
                 simp +contextual only [go_sem, hv', hn, e]
                 refine call_give hre ?_
                 simp +contextual only [go_sem, hv', hn, e, hz])
              | (rw [J1 e rfl rfl] at hsl
                 simp +contextual only [go_sem, hv', hn, e]
                 refine call_keep hsl rfl ?_
                 simp +contextual only [go_sem, hv', hn, e]
                 refine call_give hre ?_
                 simp +contextual only [go_sem, hv', hn, e])
              | (simp +contextual only [go_sem, hv', hn, e]
                 refine call_give hre ?_
                 simp +contextual only [go_sem, hv', hn, e])
            all_goals
              cases hl0 : (((s'.rows.length : Nat) : Int) == 0) with
              | true =>
                simp +contextual only [go_sem]
                refine call_keep works rfl ?_
                simp +contextual only [go_sem]
              | false =>
                have hl0' : s'.rows.length ≠ 0 := fun h0 => by rw [h0] at hl0; cases hl0
                have hm0 : ¬ ((s'.rows.length : Int) = 0) := by omega
                have htm : ((k : Int).tmod (s'.rows.length : Int)) = ((k % s'.rows.length : Nat) : Int) := (Int.ofNat_tmod k s'.rows.length).symm
                obtain ⟨x, hx⟩ : ∃ x, s'.rows[k % s'.rows.length]? = some x := ⟨s'.rows[k % s'.rows.length]'(Nat.mod_lt _ (by omega)), List.getElem?_eq_getElem _⟩
                have hxm := List.mem_of_getElem? hx
                have hm1 : ((k % s'.rows.length : Nat) : Int) < (s'.rows.length : Int) := by have := Nat.mod_lt k (show 0 < s'.rows.length by omega); omega
                obtain ⟨a1, a2, a3, a4⟩ := hall x hxm
                have hw : IntKind.i64.wrap (k : Int) = k := wrap64 (by omega) (by omega)
                simp +contextual only [go_sem, hm0, hw, htm, hx, hm1, if_false, if_true, Row.d]
                refine end_intro (by decide) ?_
                simp +contextual only [go_sem, hv', hn]
                have hix := implies_c s' x hs' (by omega)
                rw [if_pos ⟨hc2, by omega, (by simp [formedF, inB, allF]; exact ⟨⟨⟨a1, a4⟩, a2⟩, a3⟩)⟩, if_pos ⟨hc2, by omega, (by simp [formedF, inB, allF]; exact ⟨⟨⟨a1, a4⟩, a2⟩, a3⟩)⟩, Sys.d, hv', hn, Row.d] at hix
                refine call_keep hix rfl ?_
                rcases imp_cases s' x with ⟨b1, b2⟩ | b2
                · rw [b1, b2]
                  have z1 : ((3 : Int) != 0) = true := rfl
                  have z2 : ((3 : Int) == 3) = true := rfl
                  simp +contextual only [go_sem, z1, z2, hv', hn]
                  refine call_keep works rfl ?_
                  simp +contextual only [go_sem]
                · rw [J3 x hxm b2, b2]
                  simp +contextual only [go_sem, z1, hv', hn, Row.d]
                  cases hxx : (x.rel == 3 || decide (1000 ≤ x.b)) with
                  | true =>
                    simp +contextual only [go_sem]
                    refine call_keep works rfl ?_
                    simp +contextual only [go_sem]
                  | false =>
                    simp only [Bool.or_eq_false_iff, beq_eq_false_iff_ne, decide_eq_false_iff_not] at hxx
                    obtain ⟨fx, j4⟩ := J4 x hxm hxx.1 (by omega)
                    have hiy := implies_c s' ⟨x.c, x.rel, x.b + 1⟩ hs' (show x.c.length ≤ 9223372036854775807 by omega)
                    rw [if_pos ⟨hc2, by omega, fx⟩, if_pos ⟨hc2, by omega, fx⟩, Sys.d, hv', hn, Row.d] at hiy
                    have hwx : IntKind.i64.wrap (x.b + 1) = x.b + 1 := wrap64 (by omega) (by omega)
                    simp +contextual only [go_sem, hwx, hv', hn]
                    refine call_keep hiy rfl ?_
                    have z3 : ((3 : Int) == 0) = false := rfl
                    have z4 : ((0 : Int) == 3) = false := rfl
                    rcases imp_cases s' ⟨x.c, x.rel, x.b + 1⟩ with ⟨b3, b4⟩ | b4
                    · rw [b3, b4]
                      have z2 : ((3 : Int) == 3) = true := rfl
                      simp +contextual only [go_sem, z2, z3]
                      refine call_keep works rfl ?_
                      simp +contextual only [go_sem]
                    · rw [j4 b4, b4]
                      simp +contextual only [go_sem, z4, z5]
                      refine call_keep works rfl ?_
                      simp +contextual only [go_sem]
end Go.Proofs.Ytaafchgfibbmhaa
namespace Go.Proofs.Ytaafchgfibbmhaa
theorem HVt.of_new {P : Program} {g : FuncId} {ds : List D} {o : Nat → Obj'} {fr : Nat} {ty : TypeId} {sz ep : Nat} {es : List D}
    (h : CtK P g (ds.map .d) (fun _ => .no) 0 (fun v o1 _ => ∃ j, v = .osl j ep ∧ o1 j = .arr ep ty sz es) (fun _ _ _ => False)) :
    HVt P g (ds.map .d) [] o fr (.osl fr ep) [(fr, .arr ep ty sz es)] := by
  refine ⟨h.1, fun o' us M φ w vals _ hfr hH hd => ?_⟩
  let φ0 : Place := fun _ => .nilFunc
  have hnl : ∀ b, ¬ liveB φ0 (hp (fun _ => .no) 0) b := by rintro b ⟨id, hl, _⟩; simp [hp, Obj'.live] at hl
  have hM : ∀ b, mutB M φ ⟨o', us⟩ b → b < w.heap.size := fun b hb => hb.elim (hH.old b) fun hl => (hH.ours b hl).2
  have hdd := (V.dens_map_d _ _).1 hd
  refine (h.2 (mutB M φ ⟨o', us⟩) φ0 w vals (emptyHeap φ0 hM) ((V.dens_map_d _ _).2 (D.dens_mono (w := w) (w' := w) (B := mutB M φ ⟨o', us⟩) (fun b _ hB => ⟨rfl, fun h => h.elim hB (hnl b)⟩) _ _ hdd))).mono ?_
  rintro e w' ⟨φ1, o1, n1, v, k1, k2, k3⟩
  have hk : Keep (fun _ => False) w w' := ⟨k2.keep.os, k2.keep.tape, k2.keep.output, k2.keep.size, fun k hk _ => k2.keep.block k hk (hnl k)⟩
  cases e with
  | outgrown => exact k3.elim
  | panicked ch => obtain ⟨_, _, _, h⟩ := k3; exact h.elim
  | returned val =>
    obtain ⟨g1, j, rfl, hj⟩ := k3
    obtain ⟨v0, v1, v2⟩ := g1
    have hval : val = φ1 j := (v2 ep (by show (o1 j).epoch = some ep; rw [hj]; rfl)).2 rfl
    have hlive : ∀ b, blk val = some b → liveB φ1 (hp o1 n1) b := fun b hb => ⟨j, by show (o1 j).live = true; rw [hj]; rfl, by rw [← hval]; exact hb⟩
    have hfresh : ∀ b, blk val = some b → w.heap.size ≤ b ∧ b < w'.heap.size := fun b hb => ⟨(k2.grow b (hlive b hb)).resolve_left (hnl b), (k1.ours b (hlive b hb)).2⟩
    have hob := k1.ok j
    unfold ObjOk at hob
    rw [show (hp o1 n1).o j = .arr ep ty sz es from hj] at hob
    obtain ⟨hsz, xs, hown, hrow⟩ := hob
    have hpe : (⟨o', us⟩ : Hp).put [(fr, .arr ep ty sz es)] = ⟨put o' [(fr, .arr ep ty sz es)], fun id => us id ∨ id = fr⟩ := by
      simp only [Hp.put]
      congr 1
      funext id
      simp
    have hBs : ∀ b, mutB M (upd φ fr val) ((⟨o', us⟩ : Hp).put [(fr, .arr ep ty sz es)]) b → mutB (mutB M φ ⟨o', us⟩) φ1 (hp o1 n1) b := by
      rintro b (hb | ⟨id, hl, hb⟩)
      · exact .inl (.inl hb)
      · by_cases e : id = fr
        · subst e
          simp at hb
          exact .inr (hlive b hb)
        · simp [e] at hl hb
          exact .inl (.inr ⟨id, hl, hb⟩)
    have hheap := heap_new hH hk hfr (.arr ep ty sz es) val hfresh (by
      unfold ObjOk
      rw [show ((⟨o', us⟩ : Hp).put [(fr, .arr ep ty sz es)]).o fr = .arr ep ty sz es by simp]
      refine ⟨hsz, xs, ?_, hrow.mono (w := w') (w' := w') (fun b _ hB => ⟨rfl, fun h => hB (hBs b h)⟩)⟩
      rw [show upd φ fr val fr = val by simp, hval]
      exact hown)
    have htr := trans_new (φ := φ) (H := ⟨o', us⟩) hk hfr (.arr ep ty sz es) val (fun b hb => (hfresh b hb).1)
    rw [hpe] at hheap htr
    refine ⟨upd φ fr val, hheap, htr, val, rfl, v0, .inr rfl, fun e he => ?_⟩
    have he' : ep = e := by
      have : (put o' [(fr, Obj'.arr ep ty sz es)] fr).epoch = some ep := by simp [put, Obj'.epoch]
      rw [show (⟨put o' [(fr, .arr ep ty sz es)], fun id => us id ∨ id = fr⟩ : Hp).o fr = put o' [(fr, .arr ep ty sz es)] fr from rfl, this] at he
      injection he
    exact ⟨by omega, fun _ => by simp⟩
end Go.Proofs.Ytaafchgfibbmhaa
namespace Go.Proofs.Ytaafchgfibbmhaa
theorem cloneR_c (l : List D) (hne : l ≠ []) (hl : l.length ≤ 1000) (hc : (l.all fun z => z.cells.length == 3) = true) : CtK Try.prog 76 ([.sl l].map .d) (fun _ => .no) 0 (fun v o1 _ => ∃ j, v = .osl j 1 ∧ o1 j = .arr 1 45 3 l) (fun _ _ _ => False) := by
  refine CtK.of_ev mix fn76 (by simp) ?_
  rw [c76]
  have hc' := hc
  simp only [D.cells] at hc'
  have hu : Try.prog.underlying 22 = some (.slice 45) := by kernel_rfl
  have heq : eqV Try.prog (fun _ => .no) 22 true (.d (.sl l)) .nils = some (.d (.bool false)) := by
    unfold eqV
    rw [hu]
    cases l with
    | nil => exact absurd rfl hne
    | cons a l => rfl
  simp +contextual only [go_sem, heq]
  simp only [List.isEmpty_nil, if_true]
  simp +contextual only [go_sem]
  rw [if_pos hc', if_pos (by omega)]
  simp +contextual only [go_sem]
  exact ⟨3, rfl, upd_same _ _ _⟩
theorem cloneR_new (l : List D) (hne : l ≠ []) (hl : l.length ≤ 1000) (hc : (l.all fun z => z.cells.length == 3) = true) (o : Nat → Obj') (fr : Nat) : HVt Try.prog 76 [.d (.sl l)] [] o fr (.osl fr 1) [(fr, .arr 1 45 3 l)] :=
  HVt.of_new (cloneR_c l hne hl hc)
end Go.Proofs.Ytaafchgfibbmhaa
namespace Go.Proofs.Ytaafchgfibbmhaa
def withB (r : Row) (b : Int) : Row := ⟨r.c, r.rel, if 1000 < b then 1000 else b⟩
def fitBs (r : Row) : List Int := [r.b, r.b + 1, r.b + 7, r.b + 50, 1000]
def fitOk (p : List Rat) (r : Row) (b : Int) : Bool := (saidF (withB r b) p).1 && (saidF (withB r b) p).2
def fitRow (p : List Rat) (r : Row) : Row := match (fitBs r).find? (fitOk p r) with
  | some b => withB r b
  | none => r
def fitF (s : Sys) (p : List Rat) (fit : Int) : Sys := if fit.tmod 2 = 0 then s else ⟨s.vars, s.rows.map (fitRow p)⟩
def fitL (p : List Rat) (l : List Row) (k : Nat) : List Row := (l.take k).map (fitRow p) ++ l.drop k
theorem fitL_len (p : List Rat) (l : List Row) (k : Nat) (hk : k ≤ l.length) : (fitL p l k).length = l.length := by simp [fitL]; omega
@[reducible] noncomputable def fO (s : Sys) (p : List Rat) (k : Nat) : Nat → Obj' :=
  upd (upd (upd (upd (fun _ => .no) 0 (.row [.d (.i s.vars), .d (.sl (s.rows.map Row.d))])) 1 (.row [.d (.i 0), .nils])) 6 (.arr 1 45 3 ((fitL p s.rows k).map Row.d))) 8 (.row [.d (.i s.vars), .osl 6 1])
theorem fO_good (s : Sys) (p : List Rat) (k : Nat) : Good (fO s p k) 9 := ((((Good.nil (nx := 9)).upd (by omega) rfl).upd (by omega) rfl).upd (by omega) rfl).upd (by omega) rfl
theorem fitL_row (p : List Rat) (l : List Row) (k : Nat) (r : Row) (hr : l[k]? = some r) : fitL p l (k + 1) = (fitL p l k).set k (fitRow p r) := by
  obtain ⟨hk, hg⟩ := List.getElem?_eq_some_iff.1 hr
  apply List.ext_getElem?
  intro i
  rw [List.getElem?_set]
  unfold fitL
  by_cases e : k = i
  · subst e
    rw [if_pos rfl, if_pos (by simp; omega), List.getElem?_append_left (by simp; omega), List.getElem?_map, List.getElem?_take_of_lt (by omega), hr]
    rfl
  · rw [if_neg e]
    by_cases h : i < k
    · rw [List.getElem?_append_left (by simp; omega), List.getElem?_append_left (by simp; omega), List.getElem?_map, List.getElem?_map, List.getElem?_take_of_lt (by omega), List.getElem?_take_of_lt (by omega)]
    · rw [List.getElem?_append_right (by simp; omega), List.getElem?_append_right (by simp; omega), List.getElem?_drop, List.getElem?_drop]
      simp only [List.length_map, List.length_take]
      congr 1
      omega
theorem fitRow_some {p : List Rat} {r : Row} {j : Nat} {b : Int} (hb : (fitBs r)[j]? = some b) (h0 : ∀ i b, i < j → (fitBs r)[i]? = some b → fitOk p r b = false) (h : fitOk p r b = true) : fitRow p r = withB r b := by
  have : (fitBs r).find? (fitOk p r) = some b := by
    rw [List.find?_eq_some_iff_getElem]
    obtain ⟨hj, e⟩ := List.getElem?_eq_some_iff.1 hb
    exact ⟨h, j, hj, e, fun i hi => by simpa using h0 i _ hi (List.getElem?_eq_getElem (by omega))⟩
  simp only [fitRow, this]
theorem fitRow_none {p : List Rat} {r : Row} (h0 : ∀ i b, i < 5 → (fitBs r)[i]? = some b → fitOk p r b = false) : fitRow p r = r := by
  have : (fitBs r).find? (fitOk p r) = none := by
    rw [List.find?_eq_none]
    intro b hb
    obtain ⟨i, hi⟩ := List.mem_iff_getElem?.1 hb
    have := h0 i b (List.getElem?_eq_some_iff.1 hi).1 hi
    simp [this]
  simp only [fitRow, this]
@[reducible] noncomputable def fO2 (s : Sys) (p : List Rat) (k : Nat) (r : Row) : Nat → Obj' :=
  upd (upd (fO s p k) 13 (.row [.d (.sl (r.c.map .i)), .d (.i r.rel), .d (.i r.b)])) 27 (.arr 0 3 1 ((fitBs r).map .i))
theorem fO2_good (s : Sys) (p : List Rat) (k : Nat) (r : Row) : Good (fO2 s p k r) 28 := (((fO_good s p k).mono (by omega)).upd (by omega) rfl).upd (by omega) rfl
theorem fitted_c (s : Sys) (p : List Rat) (fit : Int) (hne : s.rows ≠ []) (hl : s.rows.length ≤ 1000) (h8 : 0 ≤ fit ∧ fit ≤ 255)
    (hpl : p.length ≤ 1000) (hpd : ∀ (k : Nat) (x : Rat), p[k]? = some x → (1 ≤ x.den ∧ x.den ≤ 6) ∧ -19 ≤ x.num ∧ x.num ≤ 19)
    (hrow : ∀ r ∈ s.rows, r.c.length ≤ p.length ∧ (∀ n ∈ r.c, -1000 ≤ n ∧ n ≤ 1000) ∧ -1000 ≤ r.b ∧ r.b ≤ 1000) : PCt Try.prog 34 [s.d, .sl (p.map Rat.d), .int .u8 fit] (.ret [(fitF s p fit).d]) := by
  refine PCt.of_ev mix fn34 (by simp) ?_
  rw [c34]
  simp +contextual only [go_sem, Sys.d]
  refine callD_new rfl (cloneR_new _ (by simpa using hne) (by simpa using hl) (by simp [Row.d, D.cells]) _ _) ?_
  simp +contextual only [go_sem]
  refine end_intro (by decide) ?_
  simp +contextual only [go_sem]
  have hbs : (fit.tmod 2 == 0) = decide (fit.tmod 2 = 0) := rfl
  refine cond_intro (fun h2 => ?_) (fun h2 => ?_)
  · have h0 : fit.tmod 2 = 0 := by simpa using h2
    simp +contextual only [go_sem]
    simp only [fitF, if_pos h0]
  · have h0 : ¬ (fit.tmod 2 = 0) := by simpa using h2
    simp +contextual only [go_sem]
    refine loop_fam (fun k : Nat => ⟨envJ [.junk, .d (.sl (p.map Rat.d)), .junk, .junk, .junk, .junk, .ptr 1 0, .ptr 8 0, .junk, .junk, .junk, .junk, .junk, .junk, .junk, .junk, .junk, .junk, .junk, .junk, .junk, .junk, .junk, .junk, .junk, .junk, .osl 6 1, .d (.i s.rows.length), .d (.i k)], fO s p k, 9⟩)
      (fun k => k ≤ s.rows.length) (fun k => s.rows.length - k) 0 (Nat.zero_le _) (SLe.backL _ (by omega) (by omega) (fO_good s p 0) (fun j h => ?_) ?_) (fun k hk => ?_)
    · rw [upd_upd]; rfl
    · repeat (first | exact backE_nil | refine backE_junk ?_ | refine backE_d rfl ?_ | refine backE_d (d_int (wrapN (by omega))) ?_ | refine backE_v rfl (by simp [V.refs]) ?_)
    simp +contextual only [go_sem]
    refine cond_intro (fun h3 => ?_) (fun h3 => ?_)
    · simp only [decide_eq_true_eq] at h3
      obtain ⟨r, hr⟩ : ∃ r, s.rows[k]? = some r := ⟨s.rows[k]'(by omega), List.getElem?_eq_getElem _⟩
      have hfr : (fitL p s.rows k)[k]? = some r := by
        unfold fitL
        rw [List.getElem?_append_right (by simp; omega)]
        simp [hr, Nat.min_eq_left (by omega : k ≤ s.rows.length)]
      have hfl : k < (fitL p s.rows k).length := by rw [fitL_len p s.rows k hk]; omega
      obtain ⟨hr1, hr2, hr3⟩ := hrow r (List.mem_of_getElem? hr)
      simp +contextual only [go_sem, hfr, hfl, if_true, Row.d]
      rw [wrap64 (n := r.b + 1) (by omega) (by omega), wrap64 (n := r.b + 7) (by omega) (by omega), wrap64 (n := r.b + 50) (by omega) (by omega)]
      refine loop_fam (fun j : Nat => ⟨envJ [.junk, .d (.sl (p.map Rat.d)), .junk, .junk, .junk, .junk, .ptr 1 0, .ptr 8 0, .d (.i k), .ptr 13 0, .junk, .junk, .junk, .junk, .junk, .junk, .junk, .junk, .junk, .junk, .junk, .junk, .junk, .junk, .junk, .junk, .osl 6 1, .d (.i s.rows.length), .d (.i k), .junk, .junk, .junk, .junk, .junk, .junk, .junk, .junk, .junk, .junk, .junk, .junk, .junk, .junk, .junk, .osl 27 0, .d (.i 5), .d (.i j)], fO2 s p k r, 28⟩)
        (fun j => j ≤ 5 ∧ ∀ i b, i < j → (fitBs r)[i]? = some b → fitOk p r b = false) (fun j => 5 - j) 0 ⟨Nat.zero_le _, fun i b h => absurd h (Nat.not_lt_zero _)⟩ (SLe.backL _ (by omega) (by omega) (fO2_good s p k r) (fun j h => ?_) ?_) (fun j hj => ?_)
      · rw [upd_upd]; rfl
      · repeat (first | exact backE_nil | refine backE_junk ?_ | refine backE_d rfl ?_ | refine backE_d (d_int (wrapN (by omega))) ?_ | refine backE_v rfl (by simp [V.refs]) ?_)
      obtain ⟨hj5, hjn⟩ := hj
      simp +contextual only [go_sem]
      refine cond_intro (fun h4 => ?_) (fun h4 => ?_)
      · simp only [decide_eq_true_eq] at h4
        obtain ⟨b, hb⟩ : ∃ b, (fitBs r)[j]? = some b := ⟨(fitBs r)[j]'(by simp [fitBs]; omega), List.getElem?_eq_getElem _⟩
        have hjl : j < (fitBs r).length := by simp [fitBs]; omega
        have hbb : -1000 ≤ b ∧ b ≤ 1050 := by
          have := List.mem_of_getElem? hb
          simp [fitBs] at this
          omega
        have hsa := said_c (withB r b) p hr1 hpl (by show -1000000000 ≤ (if 1000 < b then 1000 else b) ∧ (if 1000 < b then 1000 else b) ≤ 1000000000; split <;> omega) (fun i x hx => by have := hpd i x hx; omega) (fun i c x hc hx => by
          have h1 := hpd i x hx
          have h2 := hr2 c (List.mem_of_getElem? hc)
          have h3 := mulI_bound (a := c) (b := x.num) (A := 1000) (B := 19) (by omega) (by omega) (by omega) (by omega)
          omega)
        have hcase : fitOk p r b = ((saidF (withB r b) p).1 && (saidF (withB r b) p).2) := rfl
        rw [Row.d] at hsa
        simp +contextual only [go_sem, hb, hjl, if_true, Row.d]
        refine call_keep hsa rfl ?_
        generalize (saidF (withB r b) p).1 = y at *
        generalize (saidF (withB r b) p).2 = c at *
        cases hyc : (y && c) with
        | true =>
          obtain ⟨rfl, rfl⟩ : y = true ∧ c = true := by simpa using hyc
          rw [hyc] at hcase
          have hF := fitRow_some hb hjn hcase
          have hst := fitL_row p s.rows k r hr
          rw [hF] at hst
          simp +contextual only [go_sem, hfr, hfl, if_true, List.length_map]
          refine nextS_intro (k + 1) (by omega) (by omega) (SLe.backL _ (by omega) (by omega) (fO_good s p (k + 1)) (fun i h => ?_) ?_)
          · by_cases e : i = 6
            · subst e
              show upd _ 6 _ 6 = fO s p (k + 1) 6
              unfold fO
              rw [upd_same, upd_ne _ _ _ _ (by omega), upd_same, hst, List.map_set]
              rfl
            · rw [upd_ne _ _ _ _ e, upd_ne _ _ _ _ (by omega), upd_ne _ _ _ _ (by omega), upd_ne _ _ _ _ (by omega)]
              unfold fO2
              rw [upd_ne _ _ _ _ (by omega), upd_ne _ _ _ _ (by omega)]
              unfold fO
              by_cases e2 : i = 8
              · subst e2; rw [upd_same, upd_same]
              · rw [upd_ne _ _ _ _ e2, upd_ne _ _ _ _ e2, upd_ne _ _ _ _ e, upd_ne _ _ _ _ e]
          · repeat (first | exact backE_nil | refine backE_junk ?_ | refine backE_d rfl ?_ | refine backE_d (d_int (wrapN (by omega))) ?_ | refine backE_v rfl (by simp [V.refs]) ?_)
        | false =>
          rw [hyc] at hcase
          have hjn' : ∀ i b, i < j + 1 → (fitBs r)[i]? = some b → fitOk p r b = false := fun i b' hi hb' => by
            by_cases e : i = j
            · subst e; rw [hb] at hb'; injection hb' with hb'; subst hb'; exact hcase
            · exact hjn i b' (by omega) hb'
          cases y <;> cases c
          all_goals first
            | (exact absurd hyc Bool.noConfusion)
            | (simp +contextual only [go_sem]
               refine nextS_intro (j + 1) ⟨by omega, hjn'⟩ (by omega) (SLe.backL _ (by omega) (by omega) (fO2_good s p k r) (fun i h => ?_) ?_)
               · rw [upd_ne _ _ _ _ (by omega), upd_ne _ _ _ _ (by omega), upd_ne _ _ _ _ (by omega)]
               · repeat (first | exact backE_nil | refine backE_junk ?_ | refine backE_d rfl ?_ | refine backE_d (d_int (wrapN (by omega))) ?_ | refine backE_v rfl (by simp [V.refs]) ?_))
      · simp only [decide_eq_false_iff_not] at h4
        have hj5' : j = 5 := by omega
        subst hj5'
        have hst : fitL p s.rows (k + 1) = fitL p s.rows k := by
          rw [fitL_row p s.rows k r hr, fitRow_none hjn]
          apply List.ext_getElem?
          intro i
          rw [List.getElem?_set]
          by_cases e : k = i
          · subst e; rw [if_pos rfl, if_pos hfl, hfr]
          · rw [if_neg e]
        simp +contextual only [go_sem]
        refine nextS_intro (k + 1) (by omega) (by omega) (SLe.backL _ (by omega) (by omega) (fO_good s p (k + 1)) (fun i h => ?_) ?_)
        · simp only [fO2, fO, hst]
          rw [upd_ne _ _ _ _ (by omega), upd_ne _ _ _ _ (by omega)]
        · repeat (first | exact backE_nil | refine backE_junk ?_ | refine backE_d rfl ?_ | refine backE_d (d_int (wrapN (by omega))) ?_ | refine backE_v rfl (by simp [V.refs]) ?_)
    · simp only [decide_eq_false_iff_not] at h3
      have hkl : k = s.rows.length := by omega
      simp +contextual only [go_sem]
      simp only [fitF, if_neg h0, fitL, hkl, List.take_length, List.drop_length, List.append_nil]
theorem clone0_c : PCt Try.prog 76 [.sl []] (.ret [.sl []]) := by
  refine PCt.of_ev mix fn76 (by simp) ?_
  rw [c76]
  have hu : Try.prog.underlying 22 = some (.slice 45) := by kernel_rfl
  have heq : eqV Try.prog (fun _ => .no) 22 true (.d (.sl [])) .nils = some .anyb := by
    unfold eqV
    rw [hu]
    rfl
  simp +contextual only [go_sem, heq]
  simp only [List.isEmpty_nil, if_true]
  simp +contextual only [go_sem]
theorem fitted0_c (n : Int) (pd : D) (fit : Int) (h8 : 0 ≤ fit ∧ fit ≤ 255) : PCt Try.prog 34 [.agg [.i n, .sl []], pd, .int .u8 fit] (.ret [.agg [.i n, .sl []]]) := by
  refine PCt.of_ev mix fn34 (by simp) ?_
  rw [c34]
  simp +contextual only [go_sem]
  refine callD_give clone0_c ?_
  simp +contextual only [go_sem]
  refine end_intro (by decide) ?_
  simp +contextual only [go_sem]
  refine cond_intro (fun h2 => ?_) (fun h2 => ?_)
  · simp +contextual only [go_sem]
  · simp +contextual only [go_sem]
    refine loop_fam (fun k : Nat => ⟨envJ [.junk, .junk, .junk, .junk, .junk, .junk, .ptr 1 0, .ptr 8 0, .junk, .junk, .junk, .junk, .junk, .junk, .junk, .junk, .junk, .junk, .junk, .junk, .junk, .junk, .junk, .junk, .junk, .junk, .junk, .d (.i 0), .d (.i 0)],
        upd (upd (upd (fun _ => .no) 0 (.row [.d (.i n), .d (.sl [])])) 1 (.row [.d (.i 0), .nils])) 8 (.row [.d (.i n), .d (.sl [])]), 9⟩)
      (fun k => True) (fun k => 0) 0 trivial (SLe.backL _ (by omega) (by omega) ((((Good.nil (nx := 9)).upd (by omega) rfl).upd (by omega) rfl).upd (by omega) rfl) (fun j h => ?_) ?_) (fun k hk => ?_)
    · rw [upd_upd]
    · repeat (first | exact backE_nil | refine backE_junk ?_ | refine backE_d rfl ?_ | refine backE_d (d_int (wrapN (by omega))) ?_ | refine backE_v rfl (by simp [V.refs]) ?_)
    simp +contextual only [go_sem]
end Go.Proofs.Ytaafchgfibbmhaa
section
namespace Go.Proofs.Ytaafchgfibbmhaa
open Go.ChangeShapes Go.WideShapes Go.RowKit
theorem i8_8 {x : D} (h : D.hasT Try.prog x 101) : ∃ n : Int, x = .int .i8 n ∧ -128 ≤ n ∧ n ≤ 127 := by
  obtain ⟨n, h, hw⟩ := hasT_int undT_101 h
  simp [Lit.wf] at hw
  exact ⟨n, h, hw⟩
theorem u8_5 {x : D} (h : D.hasT Try.prog x 5) : ∃ n : Int, x = .int .u8 n ∧ 0 ≤ n ∧ n ≤ 255 := by
  obtain ⟨n, h, hw⟩ := hasT_int undT_5 h
  simp [Lit.wf] at hw
  exact ⟨n, h, hw⟩
theorem pr102 {x : D} (h : D.hasT Try.prog x 102) : ∃ p : Int × Int, x = prD p ∧ ((-128 ≤ p.1 ∧ p.1 ≤ 127) ∧ -128 ≤ p.2 ∧ p.2 ≤ 127) := by
  obtain ⟨cs, rfl, hh⟩ := hasT_agg (by kernel_rfl) (ls := [101, 101]) (by kernel_rfl) h
  clear h; have h := hh; clear hh
  obtain ⟨a, cs, rfl, ha, h⟩ := hasTs_cons h
  obtain ⟨b, cs, rfl, hb, h⟩ := hasTs_cons h
  have := hasTs_nil h; subst this
  obtain ⟨n, rfl, hn⟩ := i8_8 ha
  obtain ⟨m, rfl, hm⟩ := i8_8 hb
  exact ⟨(n, m), rfl, hn, hm⟩
theorem prs59 {x : D} (h : D.hasT Try.prog x 59) : ∃ l : List (Int × Int), x = .sl (l.map prD) ∧ l.length ≤ 9223372036854775807 ∧ ∀ p ∈ l, (-128 ≤ p.1 ∧ p.1 ≤ 127) ∧ -128 ≤ p.2 ∧ p.2 ≤ 127 := by
  obtain ⟨es, rfl, h1, h2⟩ := hasT_sl undT_59 h
  obtain ⟨l, rfl, hl⟩ := allT_map (fun x h => pr102 h) es h2
  exact ⟨l, rfl, by have := maxLen_le; simp at h1; omega, hl⟩
theorem withB_ok {r : Row} {p : List Rat} (hr : -1000 ≤ r.b ∧ r.b ≤ 1000) : (fitRow p r).c = r.c ∧ (fitRow p r).rel = r.rel ∧ -1000 ≤ (fitRow p r).b ∧ (fitRow p r).b ≤ 1000 := by
  unfold fitRow
  split
  · rename_i b hb
    have := List.mem_of_find?_eq_some hb
    simp [fitBs] at this
    refine ⟨rfl, rfl, ?_⟩
    show -1000 ≤ (if 1000 < b then 1000 else b) ∧ (if 1000 < b then 1000 else b) ≤ 1000
    split <;> omega
  · exact ⟨rfl, rfl, hr⟩
theorem fitRow_c (p : List Rat) (r : Row) : (fitRow p r).c = r.c := by
  unfold fitRow
  split
  · rfl
  · rfl
theorem fitF_check {s : Sys} (p : List Rat) (fit : Int) (hc : checkF s = true) : checkF (fitF s p fit) = true := by
  unfold fitF
  split
  · exact hc
  · obtain ⟨v1, v5, r10, hall⟩ := check_rows hc
    simp [checkF, inB, formedF, allF]
    refine ⟨⟨⟨v1, v5⟩, by omega⟩, fun r hr => ?_⟩
    obtain ⟨h1, h2, h3, h4⟩ := hall r hr
    obtain ⟨e1, e2, e3⟩ := withB_ok (p := p) h3
    rw [e1, e2]
    exact ⟨⟨⟨h1, h4⟩, h2⟩, e3⟩
theorem fitF_vars (s : Sys) (p : List Rat) (fit : Int) : (fitF s p fit).vars = s.vars := by unfold fitF; split <;> rfl
theorem fitF_fits {s : Sys} (p : List Rat) (fit : Int) (hs : s.Fits) : (fitF s p fit).Fits := by
  unfold fitF
  split
  · exact hs
  · refine ⟨by simpa using hs.rows, fun r hr => ?_⟩
    obtain ⟨r', hr', rfl⟩ := List.mem_map.1 hr
    rw [fitRow_c]
    exact hs.cs r' hr'
theorem fitted_all (s : Sys) (hc : checkF s = true) (by' : List (Int × Int)) (h8 : ∀ x ∈ by', (-128 ≤ x.1 ∧ x.1 ≤ 127) ∧ -128 ≤ x.2 ∧ x.2 ≤ 127) (fit : Int) (h5 : 0 ≤ fit ∧ fit ≤ 255) :
    PCt Try.prog 34 [s.d, .sl ((atK by' s.vars.toNat s.vars.toNat).map Rat.d), .int .u8 fit] (.ret [(fitF s (atK by' s.vars.toNat s.vars.toNat) fit).d]) := by
  obtain ⟨v1, v5, r10, hall⟩ := check_rows hc
  by_cases hne : s.rows = []
  · obtain ⟨v, l⟩ := s
    simp only at hne
    subst hne
    have := fitted0_c v (.sl ((atK by' v.toNat v.toNat).map Rat.d)) fit h5
    have e : fitF ⟨v, []⟩ (atK by' v.toNat v.toNat) fit = ⟨v, []⟩ := by unfold fitF; split <;> rfl
    rw [e]
    exact this
  · exact fitted_c s _ fit hne (by omega) h5 (by rw [atK_len]; omega) (fun k x hx => atK_small h8 hx) (fun r hr => by
      obtain ⟨h1, h2, h3, h4⟩ := hall r hr
      exact ⟨by rw [atK_len]; omega, h2, h3⟩)
set_option maxRecDepth 100000 in
theorem linearDraws_lifted (os : Os) (started : os.Started) (H : Type) (enc : TypeId × Value → H) :
    ReturnsInHanded {} Try.checked os 7 .any (Rows.linearDrawsSpec.pre6 enc Try.prog Try.f7 Rows.linearDrawsRow.domain false) (Rows.linearDrawsSpec.post enc Try.prog Try.f7 Rows.linearDrawsRow.apart Rows.linearDrawsRow.fresh Rows.linearDrawsRow.handsOn Rows.linearDrawsRow.again) := by
  refine returnsInHanded_of_change (C := Try.checked) (by kernel_rfl) started (by kernel_rfl) Try.func7
    (ChangeSpec.witness6 (enc := enc) (C := Try.checked) false ⟨#[], #[.agg #[.int .i64 0, .slice none 0 0], .agg #[.slice none 0 0, .int .i64 0, .int .i64 0], .slice none 0 0, .int .u8 0, .int .u8 0], []⟩ 8 (by kernel_rfl) (by kernel_rfl) (by kernel_rfl) (by kernel_rfl)) ?_
  intro W base args ds gs before hval hW _ _
  refine law_contract (T := [24, 45, 59, 5, 22, 42, 3, 43, 102, 101]) (tb := 4) (by kernel_rfl) (by kernel_rfl) rfl (fun ds h => by match ds, h with | [_, _, _, _, _], _ => rfl) (by kernel_rfl) (by intro t ht; rw [Try.params7] at ht; simp at ht; rcases ht with rfl | rfl | rfl | rfl | rfl <;> simp) (by kernel_rfl) (by intro t ht; rw [Try.params7] at ht; simp at ht; rcases ht with rfl | rfl | rfl | rfl | rfl <;> exact ⟨by kernel_rfl, of_decide_eq_true (by kernel_rfl)⟩)
    (fun xs hx => ?_) base args ds gs before hval hW
  rw [Try.params7] at hx
  obtain ⟨x, xs, rfl, hx1, hx⟩ := hasTs_cons hx
  obtain ⟨u, xs, rfl, hu1, hx⟩ := hasTs_cons hx
  obtain ⟨y, xs, rfl, hy1, hx⟩ := hasTs_cons hx
  obtain ⟨z, xs, rfl, hz1, hx⟩ := hasTs_cons hx
  obtain ⟨w, xs, rfl, hw1, hx⟩ := hasTs_cons hx
  have := hasTs_nil hx; subst this
  obtain ⟨s, rfl, hs⟩ := sys24 hx1
  obtain ⟨by', rfl, hl, h8⟩ := prs59 hy1
  obtain ⟨fit, rfl, h5⟩ := u8_5 hz1
  obtain ⟨nn, rfl, h6⟩ := u8_5 hw1
  obtain ⟨r, rfl, hr⟩ := row45 hu1
  exact linearDraws_c s (fitF s (atK by' s.vars.toNat s.vars.toNat) fit) r hs hr by' hl h8 fit nn h6 (fitF_check _ _) (fitF_fits _ _ hs) (fitF_vars _ _ _) (by unfold fitF; split <;> simp) (fun _ hc => fitted_all s hc by' h8 fit h5)
theorem linearDraws_holds : Rows.LinearDrawsSaid :=
  OpenClaim.holds_of_wide 7 Try.f7 rfl rfl rfl rfl rfl rfl rfl ⟨rfl, rfl, rfl, rfl, rfl⟩ rfl rfl rfl rfl rfl (by kernel_rfl) Try.func7 (by kernel_rfl)
    (of_decide_eq_true (by kernel_rfl)) (by unfold Func.isWrapper; first | (rw [if_pos (by decide +kernel)]; kernel_rfl) | (rw [if_neg (by decide +kernel)]; exact ⟨rfl, rfl⟩))
    (fun os started H enc _ => linearDraws_lifted os started H enc)
end Go.Proofs.Ytaafchgfibbmhaa
end
