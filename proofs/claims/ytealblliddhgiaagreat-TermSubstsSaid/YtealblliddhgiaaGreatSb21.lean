/-
  A PART OF THE PROOF. Conditions: none.
-/
import Derived.Test.YtealblliddhgiaaGreatSb20
set_option linter.unusedSimpArgs false
set_option linter.unusedVariables false
namespace Go.Proofs.YtealblliddhgiaaGreat
def letTh : IC := c91.snd.snd.snd.snd.snd.snd.fst.snd.fst
def letB2 : IC := letTh.snd.snd.fst.snd.fst.fst
def letB4 : IC := letTh.snd.snd.snd.fst.snd.fst.fst
theorem letL2 {b : List (Int × Tm)} (hb : BOk b) {o : Nat -> Obj'} {e : Nat -> V} {Q : Xit -> S -> Prop} {c tid it : Nat} {s0 : List Int} (hc : 29 <= c) (ht : tid < c) (hi : it < c) (hn : tid ≠ it)
 (hg : Good o c) (ot : o tid = setO s0) (hs0 : s0.Nodup) (oi : o it = .mit (enc (D.int .i64) (tms b)) none)
 (he : backE c e [.d (mpT b), .junk, .junk, .ptr 0 0, .ptr 1 0, .ptr 13 0, .mp 15, .ptr 20 0, .junk, .junk, .junk, .junk, .mp tid, .junk, .junk, .junk, .junk, .junk, .junk, .junk, .junk, .junk, .junk, .junk, .junk, .junk, .junk, .junk, .junk, .junk, .junk, .junk, .junk, .junk, .junk, .junk, .junk, .junk, .junk, .junk, .junk, .junk, .junk, .junk, .junk, .junk, .junk, .junk, .junk, .junk, .junk, .junk, .junk, .junk, .junk, .junk, .junk, .junk, .junk, .junk, .junk, .junk, .junk, .junk, .junk, .junk, .ptr it 0] 0)
 (hQ : ∀ e' o' nx' s', e' 0 = .d (mpT b) -> e' 3 = .ptr 0 0 -> e' 4 = .ptr 1 0 -> e' 5 = .ptr 13 0 -> e' 6 = .mp 15 -> e' 7 = .ptr 20 0 -> e' 12 = .mp tid -> c <= nx' -> Good o' nx' -> (∀ j, j < c -> j ≠ tid -> j ≠ it -> o' j = o j) -> o' tid = setO s' -> (∀ v, v ∈ s' ↔ v ∈ s0 \/ ∃ p ∈ b, v = p.1 \/ v ∈ sdF p.2) -> Q (.exit 2) ⟨e', o', nx'⟩) :
 loopS 0 (fun Q s => evW Tryz.prog 102 0 false letB2 Q s) Q ⟨e, o, c⟩ := by
 have hn' : it ≠ tid := fun h => hn h.symm
 refine loop_fam (fun i : List (Int × Tm) × List Int × Option (D × D) => ⟨envJ [.d (mpT b), .junk, .junk, .ptr 0 0, .ptr 1 0, .ptr 13 0, .mp 15, .ptr 20 0, .junk, .junk, .junk, .junk, .mp tid, .junk, .junk, .junk, .junk, .junk, .junk, .junk, .junk, .junk, .junk, .junk, .junk, .junk, .junk, .junk, .junk, .junk, .junk, .junk, .junk, .junk, .junk, .junk, .junk, .junk, .junk, .junk, .junk, .junk, .junk, .junk, .junk, .junk, .junk, .junk, .junk, .junk, .junk, .junk, .junk, .junk, .junk, .junk, .junk, .junk, .junk, .junk, .junk, .junk, .junk, .junk, .junk, .junk, .ptr it 0], upd (upd o tid (setO i.2.1)) it (.mit (enc (D.int .i64) (tms i.1)) i.2.2), c⟩)
  (fun i => i.2.1.Nodup /\ (∀ p ∈ i.1, p ∈ b) /\ ∀ v, (v ∈ i.2.1 \/ ∃ p ∈ i.1, v = p.1 \/ v ∈ sdF p.2) ↔ (v ∈ s0 \/ ∃ p ∈ b, v = p.1 \/ v ∈ sdF p.2)) (fun i => i.1.length) (b, s0, none) ⟨hs0, fun _ h => h, fun _ => Iff.rfl⟩ ?_ ?_
 ·dsimp only
  refine SLe.backL _ (by omega) (Nat.le_refl _) ?_ (fun j hj => ?_) he
  ·exact (by repeat (first | exact hg.mono (by omega) | exact Good.nil | refine Good.upd ?_ (by omega) rfl | refine Good.upd ?_ (by omega) (hLr _ _ _ (by omega)) | refine Good.upd ?_ (by omega) (by simp [Obj'.refs, V.refss, V.refs] <;> omega)))
  ·by_cases e1 : j = it
   ·subst e1; rw [upd_same]; exact oi
   ·rw [upd_ne _ _ _ _ e1]
    by_cases e2 : j = tid
    ·subst e2; rw [upd_same]; exact ot
    ·rw [upd_ne _ _ _ _ e2]
 rintro ⟨rest, s, last⟩ ⟨hs, hsub, hv⟩
 replace hs : s.Nodup := hs
 replace hsub : ∀ p ∈ rest, p ∈ b := hsub
 replace hv : ∀ v, (v ∈ s \/ ∃ p ∈ rest, v = p.1 \/ v ∈ sdF p.2) ↔ (v ∈ s0 \/ ∃ p ∈ b, v = p.1 \/ v ∈ sdF p.2) := hv
 have w1 : ∀ k, tid ≠ c + k := fun k => by omega
 have w2 : ∀ k, it ≠ c + k := fun k => by omega
 have w3 : tid ≠ c := by omega
 have w4 : it ≠ c := by omega
 dsimp only
 simp only [letB2, letTh, c91, IC.snd, IC.fst]
 simp +contextual (disch := first | omega | simp only [go_sem, false_implies]) only [go_sem, wrap64, if_pos, hn, hn', w1, w2, w3, w4, Nat.add_assoc, Nat.left_eq_add, Nat.add_eq_left, Nat.add_left_cancel_iff]
 refine nextC_tms (fun hr => ?_) fun i k x hm => ?_
 ·subst hr
  simp +contextual (disch := first | omega | simp only [go_sem, false_implies]) only [go_sem, wrap64, if_pos, and_self]
  refine hQ _ _ _ s ?_ ?_ ?_ ?_ ?_ ?_ ?_ ?_ ?_ (fun j g1 g2 g3 => ?_) ?_ (fun v => ?_)
  ·rfl
  ·rfl
  ·rfl
  ·rfl
  ·rfl
  ·rfl
  ·rfl
  ·omega
  ·exact (by repeat (first | exact hg.mono (by omega) | exact Good.nil | refine Good.upd ?_ (by omega) rfl | refine Good.upd ?_ (by omega) (hLr _ _ _ (by omega)) | refine Good.upd ?_ (by omega) (by simp [Obj'.refs, V.refss, V.refs] <;> omega)))
  ·(repeat (first | rfl | rw [upd_same] | rw [upd_ne _ _ _ _ (by omega)]))
  ·(repeat (first | rfl | rw [upd_same] | rw [upd_ne _ _ _ _ (by omega)]))
  ·rw [<- hv v]
   simp
 ·have hm' := List.mem_of_getElem? hm
  have hxz : x.sz <= 1000 := hb.sz _ (hsub _ hm')
  have hxh := Tm.hgt_le_sz x
  simp +contextual (disch := first | omega | simp only [go_sem, false_implies]) only [go_sem, wrap64, if_pos, hn, hn', w1, w2, w3, w4, Nat.add_assoc, Nat.left_eq_add, Nat.add_eq_left, Nat.add_left_cancel_iff]
  refine call_heap (standing_c x (Tm.fits_sz x (by omega)) (by omega) _ _ tid (insI s k) ?_ ?_ (nodup_insI _ hs) _ _ fun o2 n2 s2 m1 m2 m3 m4 m5 => ?_)
  ·exact (by repeat (first | exact hg.mono (by omega) | exact Good.nil | refine Good.upd ?_ (by omega) rfl | refine Good.upd ?_ (by omega) (hLr _ _ _ (by omega)) | refine Good.upd ?_ (by omega) (by simp [Obj'.refs, V.refss, V.refs] <;> omega)))
  ·(repeat (first | rfl | rw [upd_same] | rw [upd_ne _ _ _ _ (by omega)]))
  simp +contextual (disch := first | omega | simp only [go_sem, false_implies]) only [go_sem, wrap64, if_pos, and_self]
  have hlen : (rest.eraseIdx i).length < rest.length := by
   obtain ⟨hi, _⟩ := List.getElem?_eq_some_iff.1 hm
   rw [List.length_eraseIdx]; simp [hi]; omega
  have hpm : ((k, x) :: rest.eraseIdx i).Perm rest := erase_perm hm
  refine nextS_intro (rest.eraseIdx i, s2, some (.int .i64 k, x.d)) ⟨m5.1, fun p hp => hsub p (hpm.mem_iff.1 (List.mem_cons_of_mem _ hp)), fun v => ?_⟩ hlen (SLe.backL _ (by omega) (by omega) ?_ (fun j hj => ?_) ?_)
  ·show (v ∈ s2 \/ ∃ p ∈ rest.eraseIdx i, v = p.1 \/ v ∈ sdF p.2) ↔ _
   rw [<- hv v, m5.2 v, mem_insI]
   constructor
   ·rintro (((h | rfl) | h) | ⟨p, hp, h⟩)
    ·exact .inl h
    ·exact .inr ⟨(v, x), hm', .inl rfl⟩
    ·exact .inr ⟨(k, x), hm', .inr h⟩
    ·exact .inr ⟨p, hpm.mem_iff.1 (List.mem_cons_of_mem _ hp), h⟩
   ·rintro (h | ⟨p, hp, h⟩)
    ·exact .inl (.inl (.inl h))
    ·rcases List.mem_cons.1 (hpm.mem_iff.2 hp) with rfl | hp
     ·rcases h with h | h
      ·exact .inl (.inl (.inr h))
      ·exact .inl (.inr h)
     ·exact .inr ⟨p, hp, h⟩
  ·dsimp only; exact (by repeat (first | exact hg.mono (by omega) | exact Good.nil | refine Good.upd ?_ (by omega) rfl | refine Good.upd ?_ (by omega) (hLr _ _ _ (by omega)) | refine Good.upd ?_ (by omega) (by simp [Obj'.refs, V.refss, V.refs] <;> omega)))
  ·dsimp only
   by_cases e1 : j = it
   ·subst e1; rw [m3 _ (by omega) hn']; (repeat (first | rfl | rw [upd_same] | rw [upd_ne _ _ _ _ (by omega)]))
   ·by_cases e2 : j = tid
    ·subst e2; rw [m4]; (repeat (first | rfl | rw [upd_same] | rw [upd_ne _ _ _ _ (by omega)]))
    ·rw [m3 _ (by omega) e2]; (repeat (first | rfl | rw [upd_same] | rw [upd_ne _ _ _ _ (by omega)]))
  ·(repeat (first | exact backE_nil | refine backE_junk ?_ | refine backE_d rfl ?_ | refine backE_d (d_int (wrapN (by omega))) ?_ | refine backE_v rfl (by simp [V.refs, V.refss] <;> first | omega | assumption) ?_))
theorem letL4 {b : List (Int × Tm)} {o : Nat -> Obj'} {e : Nat -> V} {Q : Xit -> S -> Prop} {c tid : Nat} {s taken : List Int} {vs : V} (hc : 29 <= c) (ht : tid < c) (ht2 : 29 <= tid)
 (hg : Good o c) (ot : o tid = setO s) (hm : ∀ v, v ∈ s ↔ v ∈ taken) (hlen : taken.length <= 1000000000) (oo : o 13 = .row [.d (.i 8), .d (.i 0), .osl 11 0])
 (he : backE c e [.d (mpT b), .junk, .junk, .ptr 0 0, .ptr 1 0, .ptr 13 0, .mp 15, .ptr 20 0, .junk, .junk, .junk, .junk, .mp tid] 0)
 (hQ : ∀ e' o' nx', e' 0 = .d (mpT b) -> e' 3 = .ptr 0 0 -> e' 4 = .ptr 1 0 -> e' 5 = .ptr 13 0 -> e' 6 = .mp 15 -> e' 7 = .ptr 20 0 -> c <= nx' -> Good o' nx' -> (∀ j, j < c -> j ≠ 13 -> o' j = o j) -> o' 13 = .row [.d (.i 8), .d (.i (leastF taken)), .osl 11 0] -> Q (.exit 4) ⟨e', o', nx'⟩) :
 loopS 0 (fun Q s => evW Tryz.prog 102 0 false letB4 Q s) Q ⟨e, o, c⟩ := by
 obtain ⟨m, hm1, hm2, hm3, hm4⟩ := leastF_spec taken
 refine loop_fam (fun i : Nat => ⟨envJ [.d (mpT b), .junk, .junk, .ptr 0 0, .ptr 1 0, .ptr 13 0, .mp 15, .ptr 20 0, .junk, .junk, .junk, .junk, .mp tid], upd o 13 (.row [.d (.i 8), .d (.i (i : Int)), .osl 11 0]), c⟩)
  (fun i => i <= m) (fun i => m - i) 0 (Nat.zero_le _) ?_ ?_
 ·refine SLe.backL _ (by omega) (Nat.le_refl _) ?_ (fun j hj => ?_) he
  ·exact (by repeat (first | exact hg.mono (by omega) | exact Good.nil | refine Good.upd ?_ (by omega) rfl | refine Good.upd ?_ (by omega) (hLr _ _ _ (by omega)) | refine Good.upd ?_ (by omega) (by simp [Obj'.refs, V.refss, V.refs] <;> omega)))
  ·by_cases e1 : j = 13
   ·subst e1; rw [upd_same]; exact oo
   ·rw [upd_ne _ _ _ _ e1]
 rintro i hi
 replace hi : i <= m := hi
 have w3 : tid ≠ 13 := by omega
 have w4 : (13 : Nat) ≠ tid := by omega
 simp only [letB4, letTh, c91, IC.snd, IC.fst]
 simp +contextual (disch := first | omega | simp only [go_sem, false_implies]) only [go_sem, wrap64, if_pos, ot, w3, w4, Nat.add_assoc, Nat.left_eq_add, Nat.add_eq_left, Nat.add_left_cancel_iff]
 refine cond_intro (fun h2 => ?_) (fun h2 => ?_)
 ·have hmem : (i : Int) ∈ taken := (hm _).1 (by simpa using h2)
  have hlt : i < m := by
   rcases Nat.lt_or_eq_of_le hi with h | h
   ·exact h
   ·subst h; exact absurd hmem hm2
  simp +contextual (disch := first | omega | simp only [go_sem, false_implies]) only [go_sem, wrap64, if_pos, ot, w3, w4, Nat.add_assoc, Nat.left_eq_add, Nat.add_eq_left, Nat.add_left_cancel_iff]
  refine nextS_intro (i + 1) hlt (by omega) (SLe.backL _ (by omega) (by omega) ?_ (fun j hj => ?_) ?_)
  ·exact (by repeat (first | exact hg.mono (by omega) | exact Good.nil | refine Good.upd ?_ (by omega) rfl | refine Good.upd ?_ (by omega) (hLr _ _ _ (by omega)) | refine Good.upd ?_ (by omega) (by simp [Obj'.refs, V.refss, V.refs] <;> omega)))
  ·by_cases e1 : j = 13
   ·subst e1; (repeat (first | rfl | rw [upd_same] | rw [upd_ne _ _ _ _ (by omega)]))
   ·(repeat (first | rfl | rw [upd_same] | rw [upd_ne _ _ _ _ (by omega)]))
  ·(repeat (first | exact backE_nil | refine backE_junk ?_ | refine backE_d rfl ?_ | refine backE_d (d_int (wrapN (by omega))) ?_ | refine backE_v rfl (by simp [V.refs, V.refss] <;> first | omega | assumption) ?_))
 ·have hmem : (i : Int) ∉ taken := fun h => by
   have := (hm _).2 h
   have h3 : s.contains (i : Int) = true := List.contains_iff_mem.2 this
   rw [h3] at h2
   cases h2
  have hem : i = m := by
   rcases Nat.lt_or_eq_of_le hi with h | h
   ·exact absurd (hm3 i h) hmem
   ·exact h
  simp +contextual (disch := first | omega | simp only [go_sem, false_implies]) only [go_sem, wrap64, if_pos, and_self]
  refine hQ _ _ _ ?_ ?_ ?_ ?_ ?_ ?_ ?_ ?_ (fun j g1 g2 => ?_) ?_
  ·rfl
  ·rfl
  ·rfl
  ·rfl
  ·rfl
  ·rfl
  ·omega
  ·exact (by repeat (first | exact hg.mono (by omega) | exact Good.nil | refine Good.upd ?_ (by omega) rfl | refine Good.upd ?_ (by omega) (hLr _ _ _ (by omega)) | refine Good.upd ?_ (by omega) (by simp [Obj'.refs, V.refss, V.refs] <;> omega)))
  ·(repeat (first | rfl | rw [upd_same] | rw [upd_ne _ _ _ _ (by omega)]))
  ·rw [hm1, <- hem]; (repeat (first | rfl | rw [upd_same] | rw [upd_ne _ _ _ _ (by omega)]))
end Go.Proofs.YtealblliddhgiaaGreat
namespace Go.Proofs.YtealblliddhgiaaGreat
theorem let_step {t : Tm} (hw : t.wf) (hz : t.sz <= 1000) (h8 : t.op = 8) (ih : ∀ t' : Tm, t'.wf -> t'.sz <= 1000 -> t'.hgt < t.hgt -> PutC t') (b : List (Int × Tm)) (hb : BOk b) :
 PCt Tryz.prog 91 [mpT b, t.d] (.ret [(subF t.hgt b t).d]) := by
 have hw' := (Tm.wf_iff t).1 hw
 obtain ⟨a, body, hk⟩ := two_of (hw'.2.1 h8)
 have ha : a ∈ t.kids := by rw [hk]; simp
 have hbd : body ∈ t.kids := by rw [hk]; simp
 have g1 := Tm.hgt_kid ha
 have g2 := Tm.hgt_kid hbd
 have s1 := Tm.sz_kid ha
 have s2 := Tm.sz_kid hbd
 have e1 : (t.kids.map Tm.d)[0]? = some a.d := by rw [hk]; rfl
 have e2 : (t.kids.map Tm.d)[1]? = some body.d := by rw [hk]; rfl
 refine PCt.of_ev mix fn91 (by simp) ?_
 rw [c91]
 simp +contextual (disch := first | omega | simp only [go_sem, false_implies]) only [go_sem, wrap64, if_pos, e1, e2]
 refine callD_give (ih a (hw'.2.2 a ha) (by omega) (by omega) b hb) ?_
 simp +contextual (disch := first | omega | simp only [go_sem, false_implies]) only [go_sem, wrap64, if_pos, and_self]
 refine end_intro (by decide) ?_
 simp +contextual (disch := first | omega | simp only [go_sem, false_implies]) only [go_sem, wrap64, if_pos, e1, e2]
 refine end_intro (by decide) ?_
 simp +contextual (disch := first | omega | simp only [go_sem, false_implies]) only [go_sem, wrap64, if_pos, and_self]
 refine call_give (freeOf_d body (Tm.fits_sz body (by omega))) ?_
 simp +contextual (disch := first | omega | simp only [go_sem, false_implies]) only [go_sem, wrap64, if_pos, and_self]
 refine letL1 (t := t) (body := body) hb (by repeat (first | exact hg.mono (by omega) | exact Good.nil | refine Good.upd ?_ (by omega) rfl | refine Good.upd ?_ (by omega) (hLr _ _ _ (by omega)) | refine Good.upd ?_ (by omega) (by simp [Obj'.refs, V.refss, V.refs] <;> omega))) (by (repeat (first | rfl | rw [upd_same] | rw [upd_ne _ _ _ _ (by omega)]))) (by (repeat (first | rfl | rw [upd_same] | rw [upd_ne _ _ _ _ (by omega)]))) ?_ ?_ fun e' o' nx' don q0 q3 q4 q5 q6 q7 q9 m1 hg m3 m4 hp => ?_
 ·rw [upd_same, mpD_zip]
 ·(repeat (first | exact backE_nil | refine backE_junk ?_ | refine backE_d rfl ?_ | refine backE_d (d_int (wrapN (by omega))) ?_ | refine backE_v rfl (by simp [V.refs, V.refss] <;> first | omega | assumption) ?_))
 have p0 : o' 0 = .row t.row := by rw [m3 0 (by decide) (by decide) (by decide)]; (repeat (first | rfl | rw [upd_same] | rw [upd_ne _ _ _ _ (by omega)]))
 have p1 : o' 1 = .row [.d (.i 0), .d (.i 0), .nils] := by rw [m3 1 (by decide) (by decide) (by decide)]; (repeat (first | rfl | rw [upd_same] | rw [upd_ne _ _ _ _ (by omega)]))
 have p11 : o' 11 = .arr 0 28 3 [(subF a.hgt b a).d, .agg [.i 0, .i 0, .sl []]] := by rw [m3 11 (by decide) (by decide) (by decide)]; (repeat (first | rfl | rw [upd_same] | rw [upd_ne _ _ _ _ (by omega)]))
 have p13 : o' 13 = .row [.d (.i 8), .d (.i t.n), .osl 11 0] := by rw [m3 13 (by decide) (by decide) (by decide)]; (repeat (first | rfl | rw [upd_same] | rw [upd_ne _ _ _ _ (by omega)]))
 have p20 : o' 20 = .row body.row := by rw [m3 20 (by decide) (by decide) (by decide)]; (repeat (first | rfl | rw [upd_same] | rw [upd_ne _ _ _ _ (by omega)]))
 have hbin : BOk (innF don t.n) := by
  have hpi : (innF don t.n).Perm (innF b t.n) := hp.filter _
  have hsub : ∀ p ∈ innF don t.n, p ∈ b := fun p hp' => (List.mem_filter.1 (hpi.mem_iff.1 hp')).1
  refine ⟨(hpi.map _).nodup_iff.2 (innF_nodup _ hb.keys), ?_, fun p h => hb.sz p (hsub p h), fun p h => hb.cp p (hsub p h)⟩
  rw [hpi.length_eq]
  exact Nat.le_trans (List.length_filter_le _ _) hb.len
 have hperm : ∀ f x, subF f (innF don t.n) x = subF f (innF b t.n) x := fun f x => subF_perm f x ((((hp.filter _).map _).nodup_iff).2 (innF_nodup _ hb.keys)) (hp.filter _)
 have w15 : 15 ≠ nx' := by omega
 cases hc : cauF (innF b t.n) body t.n with
 | false =>
   rw [hc] at q9
   simp +contextual (disch := first | omega | simp only [go_sem, false_implies]) only [go_sem, wrap64, if_pos, q0, q3, q4, q5, q6, q7, q9, p0, p1, p11, p13, p20, m4]
   have hres : subF t.hgt b t = .mk 8 t.n [subF a.hgt b a, subF body.hgt (innF don t.n) body] := by
    have hh : t.hgt = Tm.hgts t.kids + 1 := by rw [Tm.hgt_eq]; omega
    generalize Tm.hgts t.kids = f at hh
    rw [hperm, hh]
    simp only [subF]
    rw [if_neg (by omega), if_pos h8, hk]
    simp only [hc, Bool.false_eq_true, if_false]
    rw [subF_more _ a.hgt a b (hw'.2.2 a ha) (by omega) (Nat.le_refl _), subF_more _ body.hgt body _ (hw'.2.2 body hbd) (by omega) (Nat.le_refl _)]
   refine callD_give (ih body (hw'.2.2 body hbd) (by omega) (by omega) _ hbin) ?_
   simp +contextual (disch := first | omega | simp only [go_sem, false_implies]) only [go_sem, wrap64, if_pos, q0, q3, q4, q5, q6, q7, q9, p0, p1, p11, p13, p20, m4]
   refine end_intro (by decide) ?_
   rw [hres]
   simp +contextual (disch := first | omega | simp only [go_sem, false_implies]) only [go_sem, wrap64, if_pos, q0, q3, q4, q5, q6, q7, q9, p0, p1, p11, p13, p20, m4, List.set_cons_succ, List.set_cons_zero]
   rw [Tm.d_mk]
   rfl
 | true =>
   rw [hc] at q9
   have hth := Tm.hgt_le_sz t
   simp +contextual (disch := first | omega | simp only [go_sem, false_implies]) only [go_sem, wrap64, if_pos, q0, q3, q4, q5, q6, q7, q9, p0, p1, p11, p13, p20, m4, Nat.add_assoc, Nat.left_eq_add, Nat.add_eq_left, Nat.add_left_cancel_iff]
   refine call_heap (standing_c t (Tm.fits_sz t (by omega)) (by omega) _ _ (nx' + 1) [] ?_ ?_ List.nodup_nil _ _ fun o2 n2 s2 r1 r2 r3 r4 r5 => ?_)
   ·exact (by repeat (first | exact hg.mono (by omega) | exact Good.nil | refine Good.upd ?_ (by omega) rfl | refine Good.upd ?_ (by omega) (hLr _ _ _ (by omega)) | refine Good.upd ?_ (by omega) (by simp [Obj'.refs, V.refss, V.refs] <;> omega)))
   ·(repeat (first | rfl | rw [upd_same] | rw [upd_ne _ _ _ _ (by omega)]))
   have r5' : ∀ v, v ∈ s2 ↔ v ∈ sdF t := fun v => by simpa using r5.2 v
   have u0 : o2 0 = .row t.row := by rw [r3 0 (by omega) (by omega)]; (repeat (first | rfl | rw [upd_same] | rw [upd_ne _ _ _ _ (by omega)])); exact p0
   have u1 : o2 1 = .row [.d (.i 0), .d (.i 0), .nils] := by rw [r3 1 (by omega) (by omega)]; (repeat (first | rfl | rw [upd_same] | rw [upd_ne _ _ _ _ (by omega)])); exact p1
   have u11 : o2 11 = .arr 0 28 3 [(subF a.hgt b a).d, .agg [.i 0, .i 0, .sl []]] := by rw [r3 11 (by omega) (by omega)]; (repeat (first | rfl | rw [upd_same] | rw [upd_ne _ _ _ _ (by omega)])); exact p11
   have u13 : o2 13 = .row [.d (.i 8), .d (.i t.n), .osl 11 0] := by rw [r3 13 (by omega) (by omega)]; (repeat (first | rfl | rw [upd_same] | rw [upd_ne _ _ _ _ (by omega)])); exact p13
   have u15 : o2 15 = mapTm (innF don t.n) := by rw [r3 15 (by omega) (by omega)]; (repeat (first | rfl | rw [upd_same] | rw [upd_ne _ _ _ _ (by omega)])); exact m4
   have u20 : o2 20 = .row body.row := by rw [r3 20 (by omega) (by omega)]; (repeat (first | rfl | rw [upd_same] | rw [upd_ne _ _ _ _ (by omega)])); exact p20
   simp +contextual (disch := first | omega | simp only [go_sem, false_implies]) only [go_sem, wrap64, if_pos, q0, q3, q4, q5, q6, q7, q9, Nat.add_assoc, Nat.left_eq_add, Nat.add_eq_left, Nat.add_left_cancel_iff]
   have hg2 : Good o2 n2 := r2
   clear hg
   have hg := hg2
   refine letL2 hb (c := n2 + 2) (tid := nx' + 1) (it := n2 + 1) (s0 := s2) (by omega) (by omega) (by omega) (by omega) (by repeat (first | exact hg.mono (by omega) | exact Good.nil | refine Good.upd ?_ (by omega) rfl | refine Good.upd ?_ (by omega) (hLr _ _ _ (by omega)) | refine Good.upd ?_ (by omega) (by simp [Obj'.refs, V.refss, V.refs] <;> omega))) (by (repeat (first | rfl | rw [upd_same] | rw [upd_ne _ _ _ _ (by omega)])); exact r4) r5.1 ?_ ?_ fun e3 o3 n3 s3 q0 q3 q4 q5 q6 q7 q12 r6 hg3 r7 r8 r9 => ?_
   ·rw [upd_same, mpD_zip]
   ·(repeat (first | exact backE_nil | refine backE_junk ?_ | refine backE_d rfl ?_ | refine backE_d (d_int (wrapN (by omega))) ?_ | refine backE_v rfl (by simp [V.refs, V.refss] <;> first | omega | assumption) ?_ | refine backE_d (by first | exact q0 | exact q1 | exact q2 | exact q3 | exact q4 | exact q5 | exact q6 | exact q7 | exact q8 | exact q9 | exact q10 | exact q11 | exact q12 | exact q13 | exact q14 | exact q15 | exact q16 | exact q17 | exact q18 | exact q19 | exact q20 | exact q21 | exact q22 | exact q23 | exact q24 | exact q25 | exact q26 | exact q27 | exact q28 | exact q29 | exact q30 | exact q31 | exact q32 | exact q33 | exact q34 | exact q35 | exact q36 | exact q37 | exact q38 | exact q39 | exact q40) ?_ | refine backE_v (by first | exact q0 | exact q1 | exact q2 | exact q3 | exact q4 | exact q5 | exact q6 | exact q7 | exact q8 | exact q9 | exact q10 | exact q11 | exact q12 | exact q13 | exact q14 | exact q15 | exact q16 | exact q17 | exact q18 | exact q19 | exact q20 | exact q21 | exact q22 | exact q23 | exact q24 | exact q25 | exact q26 | exact q27 | exact q28 | exact q29 | exact q30 | exact q31 | exact q32 | exact q33 | exact q34 | exact q35 | exact q36 | exact q37 | exact q38 | exact q39 | exact q40) (by simp [V.refs, V.refss] <;> first | omega | assumption) ?_))
   have u0' : o3 0 = .row t.row := by rw [r7 0 (by omega) (by omega) (by omega)]; (repeat (first | rfl | rw [upd_same] | rw [upd_ne _ _ _ _ (by omega)])); exact u0
   have u1' : o3 1 = .row [.d (.i 0), .d (.i 0), .nils] := by rw [r7 1 (by omega) (by omega) (by omega)]; (repeat (first | rfl | rw [upd_same] | rw [upd_ne _ _ _ _ (by omega)])); exact u1
   have u11' : o3 11 = .arr 0 28 3 [(subF a.hgt b a).d, .agg [.i 0, .i 0, .sl []]] := by rw [r7 11 (by omega) (by omega) (by omega)]; (repeat (first | rfl | rw [upd_same] | rw [upd_ne _ _ _ _ (by omega)])); exact u11
   have u13' : o3 13 = .row [.d (.i 8), .d (.i t.n), .osl 11 0] := by rw [r7 13 (by omega) (by omega) (by omega)]; (repeat (first | rfl | rw [upd_same] | rw [upd_ne _ _ _ _ (by omega)])); exact u13
   have u15' : o3 15 = mapTm (innF don t.n) := by rw [r7 15 (by omega) (by omega) (by omega)]; (repeat (first | rfl | rw [upd_same] | rw [upd_ne _ _ _ _ (by omega)])); exact u15
   have u20' : o3 20 = .row body.row := by rw [r7 20 (by omega) (by omega) (by omega)]; (repeat (first | rfl | rw [upd_same] | rw [upd_ne _ _ _ _ (by omega)])); exact u20
   clear u0 u1 u11 u13 u15 u20
   have hs3 : ∀ v, v ∈ s3 ↔ v ∈ takenF b t := fun v => by rw [r9 v, mem_taken, r5' v]
   have w1 : nx' + 1 ≠ n3 := by omega
   simp +contextual (disch := first | omega | simp only [go_sem, false_implies]) only [go_sem, wrap64, if_pos, q0, q3, q4, q5, q6, q7, q12, u13', Nat.add_assoc, Nat.left_eq_add, Nat.add_eq_left, Nat.add_left_cancel_iff]
   clear hg
   have hg := hg3
   refine letL4 (b := b) (c := n3 + 2) (tid := nx' + 1) (s := s3) (taken := takenF b t) (vs := .junk) (by omega) (by omega) (by omega) (by repeat (first | exact hg.mono (by omega) | exact Good.nil | refine Good.upd ?_ (by omega) rfl | refine Good.upd ?_ (by omega) (hLr _ _ _ (by omega)) | refine Good.upd ?_ (by omega) (by simp [Obj'.refs, V.refss, V.refs] <;> omega))) (by (repeat (first | rfl | rw [upd_same] | rw [upd_ne _ _ _ _ (by omega)])); exact r8) hs3 ?_ (by (repeat (first | rfl | rw [upd_same] | rw [upd_ne _ _ _ _ (by omega)]))) ?_ fun e4 o4 n4 q0 q3 q4 q5 q6 q7 r10 hg4 r11 r12 => ?_
   ·have h1 := sdF_len t
    have h2 : ∀ l : List (Int × Tm), (∀ p ∈ l, p.2.sz <= 1000) -> (l.flatMap fun p => p.1 :: sdF p.2).length <= 1001 * l.length := by
     intro l
     induction l with
     | nil => intro _; simp
     | cons p l ihl =>
       intro h
       have h3 := ihl fun x hx => h x (List.mem_cons_of_mem _ hx)
       have h4 := h p (List.mem_cons_self ..)
       have h5 := sdF_len p.2
       rw [List.flatMap_cons, List.length_append, List.length_cons, List.length_cons]
       omega
    have h3 := h2 b hb.sz
    have h4 := hb.len
    unfold takenF
    rw [List.length_append]
    omega
   ·(repeat (first | exact backE_nil | refine backE_junk ?_ | refine backE_d rfl ?_ | refine backE_d (d_int (wrapN (by omega))) ?_ | refine backE_v rfl (by simp [V.refs, V.refss] <;> first | omega | assumption) ?_ | refine backE_d (by first | exact q0 | exact q1 | exact q2 | exact q3 | exact q4 | exact q5 | exact q6 | exact q7 | exact q8 | exact q9 | exact q10 | exact q11 | exact q12 | exact q13 | exact q14 | exact q15 | exact q16 | exact q17 | exact q18 | exact q19 | exact q20 | exact q21 | exact q22 | exact q23 | exact q24 | exact q25 | exact q26 | exact q27 | exact q28 | exact q29 | exact q30 | exact q31 | exact q32 | exact q33 | exact q34 | exact q35 | exact q36 | exact q37 | exact q38 | exact q39 | exact q40) ?_ | refine backE_v (by first | exact q0 | exact q1 | exact q2 | exact q3 | exact q4 | exact q5 | exact q6 | exact q7 | exact q8 | exact q9 | exact q10 | exact q11 | exact q12 | exact q13 | exact q14 | exact q15 | exact q16 | exact q17 | exact q18 | exact q19 | exact q20 | exact q21 | exact q22 | exact q23 | exact q24 | exact q25 | exact q26 | exact q27 | exact q28 | exact q29 | exact q30 | exact q31 | exact q32 | exact q33 | exact q34 | exact q35 | exact q36 | exact q37 | exact q38 | exact q39 | exact q40) (by simp [V.refs, V.refss] <;> first | omega | assumption) ?_))
   have u0 : o4 0 = .row t.row := by rw [r11 0 (by omega) (by omega)]; (repeat (first | rfl | rw [upd_same] | rw [upd_ne _ _ _ _ (by omega)])); exact u0'
   have u1 : o4 1 = .row [.d (.i 0), .d (.i 0), .nils] := by rw [r11 1 (by omega) (by omega)]; (repeat (first | rfl | rw [upd_same] | rw [upd_ne _ _ _ _ (by omega)])); exact u1'
   have u11 : o4 11 = .arr 0 28 3 [(subF a.hgt b a).d, .agg [.i 0, .i 0, .sl []]] := by rw [r11 11 (by omega) (by omega)]; (repeat (first | rfl | rw [upd_same] | rw [upd_ne _ _ _ _ (by omega)])); exact u11'
   have u15 : o4 15 = mapTm (innF don t.n) := by rw [r11 15 (by omega) (by omega)]; (repeat (first | rfl | rw [upd_same] | rw [upd_ne _ _ _ _ (by omega)])); exact u15'
   have u20 : o4 20 = .row body.row := by rw [r11 20 (by omega) (by omega)]; (repeat (first | rfl | rw [upd_same] | rw [upd_ne _ _ _ _ (by omega)])); exact u20'
   simp +contextual (disch := first | omega | simp only [go_sem, false_implies]) only [go_sem, wrap64, if_pos, q0, q3, q4, q5, q6, q7, u0, u1, u11, u15, u20, r12, Nat.add_assoc, Nat.left_eq_add, Nat.add_eq_left, Nat.add_left_cancel_iff]
   refine callD_give (variable_c' (leastF (takenF b t))) ?_
   simp +contextual (disch := first | omega | simp only [go_sem, false_implies]) only [go_sem, wrap64, if_pos, q0, q3, q4, q5, q6, q7, u0, u1, u11, u15, u20, r12, Nat.add_assoc, Nat.left_eq_add, Nat.add_eq_left, Nat.add_left_cancel_iff]
   generalize hmv : leastF (takenF b t) = mv at *
   have hb0 : BOk [] := ⟨List.nodup_nil, by simp, by simp, by simp⟩
   have hvw : (Tm.mk 1 mv []).wf := by simp [Tm.wf, Tm.wfs]
   have hvs : (Tm.mk 1 mv []).sz = 1 := by rw [Tm.sz_eq]; rfl
   have hvh : (Tm.mk 1 mv []).hgt = 1 := by rw [Tm.hgt_eq]; rfl
   have hbh : 1 <= body.hgt := by rw [Tm.hgt_eq]; omega
   have hcv := ih (.mk 1 mv []) hvw (by omega) (by omega) [] hb0
   rw [subF_nil _ _ hvw] at hcv
   have hb1 : BOk [(t.n, .mk 1 mv [])] := ⟨by simp, by simp, by intro p hp; simp at hp; subst hp; rw [hvs]; omega, by intro p hp; simp at hp; subst hp; exact hcv⟩
   have hren := ren_hgt body.hgt body [(t.n, .mk 1 mv [])] (hw'.2.2 body hbd) (Nat.le_refl _) (by intro p hp; simp at hp; subst hp; exact ⟨rfl, rfl⟩)
   refine callD_give (ih body (hw'.2.2 body hbd) (by omega) (by omega) _ hb1) ?_
   simp +contextual (disch := first | omega | simp only [go_sem, false_implies]) only [go_sem, wrap64, if_pos, q0, q3, q4, q5, q6, q7, u0, u1, u11, u15, u20, r12, Nat.add_assoc, Nat.left_eq_add, Nat.add_eq_left, Nat.add_left_cancel_iff]
   refine end_intro (objsOk_renL (ids := [0, 13, 20]) (nx := n4) (by simp) (by simp; omega) [([], [3]), ([0], []), ([0], []), ([1], []), ([1], []), ([], []), ([3], [3]), ([], []), ([2], []), ([3], [3]), ([2], [2])] (by decide)) ?_
   simp +contextual (disch := first | omega | simp only [go_sem, false_implies]) only [go_sem, wrap64, if_pos, q0, q3, q4, q5, q6, q7, u0, u1, u11, u15, u20, r12, Nat.add_assoc, Nat.left_eq_add, Nat.add_eq_left, Nat.add_left_cancel_iff]
   have hres : subF t.hgt b t = .mk 8 mv [subF a.hgt b a, subF (subF body.hgt [(t.n, .mk 1 mv [])] body).hgt (innF don t.n) (subF body.hgt [(t.n, .mk 1 mv [])] body)] := by
    have hh : t.hgt = Tm.hgts t.kids + 1 := by rw [Tm.hgt_eq]; omega
    generalize Tm.hgts t.kids = f at hh
    rw [hperm, hh]
    simp only [subF]
    rw [if_neg (by omega), if_pos h8, hk]
    simp only [hc, if_true]
    rw [hmv, subF_more f a.hgt a b (hw'.2.2 a ha) (by omega) (Nat.le_refl _), subF_more f body.hgt body [(t.n, .mk 1 mv [])] (hw'.2.2 body hbd) (by omega) (Nat.le_refl _)]
    rw [subF_more f (subF body.hgt [(t.n, .mk 1 mv [])] body).hgt (subF body.hgt [(t.n, .mk 1 mv [])] body) (innF b t.n) hren.2.1 (by rw [hren.1]; omega) (Nat.le_refl _)]
   refine callD_give (ih (subF body.hgt [(t.n, .mk 1 mv [])] body) hren.2.1 (by rw [hren.2.2]; omega) (by rw [hren.1]; omega) _ hbin) ?_
   simp +contextual (disch := first | omega | simp only [go_sem, false_implies]) only [go_sem, wrap64, if_pos, q0, q3, q4, q5, q6, q7, u0, u1, u11, u15, u20, r12, Nat.add_assoc, Nat.left_eq_add, Nat.add_eq_left, Nat.add_left_cancel_iff]
   refine end_intro (by decide) ?_
   rw [hres]
   simp +contextual (disch := first | omega | simp only [go_sem, false_implies]) only [go_sem, wrap64, if_pos, q0, q3, q4, q5, q6, q7, u0, u1, u11, u15, u20, r12, Nat.add_assoc, Nat.left_eq_add, Nat.add_eq_left, Nat.add_left_cancel_iff, List.set_cons_succ, List.set_cons_zero]
   rw [Tm.d_mk]
   rfl
end Go.Proofs.YtealblliddhgiaaGreat
namespace Go.Proofs.YtealblliddhgiaaGreat
theorem put_all : ∀ (n : Nat) (t : Tm), t.wf -> t.sz <= 1000 -> t.hgt <= n -> PutC t
 | 0, t, _, _, h => by rw [Tm.hgt_eq] at h; omega
 | n + 1, t, hw, hz, h => by
   have ih : ∀ t' : Tm, t'.wf -> t'.sz <= 1000 -> t'.hgt < t.hgt -> PutC t' := fun t' h1 h2 h3 => put_all n t' h1 h2 (by omega)
   have hw' := (Tm.wf_iff t).1 hw
   exact put_step hw hz (fun k hk => ih k (hw'.2.2 k hk) (by have := Tm.sz_kid hk; omega) (by have := Tm.hgt_kid hk; omega)) (fun h8 b hb => let_step hw hz h8 ih b hb)
theorem putT_c {t : Tm} {b : List (Int × Tm)} (hw : t.wf) (hz : t.sz <= 1000) (hk : (b.map (·.1)).Nodup) (hl : b.length <= 1000) (hb : ∀ p ∈ b, p.2.wf /\ p.2.sz <= 1000) :
 PCt Tryz.prog 53 [mpT b, t.d] (.ret [(subF t.hgt b t).d]) := by
 refine put_all _ t hw hz (Nat.le_refl _) b ⟨hk, hl, fun p hp => (hb p hp).2, fun p hp => ?_⟩
 have := put_all _ p.2 (hb p hp).1 (hb p hp).2 (Nat.le_refl _) [] ⟨List.nodup_nil, by simp, by simp, by simp⟩
 rwa [subF_nil _ _ (hb p hp).1] at this
theorem every_TB {σ : Type} (l : List TB) (hl : l.length <= 9223372036854775807) (g : Nat) (caps : List V) (base : Nat) (H : σ -> Nat -> Obj') (step : σ -> TB -> σ × Bool) (hc : ∀ r ∈ V.refss caps, r < base) (ok : σ -> Prop) (hok : ∀ x ∈ l, ∀ s, ok s -> (step s x).2 = true -> ok (step s x).1)
 (h : ∀ x ∈ l, ∀ s, ok s -> StC Tryz.prog g (.d x.d :: caps) base (H s) (H (step s x).1) (.d (.bool (step s x).2))) (s : σ) (hs0 : ok s) :
 StC Tryz.prog 89 [.d (.sl (l.map TB.d)), .func (.func g) [] caps] base (H s) (H (foldE step s l).1) (.d (.bool (foldE step s l).2)) := by
 intro o nx hI K X hK
 have hcap : ∀ r ∈ V.refss caps, r < nx := fun r hr => Nat.lt_of_lt_of_le (hc r hr) hI.le
 refine CtK.of_ev mix fn89 (by simp) ?_
 rw [c89]
 simp +contextual only [go_sem]
 refine loop_fam (fun i : Nat × σ × (Nat -> Obj') × Nat => ⟨envJ [.junk, .func (.func g) [] caps, .junk, .junk, .junk, .junk, .junk, .d (.sl (l.map TB.d)), .d (.i l.length), .d (.i i.1)], i.2.2.1, i.2.2.2⟩)
  (fun i => i.1 <= l.length /\ HInv base (H i.2.1) i.2.2.1 i.2.2.2 /\ nx <= i.2.2.2 /\ (∀ id, base <= id -> id < nx -> i.2.2.1 id = o id) /\ foldE step s l = foldE step i.2.1 (l.drop i.1) /\ ok i.2.1) (fun i => l.length - i.1) (0, s, o, nx)
  ⟨Nat.zero_le _, hI, Nat.le_refl _, fun _ _ _ => rfl, rfl, hs0⟩ ?_ ?_
 ·dsimp only
  refine SLe.backL _ (Nat.le_refl _) (by omega) hI.good (fun _ _ => rfl) ?_
  (repeat (first | exact backE_nil | refine backE_junk ?_ | refine backE_d rfl ?_ | refine backE_d (d_int (wrapN (by omega))) ?_ | refine backE_v rfl (by simp [V.refs, V.refss] <;> first | omega | assumption) ?_))
 rintro ⟨k, s', o', nx'⟩ ⟨hk, hI', hn, hfr, hf, hok'⟩
 simp only at hk hI' hn hfr hf hok'
 simp +contextual only [go_sem]
 refine cond_intro (fun h1 => ?_) (fun h1 => ?_)
 ·simp at h1
  obtain ⟨x, hx⟩ := get_of_lt h1
  have hxm := List.mem_of_getElem? hx
  have hd : l.drop k = x :: l.drop (k + 1) := by
   rw [List.drop_eq_getElem_cons h1]
   rw [List.getElem?_eq_getElem h1] at hx; injection hx with hx; rw [hx]
  simp +contextual only [go_sem, hx, Nat.add_assoc, Nat.left_eq_add, Nat.add_eq_left, Nat.add_left_cancel_iff]
  have hl0 := hI'.le
  refine callS'_heap (h x hxm s' hok' _ _ (?_ : HInv base (H s') _ (nx' + 7)) _ _ fun o2 n2 m1 m2 m3 => ?_)
  ·exact (hI'.upd (i := nx' + 3) (m := nx' + 7) (by omega) (by omega) (by omega) rfl).upd (by omega) (by omega) (by omega) rfl
  have hfr2 : ∀ id, base <= id -> id < nx -> o2 id = o id := fun id h2 h3 => by
   rw [m3 id h2 (by omega), upd_ne _ _ _ _ (by omega), upd_ne _ _ _ _ (by omega), hfr id h2 h3]
  simp +contextual only [go_sem]
  refine cond_intro (fun h2 => ?_) (fun h2 => ?_)
  ·simp +contextual only [go_sem]
   simp at h2
   have : foldE step s l = ((step s' x).1, false) := by rw [hf, hd, foldE, if_neg (by rw [h2]; exact Bool.false_ne_true)]
   rw [this] at hK
   exact hK _ _ (by omega) (m2.mono (by omega)) hfr2
  ·simp +contextual only [go_sem]
   simp at h2
   have : foldE step s l = foldE step (step s' x).1 (l.drop (k + 1)) := by rw [hf, hd, foldE, if_pos h2]
   refine nextS_intro (k + 1, (step s' x).1, o2, n2) ⟨h1, m2, by dsimp only; omega, hfr2, this, hok x hxm s' hok' h2⟩ (by dsimp only; omega) ?_
   dsimp only
   have hcap2 : ∀ r ∈ V.refss caps, r < n2 := fun r hr => by have := hcap r hr; omega
   refine SLe.backL _ (by omega) (by omega) m2.good (fun _ _ => rfl) ?_
   (repeat (first | exact backE_nil | refine backE_junk ?_ | refine backE_d rfl ?_ | refine backE_d (d_int (wrapN (by omega))) ?_ | refine backE_v rfl (by simp [V.refs, V.refss] <;> first | omega | assumption) ?_))
 ·simp +contextual only [go_sem]
  simp at h1
  rw [List.drop_eq_nil_of_le h1] at hf
  simp only [foldE] at hf
  rw [hf] at hK
  exact hK _ _ (by omega) (hI'.mono (by omega)) hfr
def lstep (s : TSig) (last : Int) (x : TB) : Int × Bool := (x.var, decide (last < x.var) && decide (x.var < 20) && formedF s x.term)
def listedF (s : TSig) (l : List TB) : Bool := decide ((l.length : Int) <= 20) && (foldE (lstep s) (-1) l).2
theorem listed1_c (s : TSig) (hs : s.Fits) (x : TB) (hx : x.term.Fin) (base sp lp : Nat) (h : Nat -> Obj') (hsp : h sp = .row s.row) (hb : sp < base) (hl : lp < base) (hn : sp ≠ lp) (last : Int) :
 StC Tryz.prog 90 [.d x.d, .ptr lp 0, .ptr sp 0] base (upd h lp (.row [.d (.i last)])) (upd h lp (.row [.d (.i (lstep s last x).1)])) (.d (.bool (lstep s last x).2)) := by
 intro o nx hI K X hK
 have hle := hI.le
 have hg := hI.good
 have q0 : o sp = .row s.row := by rw [hI.eq sp hb, upd_ne _ _ _ _ hn, hsp]
 have q1 : o lp = .row [.d (.i last)] := by rw [hI.eq lp hl, upd_same]
 have hn' : lp ≠ sp := fun e => hn e.symm
 have w1 : ∀ k, sp ≠ nx + k := fun k => by omega
 have w2 : ∀ k, lp ≠ nx + k := fun k => by omega
 have w3 : sp ≠ nx := by omega
 have w4 : lp ≠ nx := by omega
 refine CtK.of_ev mix fn90 (by simp) ?_
 rw [c90]
 simp only [lstep] at hK
 cases h1 : (decide (last < x.var) && decide (x.var < 20)) with
 | false =>
   rw [h1] at hK
   simp +contextual (disch := first | omega | simp only [go_sem, false_implies]) only [go_sem, wrap64, if_pos, q0, q1, hn, hn', w1, w2, w3, w4, Nat.add_assoc, Nat.left_eq_add, Nat.add_eq_left, Nat.add_left_cancel_iff, h1]
   rw [Bool.false_and] at hK
   refine hK _ _ (by omega) ⟨(by repeat (first | exact hg.mono (by omega) | exact Good.nil | refine Good.upd ?_ (by omega) rfl | refine Good.upd ?_ (by omega) (hLr _ _ _ (by omega)) | refine Good.upd ?_ (by omega) (by simp [Obj'.refs, V.refss, V.refs] <;> omega))), by omega, fun j hj => ?_⟩ (fun j g1 g2 => by (repeat (first | rfl | rw [upd_same] | rw [upd_ne _ _ _ _ (by omega)])))
   by_cases e : j = lp
   ·subst e; (repeat (first | rfl | rw [upd_same] | rw [upd_ne _ _ _ _ (by omega)]))
   ·rw [upd_ne _ _ _ _ e, upd_ne _ _ _ _ e, upd_ne _ _ _ _ (by omega), hI.eq j hj, upd_ne _ _ _ _ e]
 | true =>
   rw [h1] at hK
   simp +contextual (disch := first | omega | simp only [go_sem, false_implies]) only [go_sem, wrap64, if_pos, q0, q1, hn, hn', w1, w2, w3, w4, Nat.add_assoc, Nat.left_eq_add, Nat.add_eq_left, Nat.add_left_cancel_iff, h1]
   refine call_keep (formed_c s hs x.term hx.fits hx.hgt) rfl ?_
   simp +contextual (disch := first | omega | simp only [go_sem, false_implies]) only [go_sem, wrap64, if_pos, and_self]
   rw [Bool.true_and] at hK
   refine hK _ _ (by omega) ⟨(by repeat (first | exact hg.mono (by omega) | exact Good.nil | refine Good.upd ?_ (by omega) rfl | refine Good.upd ?_ (by omega) (hLr _ _ _ (by omega)) | refine Good.upd ?_ (by omega) (by simp [Obj'.refs, V.refss, V.refs] <;> omega))), by omega, fun j hj => ?_⟩ (fun j g1 g2 => by (repeat (first | rfl | rw [upd_same] | rw [upd_ne _ _ _ _ (by omega)])))
   by_cases e : j = lp
   ·subst e; (repeat (first | rfl | rw [upd_same] | rw [upd_ne _ _ _ _ (by omega)]))
   ·rw [upd_ne _ _ _ _ e, upd_ne _ _ _ _ e, upd_ne _ _ _ _ (by omega), hI.eq j hj, upd_ne _ _ _ _ e]
theorem listed_c (s : TSig) (hs : s.Fits) (l : List TB) (hl : l.length <= 9223372036854775807) (hx : ∀ x ∈ l, x.term.Fin) : PCt Tryz.prog 52 [s.d, .sl (l.map TB.d)] (.ret [.bool (listedF s l)]) := by
 refine PCt.of_ev mix fn52 (by simp) ?_
 rw [c52]
 unfold listedF
 cases h1 : decide ((l.length : Int) <= 20) with
 | false =>
   simp +contextual (disch := first | omega | simp only [go_sem, false_implies]) only [go_sem, wrap64, if_pos, Nat.add_assoc, Nat.left_eq_add, Nat.add_eq_left, Nat.add_left_cancel_iff, h1]
 | true =>
   simp +contextual (disch := first | omega | simp only [go_sem, false_implies]) only [go_sem, wrap64, if_pos, Nat.add_assoc, Nat.left_eq_add, Nat.add_eq_left, Nat.add_left_cancel_iff, h1]
   refine callR_heap (every_TB l hl 90 [.ptr 2 0, .ptr 0 0] 3 (fun last : Int => upd (upd (fun _ => .no) 0 (.row s.row)) 2 (.row [.d (.i last)])) (lstep s) (by simp [V.refss, V.refs]) (fun _ => True) (fun _ _ _ _ _ => trivial)
    (fun x hxm last _ => listed1_c s hs x (hx x hxm) 3 0 2 (upd (fun _ => .no) 0 (.row s.row)) (upd_same _ _ _) (by omega) (by omega) (by omega) last) (-1) trivial _ _ ⟨?_, by omega, fun id hid => ?_⟩ _ _ fun o2 n2 m1 m2 m3 => ?_)
   ·exact (by repeat (first | exact hg.mono (by omega) | exact Good.nil | refine Good.upd ?_ (by omega) rfl | refine Good.upd ?_ (by omega) (hLr _ _ _ (by omega)) | refine Good.upd ?_ (by omega) (by simp [Obj'.refs, V.refss, V.refs] <;> omega)))
   ·rcases (by omega : id = 0 \/ id = 1 \/ id = 2) with rfl | rfl | rfl <;> rfl
   simp +contextual (disch := first | omega | simp only [go_sem, false_implies]) only [go_sem, wrap64, if_pos, and_self]
theorem sub_sz {M : Nat} (hM : 1 <= M) : ∀ (f : Nat) (t : Tm) (b : List (Int × Tm)), t.wf -> t.hgt <= f -> (∀ p ∈ b, p.2.sz <= M) -> (subF f b t).sz <= t.sz * M
 | 0, t, _, _, h, _ => by rw [Tm.hgt_eq] at h; omega
 | f + 1, t, b, hw, hf, hb => by
   have hw' := (Tm.wf_iff t).1 hw
   have mul1 : ∀ n : Nat, n <= n * M := fun n => Nat.le_mul_of_pos_right n hM
   simp only [subF]
   split
   ·have := Tm.sz_pos t
    split
    ·rename_i x hx
     have h1 := hb _ (lkT_mem hx)
     exact Nat.le_trans h1 (Nat.le_mul_of_pos_left M (by omega))
    ·exact mul1 _
   ·split
    ·rename_i h8
     obtain ⟨a, body, hk⟩ := two_of (hw'.2.1 h8)
     have ha : a ∈ t.kids := by rw [hk]; simp
     have hbd : body ∈ t.kids := by rw [hk]; simp
     have g1 := Tm.hgt_kid ha
     have g2 := Tm.hgt_kid hbd
     have e1 := sub_sz hM f a b (hw'.2.2 a ha) (by omega) hb
     have hin : ∀ p ∈ innF b t.n, p.2.sz <= M := fun p hp => hb p (List.mem_filter.1 hp).1
     have e2 := sub_sz hM f body _ (hw'.2.2 body hbd) (by omega) hin
     have e0 := fun m => ren_hgt f body [(t.n, .mk 1 m [])] (hw'.2.2 body hbd) (by omega) (by intro p hp; simp at hp; subst hp; exact ⟨rfl, rfl⟩)
     have e3 := fun m => sub_sz hM f (subF f [(t.n, .mk 1 m [])] body) _ (e0 m).2.1 (by rw [(e0 m).1]; omega) hin
     have hz : t.sz = 1 + (a.sz + body.sz) := by rw [Tm.sz_eq, hk, szs_cons, szs_cons]; simp [szs]
     have fin : ∀ (n : Int) (y : Tm), y.sz <= body.sz * M -> (Tm.mk 8 n [subF f b a, y]).sz <= t.sz * M := by
      intro n y hy
      rw [Tm.sz_mk, szs_cons, szs_cons, hz, Nat.add_mul, Nat.add_mul]
      simp only [szs, List.map_nil, List.sum_nil]
      omega
     rw [hk]
     simp only
     split
     ·exact fin _ _ (by have := e3 (leastF (takenF b t)); rw [(e0 _).2.2] at this; exact this)
     ·exact fin _ _ e2
    ·have hl : ∀ l : List Tm, (∀ k ∈ l, k ∈ t.kids) -> szs (l.map (subF f b)) <= szs l * M := by
      intro l
      induction l with
      | nil => intro _; simp [szs]
      | cons k l ihl =>
        intro h
        have hk := h k (List.mem_cons_self ..)
        have h1 := sub_sz hM f k b (hw'.2.2 k hk) (by have := Tm.hgt_kid hk; omega) hb
        have h2 := ihl fun x hx => h x (List.mem_cons_of_mem _ hx)
        rw [List.map_cons, szs_cons, szs_cons, Nat.add_mul]
        omega
     have := hl t.kids fun _ h => h
     rw [Tm.sz_mk, Tm.sz_eq t, Nat.add_mul]
     omega
end Go.Proofs.YtealblliddhgiaaGreat
namespace Go.Proofs.YtealblliddhgiaaGreat
theorem has_c (l : List Int) (n : Int) (hl : l.length <= 1000000) : PCt Tryz.prog 106 [.sl (l.map .i), .i n] (.ret [.bool (l.contains n)]) := by
 refine PCt.of_ev mix fn106 (by simp) ?_
 rw [c106]
 simp +contextual (disch := first | omega | simp only [go_sem, false_implies]) only [go_sem, wrap64, if_pos, and_self]
 refine loop_fam (fun k : Nat => ⟨envJ [.d (.sl (l.map .i)), .d (.i n), .junk, .junk, .junk, .d (.i k)], fun _ => .no, 0⟩)
  (fun k => k <= l.length /\ (l.take k).contains n = false) (fun k => l.length - k) 0 ⟨Nat.zero_le _, by simp⟩ (SLe.d0 _ ?_) (fun k hk => ?_)
 ·(repeat (first | exact backE_nil | refine backE_junk ?_ | refine backE_d rfl ?_ | refine backE_d (d_int (wrapN (by omega))) ?_ | refine backE_v rfl (by simp [V.refs, V.refss] <;> first | omega | assumption) ?_))
 simp +contextual (disch := first | omega | simp only [go_sem, false_implies]) only [go_sem, wrap64, if_pos, and_self]
 refine cond_intro (fun h2 => ?_) (fun h2 => ?_)
 ·simp at h2
  obtain ⟨x, hx⟩ := get_of_lt h2
  simp +contextual (disch := first | omega | simp only [go_sem, false_implies]) only [go_sem, wrap64, if_pos, hx]
  refine cond_intro (fun h3 => ?_) (fun h3 => ?_)
  ·simp +contextual (disch := first | omega | simp only [go_sem, false_implies]) only [go_sem, wrap64, if_pos, and_self]
   have : l.contains n = true := by
    rw [List.contains_iff_mem, <- (by simpa using h3 : x = n)]; exact List.mem_of_getElem? hx
   rw [this]
  ·simp +contextual (disch := first | omega | simp only [go_sem, false_implies]) only [go_sem, wrap64, if_pos, and_self]
   refine nextS_intro (k + 1) ⟨h2, ?_⟩ (by omega) (SLe.d0 _ ?_)
   ·have h4 : ¬ n = x := fun e => by subst e; simp at h3
    have h5 := hk.2
    rw [List.take_add_one, hx]
    rw [Bool.eq_false_iff] at h5 ⊢
    intro hc; apply h5
    rw [List.contains_iff_mem] at hc ⊢
    rcases List.mem_append.1 hc with hc | hc
    ·exact hc
    ·simp at hc; exact absurd hc h4
   ·(repeat (first | exact backE_nil | refine backE_junk ?_ | refine backE_d rfl ?_ | refine backE_d (d_int (wrapN (by omega))) ?_ | refine backE_v rfl (by simp [V.refs, V.refss] <;> first | omega | assumption) ?_))
 ·simp at h2
  simp +contextual (disch := first | omega | simp only [go_sem, false_implies]) only [go_sem, wrap64, if_pos, and_self]
  have := hk.2
  rw [List.take_of_length_le (by omega)] at this
  rw [this]
theorem putF_split : ∀ (l : List Int) (n : Int), ∃ k, k <= l.length /\ (∀ x ∈ l.take k, x < n) /\ (∀ x, l[k]? = some x -> ¬ x < n) /\ putF l n = if l[k]? = some n then l else l.take k ++ n :: l.drop k
 | [], n => ⟨0, Nat.zero_le _, by simp, by simp, by simp [putF]⟩
 | x :: l, n => by
   obtain ⟨k, h1, h2, h3, h4⟩ := putF_split l n
   by_cases hx : x < n
   ·refine ⟨k + 1, by simp; omega, ?_, by simpa using h3, ?_⟩
    ·intro y hy
     simp only [List.take_succ_cons, List.mem_cons] at hy
     rcases hy with rfl | hy
     ·exact hx
     ·exact h2 y hy
    ·simp only [putF, if_pos hx, h4, List.getElem?_cons_succ, List.take_succ_cons, List.drop_succ_cons]
     split <;> simp
   ·refine ⟨0, Nat.zero_le _, by simp, by simpa using hx, ?_⟩
    simp only [putF, if_neg hx]
    by_cases e : x = n
    ·subst e; simp
    ·simp [e]
theorem put_c (l : List Int) (n : Int) (hl : l.length <= 1000000) : PCt Tryz.prog 86 [.sl (l.map .i), .i n] (.ret [.sl ((putF l n).map .i)]) := by
 obtain ⟨j, j1, j2, j3, j4⟩ := putF_split l n
 have tk : ∀ (i : Nat) (l : List Int), List.take i (l.map D.i) = (l.take i).map D.i := fun i l => List.map_take.symm
 have dr : ∀ (i : Nat) (l : List Int), List.drop i (l.map D.i) = (l.drop i).map D.i := fun i l => List.map_drop.symm
 have ap : ∀ (a b : List Int), a.map D.i ++ [D.i n] ++ b.map D.i = (a ++ n :: b).map D.i := fun a b => by simp
 refine PCt.of_ev mix fn86 (by simp) ?_
 rw [c86]
 simp +contextual (disch := first | omega | simp only [go_sem, false_implies]) only [go_sem, wrap64, if_pos, and_self]
 refine loop_fam (fun k : Nat => ⟨envJ [.d (.sl (l.map .i)), .d (.i n), .junk, .junk, .junk, .d (.i k)], fun _ => .no, 0⟩)
  (fun k => k <= j) (fun k => l.length - k) 0 (Nat.zero_le _) (SLe.d0 _ ?_) (fun k hk => ?_)
 ·(repeat (first | exact backE_nil | refine backE_junk ?_ | refine backE_d rfl ?_ | refine backE_d (d_int (wrapN (by omega))) ?_ | refine backE_v rfl (by simp [V.refs, V.refss] <;> first | omega | assumption) ?_))
 by_cases hkj : k = j
 ·subst hkj
  by_cases h5 : k < l.length
  ·obtain ⟨x, hx⟩ := get_of_lt h5
   have h6 := j3 x hx
   have h5' : (k : Int) < l.length := by omega
   simp +contextual (disch := first | omega | simp only [go_sem, false_implies]) only [go_sem, wrap64, if_pos, hx, h5', h6]
   refine cond_intro (fun h3 => ?_) (fun h3 => ?_)
   ·simp +contextual (disch := first | omega | simp only [go_sem, false_implies]) only [go_sem, wrap64, if_pos, and_self]
    have e : x = n := by simpa using h3
    rw [j4, if_pos (by rw [hx, e])]
   ·have e : ¬ x = n := by simpa using h3
    rw [j4, if_neg (by rw [hx]; simpa using e)]
    simp +contextual (disch := first | omega | simp only [go_sem, false_implies]) only [go_sem, wrap64, if_pos, hx, h5', h6, tk, dr, List.take_length, List.length_map, List.length_take, List.length_drop, List.length_append, List.length_cons, List.length_nil]
    rw [ap]
    refine end_intro (by decide) ?_
    simp +contextual (disch := first | omega | simp only [go_sem, false_implies]) only [go_sem, wrap64, if_pos, and_self]
  ·have h5' : ¬ (k : Int) < l.length := by omega
   have hx : l[k]? = none := by simp; omega
   rw [j4, if_neg (by rw [hx]; simp)]
   simp +contextual (disch := first | omega | simp only [go_sem, false_implies]) only [go_sem, wrap64, if_pos, h5', tk, dr, List.take_length, List.length_map, List.length_take, List.length_drop, List.length_append, List.length_cons, List.length_nil]
   rw [ap]
   refine end_intro (by decide) ?_
   simp +contextual (disch := first | omega | simp only [go_sem, false_implies]) only [go_sem, wrap64, if_pos, and_self]
 ·have hlt : k < l.length := by omega
  obtain ⟨x, hx⟩ := get_of_lt hlt
  have h5' : (k : Int) < l.length := by omega
  have h6 : x < n := j2 x (List.mem_of_getElem? (i := k) (by rw [List.getElem?_take_of_lt (by omega)]; exact hx))
  simp +contextual (disch := first | omega | simp only [go_sem, false_implies]) only [go_sem, wrap64, if_pos, hx, h5', h6]
  refine nextS_intro (k + 1) (by omega) (by omega) (SLe.d0 _ ?_)
  (repeat (first | exact backE_nil | refine backE_junk ?_ | refine backE_d rfl ?_ | refine backE_d (d_int (wrapN (by omega))) ?_ | refine backE_v rfl (by simp [V.refs, V.refss] <;> first | omega | assumption) ?_))
theorem kidF_snoc {op n : Int} {i : Nat} {l : List Int} {k : Nat} {v : Int} (h : l[k]? = some v) (out : List Int) : kidF op n i (l.take (k + 1)) out = if (op != 8 || (i : Int) != 1 || v != n) = true then putF (kidF op n i (l.take k) out) v else kidF op n i (l.take k) out := by
 unfold kidF
 rw [List.take_add_one, h, List.foldl_append]
 rfl
theorem rvars_c : ∀ t : Tm, t.Cnt -> PCt Tryz.prog 46 [t.d] (.ret [.sl ((varsF t).map .i)]) := by
 refine Tm.ind' fun t ih ht => ?_
 have hf' := (Tm.fits_iff _).1 ht.fits
 refine PCt.of_ev mix fn46 (by simp) ?_
 rw [c46]
 by_cases h1 : t.op = 1
 ·simp +contextual (disch := first | omega | simp only [go_sem, false_implies]) only [go_sem, wrap64, if_pos, h1]
  rw [varsF_eq, if_pos h1]
  rfl
 ·have h1' : (t.op == 1) = false := by simpa using h1
  simp +contextual (disch := first | omega | simp only [go_sem, false_implies]) only [go_sem, wrap64, if_pos, h1']
  rw [varsF_eq, if_neg h1]
  refine loop_fam (fun i : Nat × List Int => ⟨envJ [.junk, .ptr 0 0, .junk, .d (.sl (i.2.map .i)), .d (.i i.1)], oneRow t.row, 1⟩)
   (fun i => i.1 <= t.kids.length /\ varssF t.op t.n t.kids 0 [] = varssF t.op t.n (t.kids.drop i.1) i.1 i.2 /\ i.2.length <= szs (t.kids.take i.1)) (fun i => t.kids.length - i.1) (0, []) ⟨Nat.zero_le _, rfl, Nat.zero_le _⟩
   (SLe.see0 (fun _ => False) 1 _ (by omega) (lt1 (seeO_same rfl (by simp [Obj'.refs, V.refss, V.refs]))) (fun j hj => upd_ne _ _ _ _ (by omega)) (fun _ h => h.elim) ?_) ?_
  ·try dsimp only
   (repeat (first | exact seeE_nil | refine seeE_junk ?_ | refine seeE_d rfl ?_ | refine seeE_d (d_int (wrapN (by omega))) ?_ | refine seeE_g 0 rfl rfl rfl ?_ | refine seeE_v rfl (by simp [V.refs, V.refss] <;> first | omega | assumption) ?_ | refine seeE_c rfl (by simp [V.ids] <;> omega) ?_))
  rintro ⟨k, out⟩ ⟨hk, hv, hlen⟩
  simp only at hk hv hlen
  simp +contextual (disch := first | omega | simp only [go_sem, false_implies]) only [go_sem, wrap64, if_pos, and_self]
  refine cond_intro (fun h2 => ?_) (fun h2 => ?_)
  ·simp at h2
   obtain ⟨x, hx⟩ := get_of_lt h2
   have hxm := List.mem_of_getElem? hx
   have hsz : szs (t.kids.take (k + 1)) = szs (t.kids.take k) + x.sz := by
    rw [List.take_add_one, hx]; simp [szs]
   have hle : szs (t.kids.take (k + 1)) <= szs t.kids := by
    have : szs t.kids = szs (t.kids.take (k + 1)) + szs (t.kids.drop (k + 1)) := by
     conv => lhs; rw [<- List.take_append_drop (k + 1) t.kids]
     unfold szs; rw [List.map_append, List.sum_append]
    omega
   have hts : szs t.kids <= 1000000 := by have := ht.size; rw [Tm.sizeI_sz, Tm.sz_eq] at this; omega
   have hvl := varsF_len x
   have hdr : t.kids.drop k = x :: t.kids.drop (k + 1) := by
    obtain ⟨h5, h6⟩ := List.getElem?_eq_some_iff.1 hx
    rw [List.drop_eq_getElem_cons h5, h6]
   simp +contextual (disch := first | omega | simp only [go_sem, false_implies]) only [go_sem, wrap64, if_pos, hx]
   refine call_give (ih x hxm (ht.kid hxm)) ?_
   simp +contextual (disch := first | omega | simp only [go_sem, false_implies]) only [go_sem, wrap64, if_pos, hx]
   refine loop_fam (fun j : Nat => ⟨envJ [.junk, .ptr 0 0, .junk, .d (.sl ((kidF t.op t.n k ((varsF x).take j) out).map .i)), .d (.i k), .d (.sl ((varsF x).map .i)), .d (.i j)], oneRow t.row, 1⟩)
    (fun j => j <= (varsF x).length) (fun j => (varsF x).length - j) 0 (Nat.zero_le _) (SLe.d1 _ (oneRow_good rfl) (by omega) rfl ?_) (fun j hj => ?_)
   ·(repeat (first | exact backE_nil | refine backE_junk ?_ | refine backE_d rfl ?_ | refine backE_d (d_int (wrapN (by omega))) ?_ | refine backE_v rfl (by simp [V.refs, V.refss] <;> first | omega | assumption) ?_))
   simp +contextual (disch := first | omega | simp only [go_sem, false_implies]) only [go_sem, wrap64, if_pos, and_self]
   refine cond_intro (fun h3 => ?_) (fun h3 => ?_)
   ·simp at h3
    obtain ⟨v, hv2⟩ := get_of_lt h3
    have hkl := len_kidF t.op t.n k ((varsF x).take j) out
    have htl : ((varsF x).take j).length <= (varsF x).length := by rw [List.length_take]; omega
    cases b1 : (t.op != 8) with
    | true =>
      have hc : (t.op != 8 || (k : Int) != 1 || v != t.n) = true := by rw [b1]; rfl
      simp +contextual (disch := first | omega | simp only [go_sem, false_implies]) only [go_sem, wrap64, if_pos, hv2, b1]
      refine end_intro (by decide) ?_
      simp +contextual (disch := first | omega | simp only [go_sem, false_implies]) only [go_sem, wrap64, if_pos, hv2]
      refine call_give (put_c _ v (by omega)) ?_
      simp +contextual (disch := first | omega | simp only [go_sem, false_implies]) only [go_sem, wrap64, if_pos, and_self]
      refine nextS_intro (j + 1) h3 (by omega) (SLe.d1 _ (oneRow_good rfl) (by omega) rfl ?_)
      rw [kidF_snoc hv2, if_pos hc]
      (repeat (first | exact backE_nil | refine backE_junk ?_ | refine backE_d rfl ?_ | refine backE_d (d_int (wrapN (by omega))) ?_ | refine backE_v rfl (by simp [V.refs, V.refss] <;> first | omega | assumption) ?_))
    | false =>
      cases b2 : ((k : Int) != 1) with
      | true =>
        have hc : (t.op != 8 || (k : Int) != 1 || v != t.n) = true := by rw [b1, b2]; rfl
        simp +contextual (disch := first | omega | simp only [go_sem, false_implies]) only [go_sem, wrap64, if_pos, hv2, b1, b2]
        refine end_intro (by decide) ?_
        simp +contextual (disch := first | omega | simp only [go_sem, false_implies]) only [go_sem, wrap64, if_pos, hv2]
        refine call_give (put_c _ v (by omega)) ?_
        simp +contextual (disch := first | omega | simp only [go_sem, false_implies]) only [go_sem, wrap64, if_pos, and_self]
        refine nextS_intro (j + 1) h3 (by omega) (SLe.d1 _ (oneRow_good rfl) (by omega) rfl ?_)
        rw [kidF_snoc hv2, if_pos hc]
        (repeat (first | exact backE_nil | refine backE_junk ?_ | refine backE_d rfl ?_ | refine backE_d (d_int (wrapN (by omega))) ?_ | refine backE_v rfl (by simp [V.refs, V.refss] <;> first | omega | assumption) ?_))
      | false =>
        simp +contextual (disch := first | omega | simp only [go_sem, false_implies]) only [go_sem, wrap64, if_pos, hv2, b1, b2]
        refine end_intro (by decide) ?_
        simp +contextual (disch := first | omega | simp only [go_sem, false_implies]) only [go_sem, wrap64, if_pos, hv2]
        refine cond_intro (fun h4 => ?_) (fun h4 => ?_)
        ·have hc : (t.op != 8 || (k : Int) != 1 || v != t.n) = true := by rw [h4]; simp
         simp +contextual (disch := first | omega | simp only [go_sem, false_implies]) only [go_sem, wrap64, if_pos, hv2]
         refine call_give (put_c _ v (by omega)) ?_
         simp +contextual (disch := first | omega | simp only [go_sem, false_implies]) only [go_sem, wrap64, if_pos, and_self]
         refine nextS_intro (j + 1) h3 (by omega) (SLe.d1 _ (oneRow_good rfl) (by omega) rfl ?_)
         rw [kidF_snoc hv2, if_pos hc]
         (repeat (first | exact backE_nil | refine backE_junk ?_ | refine backE_d rfl ?_ | refine backE_d (d_int (wrapN (by omega))) ?_ | refine backE_v rfl (by simp [V.refs, V.refss] <;> first | omega | assumption) ?_))
        ·have hc : ¬ (t.op != 8 || (k : Int) != 1 || v != t.n) = true := by rw [b1, b2, h4]; simp
         simp +contextual (disch := first | omega | simp only [go_sem, false_implies]) only [go_sem, wrap64, if_pos, hv2]
         refine nextS_intro (j + 1) h3 (by omega) (SLe.d1 _ (oneRow_good rfl) (by omega) rfl ?_)
         rw [kidF_snoc hv2, if_neg hc]
         (repeat (first | exact backE_nil | refine backE_junk ?_ | refine backE_d rfl ?_ | refine backE_d (d_int (wrapN (by omega))) ?_ | refine backE_v rfl (by simp [V.refs, V.refss] <;> first | omega | assumption) ?_))
   ·simp at h3
    simp +contextual (disch := first | omega | simp only [go_sem, false_implies]) only [go_sem, wrap64, if_pos, and_self]
    rw [List.take_of_length_le (by omega)]
    refine nextS_intro (k + 1, kidF t.op t.n k (varsF x) out) ⟨h2, by rw [hv, hdr]; rfl, ?_⟩ (by dsimp only; omega) (SLe.d1 _ (oneRow_good rfl) (by omega) rfl ?_)
    ·dsimp only
     have := len_kidF t.op t.n k (varsF x) out
     omega
    ·(repeat (first | exact backE_nil | refine backE_junk ?_ | refine backE_d rfl ?_ | refine backE_d (d_int (wrapN (by omega))) ?_ | refine backE_v rfl (by simp [V.refs, V.refss] <;> first | omega | assumption) ?_))
  ·simp at h2
   simp +contextual (disch := first | omega | simp only [go_sem, false_implies]) only [go_sem, wrap64, if_pos, and_self]
   rw [hv, List.drop_eq_nil_of_le (by omega)]
   rfl
end Go.Proofs.YtealblliddhgiaaGreat
namespace Go.Proofs.YtealblliddhgiaaGreat
theorem node_var {s : TSig} {t : Tm} (h : nodeF s t = true) (h1 : t.op = 1) : t.kids = [] := by
 simp [nodeF, h1] at h
 exact h.1
end Go.Proofs.YtealblliddhgiaaGreat
namespace Go.Proofs.YtealblliddhgiaaGreat
end Go.Proofs.YtealblliddhgiaaGreat
namespace Go.Proofs.YtealblliddhgiaaGreat
end Go.Proofs.YtealblliddhgiaaGreat
namespace Go.Proofs.YtealblliddhgiaaGreat
theorem wf_of_nodes (s : TSig) : ∀ t : Tm, nodesF s t = true -> t.wf := by
 refine Tm.ind' fun t ih h => ?_
 rw [nodesF_eq, Bool.and_eq_true, List.all_eq_true] at h
 rw [Tm.wf_iff]
 refine ⟨fun h1 => node_var h.1 h1, fun h8 => ?_, fun k hk => ih k hk (h.2 k hk)⟩
 have := h.1
 simp [nodeF, h8] at this
 omega
theorem form_wf {s : TSig} {t : Tm} (h : termF s t = true) : t.wf /\ t.sz <= 40 /\ t.hgt <= 12 := by
 simp only [termF, Bool.and_eq_true, decide_eq_true_eq, weigh_ge] at h
 exact ⟨wf_of_nodes s t h.2, by omega, by omega⟩
def bdsF (l : List TB) : List (Int × Tm) := l.map fun x => (x.var, x.term)
theorem listed_all {s : TSig} : ∀ (l : List TB) (a : Int), (foldE (lstep s) a l).2 = true -> (∀ x ∈ l, a < x.var /\ x.var < 20 /\ termF s x.term = true) /\ (l.map (·.var)).Nodup
 | [], _, _ => by simp
 | x :: l, a, h => by
   simp only [foldE] at h
   split at h
   ·rename_i h1
    simp only [lstep, Bool.and_eq_true, decide_eq_true_eq, formedF_eq] at h1
    obtain ⟨i1, i2⟩ := listed_all l x.var h
    refine ⟨fun y hy => ?_, ?_⟩
    ·rcases List.mem_cons.1 hy with rfl | hy
     ·exact ⟨h1.1.1, h1.1.2, h1.2⟩
     ·have := i1 y hy
      exact ⟨by omega, this.2⟩
    ·rw [List.map_cons, List.nodup_cons]
     refine ⟨fun hm => ?_, i2⟩
     obtain ⟨y, hy, e⟩ := List.mem_map.1 hm
     have := (i1 y hy).1
     omega
   ·rename_i h1
    cases h
def subE (s : TSig) (t : Tm) (l : List TB) : Tm × Int := if (rightF s [t] && listedF s l) = true then (if formedF s (subF t.hgt (bdsF l) t) = true then (subF t.hgt (bdsF l) t, 0) else (.mk 0 0 [], 3)) else (.mk 0 0 [], 2)
theorem subst_c (s : TSig) (hs : s.Fits) (t : Tm) (ht : t.Fin) (l : List TB) (hl : l.length <= 9223372036854775807) (hx : ∀ x ∈ l, x.term.Fin) : PCt Tryz.prog 14 [s.d, t.d, .sl (l.map TB.d)] (.ret [(subE s t l).1.d, .i (subE s t l).2]) := by
 refine PCt.of_ev mix fn14 (by simp) ?_
 rw [c14]
 simp +contextual (disch := first | omega | simp only [go_sem, false_implies]) only [go_sem, wrap64, if_pos, and_self]
 refine call_keep (right_c s hs [t] (by simp) (fun x hx => by simp at hx; subst hx; exact ht)) rfl ?_
 cases h1 : rightF s [t] with
 | false =>
   have e : subE s t l = (.mk 0 0 [], 2) := by simp [subE, h1]
   rw [e]
   simp +contextual (disch := first | omega | simp only [go_sem, false_implies]) only [go_sem, wrap64, if_pos, and_self]
   rw [Tm.d_mk]
   rfl
 | true =>
   simp +contextual (disch := first | omega | simp only [go_sem, false_implies]) only [go_sem, wrap64, if_pos, and_self]
   refine call_keep (listed_c s hs l hl hx) rfl ?_
   cases h2 : listedF s l with
   | false =>
     have e : subE s t l = (.mk 0 0 [], 2) := by simp [subE, h2]
     rw [e]
     simp +contextual (disch := first | omega | simp only [go_sem, false_implies]) only [go_sem, wrap64, if_pos, and_self]
     rw [Tm.d_mk]
     rfl
   | true =>
     simp +contextual (disch := first | omega | simp only [go_sem, false_implies]) only [go_sem, wrap64, if_pos, and_self]
     unfold listedF at h2
     rw [Bool.and_eq_true, decide_eq_true_eq] at h2
     obtain ⟨h3, h4⟩ := listed_all l (-1) h2.2
     have hnd : ((bdsF l).map (·.1)).Nodup := by simpa [bdsF, Function.comp_def] using h4
     have hft : termF s t = true := by
      rw [rightF, Bool.and_eq_true, List.all_eq_true] at h1
      have := h1.2 t (by simp)
      rwa [formedF_eq] at this
     obtain ⟨w1, w2, w3⟩ := form_wf hft
     have hbw : ∀ p ∈ bdsF l, p.2.wf /\ p.2.sz <= 40 := fun p hp => by
      obtain ⟨x, hx1, rfl⟩ := List.mem_map.1 hp
      have := form_wf (h3 x hx1).2.2
      exact ⟨this.1, this.2.1⟩
     have hbl : (bdsF l).length <= 20 := by rw [bdsF, List.length_map]; omega
     refine loop_fam (fun i : Nat => ⟨envJ [.junk, .junk, .junk, .ptr 0 0, .ptr 1 0, .junk, .ptr 2 0, .d (.i 0), .mp 15, .junk, .junk, .junk, .junk, .junk, .junk, .junk, .junk, .junk, .junk, .junk, .junk, .junk, .junk, .junk, .junk, .d (.sl (l.map TB.d)), .d (.i l.length), .d (.i i)], upd (upd (upd (upd (upd (fun _ => .no) 0 (.row s.row)) 1 (.row t.row)) 2 (.row [.d (.i 0), .d (.i 0), .nils])) 6 (.arr 0 28 3 [t.d])) 15 (mapTm (bdsF (l.take i))), 20⟩)
      (fun i => i <= l.length) (fun i => l.length - i) 0 (Nat.zero_le _) ?_ ?_
     ·refine SLe.backL _ (by decide) (Nat.le_refl _) (by repeat (first | exact hg.mono (by omega) | exact Good.nil | refine Good.upd ?_ (by omega) rfl | refine Good.upd ?_ (by omega) (hLr _ _ _ (by omega)) | refine Good.upd ?_ (by omega) (by simp [Obj'.refs, V.refss, V.refs] <;> omega))) (fun j hj => rfl) ?_
      (repeat (first | exact backE_nil | refine backE_junk ?_ | refine backE_d rfl ?_ | refine backE_d (d_int (wrapN (by omega))) ?_ | refine backE_v rfl (by simp [V.refs, V.refss] <;> first | omega | assumption) ?_))
     rintro i hi
     replace hi : i <= l.length := hi
     simp +contextual (disch := first | omega | simp only [go_sem, false_implies]) only [go_sem, wrap64, if_pos, List.length_map]
     refine cond_intro (fun h5 => ?_) (fun h5 => ?_)
     ·simp at h5
      obtain ⟨x, hx5⟩ := get_of_lt h5
      have htk : l.take (i + 1) = l.take i ++ [x] := by rw [List.take_add_one, hx5]; rfl
      have hlk : lkT (bdsF (l.take i)) x.var = none := by
       rw [lkT_none]
       intro hm
       have h6 : x.var ∈ (l.take i).map (·.var) := by simpa [bdsF, Function.comp_def] using hm
       have h7 : ((l.take (i + 1)).map (·.var)).Nodup := h4.sublist ((List.take_sublist _ _).map _)
       rw [htk, List.map_append, List.nodup_append] at h7
       exact h7.2.2 _ h6 x.var (by simp) rfl
      have hbd : bdsF (l.take (i + 1)) = bdsF (l.take i) ++ [(x.var, x.term)] := by rw [htk]; simp [bdsF]
      simp +contextual (disch := first | omega | simp only [go_sem, false_implies]) only [go_sem, wrap64, if_pos, List.length_map, hx5, aSet_tms hlk]
      refine nextS_intro (i + 1) h5 (by omega) (SLe.backL _ (by decide) (by omega) (by repeat (first | exact hg.mono (by omega) | exact Good.nil | refine Good.upd ?_ (by omega) rfl | refine Good.upd ?_ (by omega) (hLr _ _ _ (by omega)) | refine Good.upd ?_ (by omega) (by simp [Obj'.refs, V.refss, V.refs] <;> omega))) (fun j hj => ?_) ?_)
      ·rw [hbd]
       by_cases e : j = 15
       ·subst e; (repeat (first | rfl | rw [upd_same] | rw [upd_ne _ _ _ _ (by omega)]))
       ·(repeat (first | rfl | rw [upd_same] | rw [upd_ne _ _ _ _ (by omega)]))
        rw [upd_ne _ _ _ _ e]
      ·(repeat (first | exact backE_nil | refine backE_junk ?_ | refine backE_d rfl ?_ | refine backE_d (d_int (wrapN (by omega))) ?_ | refine backE_v rfl (by simp [V.refs, V.refss] <;> first | omega | assumption) ?_))
     ·simp at h5
      have hil : i = l.length := by omega
      subst hil
      rw [List.take_length]
      simp +contextual (disch := first | omega | simp only [go_sem, false_implies]) only [go_sem, wrap64, if_pos, and_self]
      refine call_give (putT_c (b := bdsF l) w1 (by omega) hnd (by omega) fun p hp => ⟨(hbw p hp).1, by have := (hbw p hp).2; omega⟩) ?_
      simp +contextual (disch := first | omega | simp only [go_sem, false_implies]) only [go_sem, wrap64, if_pos, and_self]
      have hz := sub_sz (M := 40) (by omega) t.hgt t (bdsF l) w1 (Nat.le_refl _) (fun p hp => (hbw p hp).2)
      have hz2 : (subF t.hgt (bdsF l) t).sz <= 1600 := Nat.le_trans hz (Nat.le_trans (Nat.mul_le_mul_right 40 w2) (by decide))
      have hh2 := Tm.hgt_le_sz (subF t.hgt (bdsF l) t)
      refine call_keep (formed_c s hs (subF t.hgt (bdsF l) t) (Tm.fits_sz _ (by omega)) (by omega)) rfl ?_
      cases h6 : formedF s (subF t.hgt (bdsF l) t) with
      | false =>
        have e : subE s t l = (.mk 0 0 [], 3) := by simp [subE, h1, listedF, h2, h6]
        rw [e]
        simp +contextual (disch := first | omega | simp only [go_sem, false_implies]) only [go_sem, wrap64, if_pos, and_self]
        rw [Tm.d_mk]
        rfl
      | true =>
        have e : subE s t l = (subF t.hgt (bdsF l) t, 0) := by simp [subE, h1, listedF, h2, h6]
        rw [e]
        simp +contextual (disch := first | omega | simp only [go_sem, false_implies]) only [go_sem, wrap64, if_pos, and_self]
end Go.Proofs.YtealblliddhgiaaGreat
