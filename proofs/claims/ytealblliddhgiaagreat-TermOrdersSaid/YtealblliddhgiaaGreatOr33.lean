/-
  A PART OF THE PROOF (put together by program): several texts, one behind the other. Conditions: none.
-/
import Derived.Test.YtealblliddhgiaaGreatOr32
set_option linter.unusedSimpArgs false
set_option linter.unusedVariables false
namespace Go.Proofs.YtealblliddhgiaaGreat
theorem objsOk_wr {pr : List (List Nat)} {fp : List (List Nat × List Nat)} (h : ((List.range fp.length).all fun j => (List.range j).all fun i => ((masks pr []).getD j 0).testBit i || ((fp.getD i ([], [])).2.isEmpty && (fp.getD j ([], [])).2.isEmpty)) = true) : objsOk pr fp = true := by
  unfold objsOk
  rw [List.all_eq_true] at h ⊢
  intro j hj
  have h := h j hj
  rw [List.all_eq_true] at h ⊢
  intro i hi
  have h := h i hi
  rw [Bool.or_eq_true] at h ⊢
  refine h.imp id fun h => ?_
  simp only [Bool.and_eq_true, List.isEmpty_iff] at h
  rw [h.1, h.2]
  rfl
def IC.snd : IC → IC
  | .seq _ y => y
  | c => c
def IC.fst : IC → IC
  | .seq x _ => x
  | .block _ x => x
  | .loop x => x
  | .cond _ x _ => x
  | c => c
@[reducible] def mapI (m : List (Int × Int)) : Obj' := .map 3 3 (enc (D.int .i64) (ints m))
@[reducible] def froI (m : List (Int × Int)) : Obj' := .mfro (enc (D.int .i64) (ints m))
def BdV (o : Nat → Obj') (bv : V) (m : List (Int × Int)) : Prop := (bv = .d .nilm ∧ m = []) ∨ ∃ b, bv = .mp b ∧ o b = froI m
structure OrdPre (o : Nat → Obj') (nx cid fid : Nat) (bv : V) (mB bd fr : List (Int × Int)) (n : Int) (sz : Nat) : Prop where
  good : Good o nx
  hc : o cid = .row [.d (.i n), .mp fid]
  hf : o fid = mapI fr
  hb : BdV o bv mB
  kb : Keys mB
  lk : ∀ v, lk mB v = lk bd v
  n0 : 0 ≤ n
  n1 : n + sz ≤ 1000000
def OrdK (o : Nat → Obj') (nx cid fid : Nat) (r : Tm × List (Int × Int) × Int) (K : V → (Nat → Obj') → Nat → Prop) : Prop :=
  ∀ v o' nx', nx ≤ nx' → Good o' nx' → toD o' v = some r.1.d → (∀ id ∈ v.ids, nx ≤ id) → (∀ j, j < nx → j ≠ cid → j ≠ fid → o' j = o j) → o' cid = .row [.d (.i r.2.2), .mp fid] → o' fid = mapI r.2.1 → K v o' nx'
@[go_sem] theorem findD_nil {P : Program} {kt : TypeId} {k : D} {i : Nat} : findD P kt k [] i = some none := rfl
def OrdC (t : Tm) : Prop := ∀ (o : Nat → Obj') (nx cid fid : Nat) (bv : V) (mB bd fr : List (Int × Int)) (n : Int), OrdPre o nx cid fid bv mB bd fr n t.sz → ∀ K X, OrdK o nx cid fid (ordF t bd fr n) K →
    CtK Tryz.prog 110 [.agg [.ptr cid 0, bv], .d t.d] o nx K X
theorem rst_in {R : List Nat} {o : Nat → Obj'} {id : Nat} (h : id ∈ R) : rst R o id = o id := by simp [rst, h]
theorem rst_good {R : List Nat} {o : Nat → Obj'} {nx : Nat} (hlt : ∀ id ∈ R, id < nx) (hcl : ∀ id ∈ R, ∀ j ∈ (o id).refs, j ∈ R) : Good (rst R o) nx := by
  refine ⟨fun id hid => ?_, fun id r hr => ?_⟩
  · have : id ∉ R := fun hm => by have := hlt id hm; omega
    simp [rst, this]
  · by_cases hid : id ∈ R
    · rw [rst_in hid] at hr; exact hlt r (hcl id hid r hr)
    · have : rst R o id = .no := by simp [rst, hid]
      rw [this] at hr; cases hr
theorem order_H0 {t : Tm} (h : OrdC t) {o : Nat → Obj'} {nx cid fid : Nat} {bd fr : List (Int × Int)} {n : Int} (hc : o cid = .row [.d (.i n), .mp fid]) (hf : o fid = mapI fr) (lkh : ∀ v, lk [] v = lk bd v) (n0 : 0 ≤ n) (n1 : n + t.sz ≤ 1000000) (c1 : cid < nx) (c2 : fid < nx) :
    HCt Tryz.prog 110 [.agg [.ptr cid 0, .d .nilm], .d t.d] [cid, fid] o (.ret [(ordF t bd fr n).1.d]) [(cid, .row [.d (.i (ordF t bd fr n).2.2), .mp fid]), (fid, mapI (ordF t bd fr n).2.1)] := by
  have hlt : ∀ id ∈ [cid, fid], id < nx := by simp; omega
  have hcf : cid ≠ fid := fun e => by rw [e, hf] at hc; cases hc
  have hcl : ∀ id ∈ [cid, fid], ∀ j ∈ (o id).refs, j ∈ [cid, fid] := by
    intro id hid j hj
    simp at hid
    rcases hid with rfl | rfl
    · rw [hc] at hj; simp [Obj'.refs, V.refss, V.refs] at hj; simp [hj]
    · rw [hf] at hj; simp [Obj'.refs] at hj
  refine HCt.of_ctk hlt (fun id hid => by simp [V.refss, V.refs] at hid; simp [hid]) hcl (by simp) (by simp [Obj'.refs, V.refss, V.refs]) ?_
  refine h _ _ cid fid _ [] bd fr n ⟨rst_good hlt hcl, (rst_in (by simp : cid ∈ [cid, fid])).trans hc, (rst_in (by simp : fid ∈ [cid, fid])).trans hf, .inl ⟨rfl, rfl⟩, List.nodup_nil, lkh, n0, n1⟩ _ _ ?_
  intro v o' nx' g1 g2 g3 g4 g5 g6 g7
  refine ⟨fun id hid => ?_, [v], [(ordF t bd fr n).1.d], rfl, by simp [toDs, g3], rfl, fun id hid => ?_⟩
  · simp at hid
    rcases hid with rfl | rfl
    · rw [g6]; simp only [put_cons', put_nil']; rw [upd_ne _ _ _ _ hcf, upd_same]
    · rw [g7]; simp only [put_cons', put_nil']; rw [upd_same]
  · simp [V.idss] at hid
    have := g4 id hid
    simp; omega
theorem order_H1 {t : Tm} (h : OrdC t) {o : Nat → Obj'} {nx cid fid b : Nat} {mB bd fr : List (Int × Int)} {n : Int} (hc : o cid = .row [.d (.i n), .mp fid]) (hf : o fid = mapI fr) (hb : o b = mapI mB ∨ o b = froI mB) (b1 : b ≠ cid) (b2 : b ≠ fid) (kb : Keys mB) (lkh : ∀ v, lk mB v = lk bd v) (n0 : 0 ≤ n) (n1 : n + t.sz ≤ 1000000) (c1 : cid < nx) (c2 : fid < nx) (c3 : b < nx) :
    HCt Tryz.prog 110 [.agg [.ptr cid 0, .mp b], .d t.d] [cid, fid, b] o (.ret [(ordF t bd fr n).1.d]) [(cid, .row [.d (.i (ordF t bd fr n).2.2), .mp fid]), (fid, mapI (ordF t bd fr n).2.1), (b, froI mB)] := by
  have hlt : ∀ id ∈ [cid, fid, b], id < nx := by simp; omega
  have hcf : cid ≠ fid := fun e => by rw [e, hf] at hc; cases hc
  have hcl : ∀ id ∈ [cid, fid, b], ∀ j ∈ (o id).refs, j ∈ [cid, fid, b] := by
    intro id hid j hj
    simp at hid
    rcases hid with rfl | rfl | rfl
    · rw [hc] at hj; simp [Obj'.refs, V.refss, V.refs] at hj; simp [hj]
    · rw [hf] at hj; simp [Obj'.refs] at hj
    · rcases hb with hb | hb <;> (rw [hb] at hj; simp [Obj'.refs] at hj)
  refine HCt.of_ctk hlt (by simp [V.refss, V.refs]) hcl (by simp) (by simp [Obj'.refs, V.refss, V.refs]) ?_
  have key : ∀ O : Nat → Obj', O cid = o cid → O fid = o fid → O b = froI mB → Good O nx → CtK Tryz.prog 110 [.agg [.ptr cid 0, .mp b], .d t.d] O nx
      (fun v o1 _ => (∀ id ∈ [cid, fid, b], o1 id = put o [(cid, .row [.d (.i (ordF t bd fr n).2.2), .mp fid]), (fid, mapI (ordF t bd fr n).2.1), (b, froI mB)] id) ∧ ∃ vs rs, v = (match vs with | [v] => v | vs => .tup vs) ∧ toDs o1 vs = some rs ∧ R.ret [(ordF t bd fr n).1.d] = .ret rs ∧ ∀ id ∈ V.idss vs, id ∉ [cid, fid, b])
      (fun v o1 _ => (∀ id ∈ [cid, fid, b], o1 id = put o [(cid, .row [.d (.i (ordF t bd fr n).2.2), .mp fid]), (fid, mapI (ordF t bd fr n).2.1), (b, froI mB)] id) ∧ ∃ x, toD o1 v = some x ∧ R.ret [(ordF t bd fr n).1.d] = .pan x ∧ ∀ id ∈ v.ids, id ∉ [cid, fid, b]) := by
    intro O h1 h2 h3 h4
    refine h _ _ cid fid _ mB bd fr n ⟨h4, by rw [h1]; exact hc, by rw [h2]; exact hf, .inr ⟨b, rfl, h3⟩, kb, lkh, n0, n1⟩ _ _ ?_
    intro v o' nx' g1 g2 g3 g4 g5 g6 g7
    refine ⟨fun id hid => ?_, [v], [(ordF t bd fr n).1.d], rfl, by simp [toDs, g3], rfl, fun id hid => ?_⟩
    · simp at hid
      simp only [put_cons', put_nil']
      rcases hid with rfl | rfl | rfl
      · rw [g6, upd_ne _ _ _ _ (Ne.symm b1), upd_ne _ _ _ _ hcf, upd_same]
      · rw [g7, upd_ne _ _ _ _ (Ne.symm b2), upd_same]
      · rw [g5 _ c3 b1 b2, h3, upd_same]
    · simp [V.idss] at hid
      have := g4 id hid
      simp; omega
  have hgood := rst_good hlt hcl
  rcases hb with hb | hb
  · have hbr : rst [cid, fid, b] o b = mapI mB := (rst_in (by simp)).trans hb
    refine CtK.pre_freeze (id := b) hbr c3 (key _ ?_ ?_ (upd_same _ _ _) ?_)
    · rw [upd_ne _ _ _ _ (Ne.symm b1), rst_in (by simp : cid ∈ [cid, fid, b])]
    · rw [upd_ne _ _ _ _ (Ne.symm b2), rst_in (by simp : fid ∈ [cid, fid, b])]
    · exact hgood.upd c3 rfl
  · exact key _ (rst_in (by simp)) (rst_in (by simp)) ((rst_in (by simp)).trans hb) hgood
end Go.Proofs.YtealblliddhgiaaGreat
