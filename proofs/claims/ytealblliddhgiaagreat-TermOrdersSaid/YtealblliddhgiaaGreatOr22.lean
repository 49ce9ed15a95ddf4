/-
  A PART OF THE PROOF (put together by program): several texts, one behind the other. Conditions: none.
-/
import Derived.Test.YtealblliddhgiaaGreatOr21
set_option linter.unusedSimpArgs false
set_option linter.unusedVariables false
namespace Go.Proofs.YtealblliddhgiaaGreat
theorem HVt.of_own {P : Program} {g : FuncId} {ds : List D} {o : Nat → Obj'} {fr : Nat} {ty : TypeId} {sz : Nat} {es : List D}
    (h : CtK P g (ds.map .d) (fun _ => .no) 0 (fun v o1 _ => (∃ j ep, v = .osl j ep ∧ o1 j = .arr ep ty sz es) ∨ (v = .nils ∧ es = [] ∧ 0 < sz)) (fun _ _ _ => False)) :
    HVt P g (ds.map .d) [] o fr (.osl fr 0) [(fr, .arr 0 ty sz es)] := by
  refine ⟨h.1, fun o' us M φ w vals _ hfr hH hd => ?_⟩
  let φ0 : Place := fun _ => .nilFunc
  have hnl : ∀ b, ¬ liveB φ0 (hp (fun _ => .no) 0) b := by rintro b ⟨id, hl, _⟩; simp [hp, Obj'.live] at hl
  have hM : ∀ b, mutB M φ ⟨o', us⟩ b → b < w.heap.size := fun b hb => hb.elim (hH.old b) fun hl => (hH.ours b hl).2
  have hdd := (V.dens_map_d _ _).1 hd
  refine (h.2 (mutB M φ ⟨o', us⟩) φ0 w vals (emptyHeap φ0 hM) ((V.dens_map_d _ _).2 (D.dens_mono (w := w) (w' := w) (B := mutB M φ ⟨o', us⟩) (fun b _ hB => ⟨rfl, fun h => h.elim hB (hnl b)⟩) _ _ hdd))).mono ?_
  rintro e w' ⟨φ1, o1, n1, v, k1, k2, k3⟩
  have hk : Keep (fun _ => False) w w' := ⟨k2.keep.os, k2.keep.tape, k2.keep.output, k2.keep.size, fun k hk _ => k2.keep.block k hk (hnl k)⟩
  have hpe : (⟨o', us⟩ : Hp).put [(fr, .arr 0 ty sz es)] = ⟨put o' [(fr, .arr 0 ty sz es)], fun id => us id ∨ id = fr⟩ := by
    simp only [Hp.put]
    congr 1
    funext id
    simp
  have fin : ∀ (val : Value) (xs : List Value), (∀ b, blk val = some b → w.heap.size ≤ b ∧ b < w'.heap.size) → 0 < sz → w'.ownsRow 0 ty sz val es.length xs →
      (RowDen (mutB M (upd φ fr val) ((⟨o', us⟩ : Hp).put [(fr, .arr 0 ty sz es)])) w' sz es xs) →
      val.oneCell' = true →
      ∃ φ', HeapOk M φ' ⟨put o' [(fr, .arr 0 ty sz es)], fun id => us id ∨ id = fr⟩ w' ∧ Trans φ ⟨o', us⟩ w φ' ⟨put o' [(fr, .arr 0 ty sz es)], fun id => us id ∨ id = fr⟩ w' ∧
        ∃ val', Ending.returned val = .returned val' ∧ V.den (mutB M φ' ⟨put o' [(fr, .arr 0 ty sz es)], fun id => us id ∨ id = fr⟩) φ' ⟨put o' [(fr, .arr 0 ty sz es)], fun id => us id ∨ id = fr⟩ w' (.osl fr 0) val' := by
    intro val xs hfresh hsz hown hrow hsl
    have hheap := heap_new hH hk hfr (.arr 0 ty sz es) val hfresh (by
      unfold ObjOk
      rw [show ((⟨o', us⟩ : Hp).put [(fr, .arr 0 ty sz es)]).o fr = .arr 0 ty sz es by simp]
      refine ⟨hsz, xs, ?_, hrow⟩
      rw [show upd φ fr val fr = val by simp]
      exact hown)
    have htr := trans_new (φ := φ) (H := ⟨o', us⟩) hk hfr (.arr 0 ty sz es) val (fun b hb => (hfresh b hb).1)
    rw [hpe] at hheap htr
    refine ⟨upd φ fr val, hheap, htr, val, rfl, hsl, .inr rfl, fun e he => ?_⟩
    have he' : 0 = e := by
      have : (put o' [(fr, Obj'.arr 0 ty sz es)] fr).epoch = some 0 := by simp [put, Obj'.epoch]
      rw [show (⟨put o' [(fr, .arr 0 ty sz es)], fun id => us id ∨ id = fr⟩ : Hp).o fr = put o' [(fr, .arr 0 ty sz es)] fr from rfl, this] at he
      injection he
    exact ⟨by omega, fun _ => by simp⟩
  cases e with
  | outgrown => exact k3.elim
  | panicked ch => obtain ⟨_, _, _, h⟩ := k3; exact h.elim
  | returned val =>
    obtain ⟨g1, ⟨j, ep, rfl, hj⟩ | ⟨rfl, rfl, hsz⟩⟩ := k3
    · obtain ⟨v0, v1, v2⟩ := g1
      have hval : val = φ1 j := (v2 ep (by show (o1 j).epoch = some ep; rw [hj]; rfl)).2 rfl
      have hlive : ∀ b, blk val = some b → liveB φ1 (hp o1 n1) b := fun b hb => ⟨j, by show (o1 j).live = true; rw [hj]; rfl, by rw [← hval]; exact hb⟩
      have hfresh : ∀ b, blk val = some b → w.heap.size ≤ b ∧ b < w'.heap.size := fun b hb => ⟨(k2.grow b (hlive b hb)).resolve_left (hnl b), (k1.ours b (hlive b hb)).2⟩
      have hob := k1.ok j
      unfold ObjOk at hob
      rw [show (hp o1 n1).o j = .arr ep ty sz es from hj] at hob
      obtain ⟨hsz, xs, hown, hrow⟩ := hob
      have hBs : ∀ b, mutB M (upd φ fr val) ((⟨o', us⟩ : Hp).put [(fr, .arr 0 ty sz es)]) b → mutB (mutB M φ ⟨o', us⟩) φ1 (hp o1 n1) b := by
        rintro b (hb | ⟨id, hl, hb⟩)
        · exact .inl (.inl hb)
        · by_cases e : id = fr
          · subst e
            simp at hb
            exact .inr (hlive b hb)
          · simp [e] at hl hb
            exact .inl (.inr ⟨id, hl, hb⟩)
      exact fin val xs hfresh hsz (by rw [hval]; exact hown) (hrow.mono (w := w') (w' := w') (fun b _ hB => ⟨rfl, fun h => hB (hBs b h)⟩)) v0
    · have g1 : val = .slice none 0 0 := g1
      subst g1
      exact fin _ [] (fun b hb => by cases hb) hsz (World.ownsRow_nil w' 0 ty sz) ⟨[], rfl, by simp, rfl⟩ rfl
theorem HVt.of_own2 {P : Program} {g : FuncId} {args : List V} {ds : List D} {o : Nat → Obj'} {fr : Nat} {ty : TypeId} {sz : Nat} {es : List D}
    (hds : toDs o args = some ds) (hfl : D.flats es = true) (h : CtK P g (ds.map .d) (fun _ => .no) 0 (fun v o1 _ => (∃ j ep, v = .osl j ep ∧ o1 j = .arr ep ty sz es) ∨ (v = .nils ∧ es = [] ∧ 0 < sz)) (fun _ _ _ => False)) :
    HVt P g args (V.idss args) o fr (.osl fr 0) [(fr, .arr 0 ty sz es)] := by
  refine ⟨h.1, fun o' us M φ w vals hag hfr hH hd => ?_⟩
  obtain ⟨f1, f2, f3, f4, f5⟩ := freezes hH (V.idss args) (fun id hid => (hag id hid).2)
  generalize hHF : (⟨o', us⟩ : Hp).put (frz (⟨o', us⟩ : Hp).o (V.idss args)) = HF at f1 f2 f3
  let φ0 : Place := fun _ => .nilFunc
  have hnl : ∀ b, ¬ liveB φ0 (hp (fun _ => .no) 0) b := by rintro b ⟨id, hl, _⟩; simp [hp, Obj'.live] at hl
  have hM : ∀ b, mutB M φ HF b → b < w.heap.size := fun b hb => hb.elim (f1.old b) fun hl => (f1.ours b hl).2
  have hdd : D.dens (mutB M φ HF) w ds vals.toList := toDs_den f1 args ds _ (fun id hid => by rw [f3 id hid]; show (o' id).fz = (o id).fz; rw [(hag id hid).1]) hds (V.dens_mono f2 _ _ hd)
  refine (h.2 (mutB M φ HF) φ0 w vals (emptyHeap φ0 hM) ((V.dens_map_d _ _).2 (D.dens_mono (w := w) (w' := w) (B := mutB M φ HF) (fun b _ hB => ⟨rfl, fun h => h.elim hB (hnl b)⟩) _ _ hdd))).mono ?_
  rintro e w' ⟨φ1, o1, n1, v, k1, k2, k3⟩
  have hk : Keep (fun _ => False) w w' := ⟨k2.keep.os, k2.keep.tape, k2.keep.output, k2.keep.size, fun k hk _ => k2.keep.block k hk (hnl k)⟩
  have hpe : (⟨o', us⟩ : Hp).put [(fr, .arr 0 ty sz es)] = ⟨put o' [(fr, .arr 0 ty sz es)], fun id => us id ∨ id = fr⟩ := by
    simp only [Hp.put]
    congr 1
    funext id
    simp
  have fin : ∀ (val : Value) (xs : List Value), (∀ b, blk val = some b → w.heap.size ≤ b ∧ b < w'.heap.size) → 0 < sz → w'.ownsRow 0 ty sz val es.length xs →
      (RowDen (mutB M (upd φ fr val) ((⟨o', us⟩ : Hp).put [(fr, .arr 0 ty sz es)])) w' sz es xs) →
      val.oneCell' = true →
      ∃ φ', HeapOk M φ' ⟨put o' [(fr, .arr 0 ty sz es)], fun id => us id ∨ id = fr⟩ w' ∧ Trans φ ⟨o', us⟩ w φ' ⟨put o' [(fr, .arr 0 ty sz es)], fun id => us id ∨ id = fr⟩ w' ∧
        ∃ val', Ending.returned val = .returned val' ∧ V.den (mutB M φ' ⟨put o' [(fr, .arr 0 ty sz es)], fun id => us id ∨ id = fr⟩) φ' ⟨put o' [(fr, .arr 0 ty sz es)], fun id => us id ∨ id = fr⟩ w' (.osl fr 0) val' := by
    intro val xs hfresh hsz hown hrow hsl
    have hheap := heap_new hH hk hfr (.arr 0 ty sz es) val hfresh (by
      unfold ObjOk
      rw [show ((⟨o', us⟩ : Hp).put [(fr, .arr 0 ty sz es)]).o fr = .arr 0 ty sz es by simp]
      refine ⟨hsz, xs, ?_, hrow⟩
      rw [show upd φ fr val fr = val by simp]
      exact hown)
    have htr := trans_new (φ := φ) (H := ⟨o', us⟩) hk hfr (.arr 0 ty sz es) val (fun b hb => (hfresh b hb).1)
    rw [hpe] at hheap htr
    refine ⟨upd φ fr val, hheap, htr, val, rfl, hsl, .inr rfl, fun e he => ?_⟩
    have he' : 0 = e := by
      have : (put o' [(fr, Obj'.arr 0 ty sz es)] fr).epoch = some 0 := by simp [put, Obj'.epoch]
      rw [show (⟨put o' [(fr, .arr 0 ty sz es)], fun id => us id ∨ id = fr⟩ : Hp).o fr = put o' [(fr, .arr 0 ty sz es)] fr from rfl, this] at he
      injection he
    exact ⟨by omega, fun _ => by simp⟩
  cases e with
  | outgrown => exact k3.elim
  | panicked ch => obtain ⟨_, _, _, h⟩ := k3; exact h.elim
  | returned val =>
    obtain ⟨g1, ⟨j, ep, rfl, hj⟩ | ⟨rfl, rfl, hsz⟩⟩ := k3
    · obtain ⟨v0, v1, v2⟩ := g1
      have hval : val = φ1 j := (v2 ep (by show (o1 j).epoch = some ep; rw [hj]; rfl)).2 rfl
      have hlive : ∀ b, blk val = some b → liveB φ1 (hp o1 n1) b := fun b hb => ⟨j, by show (o1 j).live = true; rw [hj]; rfl, by rw [← hval]; exact hb⟩
      have hfresh : ∀ b, blk val = some b → w.heap.size ≤ b ∧ b < w'.heap.size := fun b hb => ⟨(k2.grow b (hlive b hb)).resolve_left (hnl b), (k1.ours b (hlive b hb)).2⟩
      have hob := k1.ok j
      unfold ObjOk at hob
      rw [show (hp o1 n1).o j = .arr ep ty sz es from hj] at hob
      obtain ⟨hsz, xs, hown, hrow⟩ := hob
      obtain ⟨evs, e1, e2, e3⟩ := hrow
      exact fin val xs hfresh hsz (by rw [hval]; exact hown) ⟨evs, e1, e2, D.flats_dens _ _ hfl e3⟩ v0
    · have g1 : val = .slice none 0 0 := g1
      subst g1
      exact fin _ [] (fun b hb => by cases hb) hsz (World.ownsRow_nil w' 0 ty sz) ⟨[], rfl, by simp, rfl⟩ rfl
theorem HVt.of_args {P : Program} {g : FuncId} {args : List V} {ds : List D} {o0 o : Nat → Obj'} {rd : List Nat} {fr : Nat} {v : V} {Δ : List (Nat × Obj')} (hid : V.idss args = []) (hds : toDs o0 args = some ds)
    (h : HVt P g (ds.map .d) rd o fr v Δ) : HVt P g args rd o fr v Δ :=
  ⟨h.1, fun o' us M φ w vals h1 h2 hH hd => h.2 o' us M φ w vals h1 h2 hH ((V.dens_map_d _ _).2 (toDs_den hH args ds _ (by rw [hid]; intro id h; cases h) hds hd))⟩
end Go.Proofs.YtealblliddhgiaaGreat
