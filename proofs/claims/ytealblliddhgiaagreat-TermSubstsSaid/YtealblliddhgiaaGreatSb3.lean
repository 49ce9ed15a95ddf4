/-
  A PART OF THE PROOF. Conditions: none.
-/
import Derived.ChangeKeysEq
import Derived.Test.YtealblliddhgiaaGreatSb2
set_option linter.unusedSimpArgs false
set_option linter.unusedVariables false
namespace Go.Proofs.YtealblliddhgiaaGreat
section
variable {P : Program} {M : Nat -> Prop} {φ : Place} {H : Hp} {w w' : World} {fr : Nat} {K : V -> List (Nat × Obj') -> List Nat -> Prop}
theorem ownsRow_zero {base : Nat} {e : TypeId} {sz n : Nat} {v : Value} {xs : List Value} (h : w.ownsRow base e sz v n xs) : w.ownsRow 0 e sz v n xs := by
 obtain ⟨h1, h2⟩ := h
 refine ⟨h1, ?_⟩
 rcases h2 with h2 | ⟨g, cap, cur, a, _, b⟩
 ·exact .inl h2
 ·exact .inr ⟨g, cap, cur, a, Nat.zero_le _, b⟩
theorem ownsRow_blk {base : Nat} {e : TypeId} {sz n : Nat} {v : Value} {xs : List Value} (h : w.ownsRow base e sz v n xs) (b : Nat) (hb : blk v = some b) : base <= b /\ b < w.heap.size := by
 rcases h.2 with ⟨rfl, _⟩ | ⟨g, cap, cur, rfl, h1, h2, _⟩
 ·cases hb
 ·simp [blk] at hb; subst hb
  exact ⟨h1, (Array.getElem?_eq_some_iff.1 h2).1⟩
theorem RowDen.mono {B B' : Nat -> Prop} (hb : ∀ b, Cellish w b -> ¬ B b -> w'.heap[b]? = w.heap[b]? /\ ¬ B' b) {sz : Nat} {es : List D} {xs : List Value} (h : RowDen B w sz es xs) : RowDen B' w' sz es xs := by
 obtain ⟨evs, h1, h2, h3⟩ := h
 exact ⟨evs, h1, h2, D.dens_mono hb es evs h3⟩
theorem new_arr (hH : HeapOk M φ H w) (hfr : ¬ H.us fr) (hk : Keep (fun _ => False) w w') {val : Value} {ty : TypeId} {sz : Nat} {es : List D} {xs : List Value} (hsz : 0 < sz)
 (hown : w'.ownsRow w.heap.size ty sz val es.length xs) (hd : RowDen (mutB M φ H) w sz es xs) :
 let φ' := upd φ fr val; let H' := H.put [(fr, .arr 0 ty sz es)]
 HeapOk M φ' H' w' /\ Trans φ H w φ' H' w' /\ V.den (mutB M φ' H') φ' H' w' (.osl fr 0) val := by
 intro φ' H'
 have ht : Trans φ H w φ' H' w' := trans_new hk hfr _ _ fun b hb => (ownsRow_blk hown b hb).1
 refine ⟨heap_new hH hk hfr _ _ (ownsRow_blk hown) ?_, ht, ?_, by simp [H'], fun e he => ?_⟩
 ·unfold ObjOk
  simp only [put_one_o, upd_apply, if_true]
  exact ⟨hsz, xs, ownsRow_zero hown, hd.mono (ht.blocks (M := M))⟩
 ·rcases hown.2 with ⟨rfl, _⟩ | ⟨g, cap, cur, rfl, _⟩ <;> rfl
 ·simp [H', Obj'.epoch] at he
  subst he
  exact ⟨Nat.le_refl _, fun _ => by simp [φ']⟩
theorem eff_new_arr (hH : HeapOk M φ H w) (hfr : ¬ H.us fr) (hk : Keep (fun _ => False) w w') {s : Sem Value} {val : Value} {ty : TypeId} {sz : Nat} {es : List D} {xs : List Value} {rd : List Nat} (hsz : 0 < sz)
 (hK : K (.osl fr 0) [(fr, .arr 0 ty sz es)] rd) (hr : s.run P w = .ok val w') (hown : w'.ownsRow w.heap.size ty sz val es.length xs) (hd : RowDen (mutB M φ H) w sz es xs) :
 Eff M φ H w fr ((do let y <- s; pure (Next.value y) : Sem Next).run P w) K := by
 obtain ⟨h1, h2, h3⟩ := new_arr hH hfr hk hsz hown hd
 exact ⟨_, _, _, _, _, _, _, hK, by simp [hr], .inl rfl, h1, h2, h3, by simp⟩
theorem cells_pos_info {e : TypeId} (h : 0 < P.cellsOf e) : ∃ i, P.info? e = some i := by
 cases hi : P.info? e with
 | none => simp [Program.cellsOf, hi] at h
 | some i => exact ⟨i, rfl⟩
theorem zip_fst_snd (parts : List (Nat × Value)) (n : Nat) (h : parts.map (·.1) = List.range n) : parts = ((parts.map (·.2)).zipIdx 0).map fun x => (x.2, x.1) := by
 apply List.ext_getElem?
 intro i
 have hl : parts.length = n := by have := congrArg List.length h; simpa using this
 rw [List.getElem?_map, List.getElem?_zipIdx, List.getElem?_map]
 cases hp : parts[i]? with
 | none => simp
 | some p =>
   have h1 : (parts.map (·.1))[i]? = some p.1 := by simp [hp]
   rw [h, List.getElem?_range (by have := (List.getElem?_eq_some_iff.1 hp).1; omega)] at h1
   simp at h1
   obtain ⟨p1, p2⟩ := p
   simp_all
theorem run_buildSlice0 {t e : TypeId} (ht : P.underlying t = some (.slice e)) (hpos : 0 < P.cellsOf e) : (Instr.buildSlice t 0 #[]).run P w = .ok (.slice (some ⟨w.heap.size, 0, none⟩) 0 0) (w.alloc (.cells #[] e)) := by
 obtain ⟨i, hi⟩ := cells_pos_info hpos
 have h1 : (underlying t).run P w = .ok (.slice e) w := by simp [Go.underlying, ht]
 have h2 : (sizeOf e).run P w = .ok i.size w := by simp [Go.sizeOf, Go.typeInfo, hi]
 simp [Instr.buildSlice, h1, h2, Instr.fill, newRow]
 congr 2
 exact Array.eq_empty_of_size_eq_zero (by simp)
theorem eff_buildSlice (hH : HeapOk M φ H w) (hfr : ¬ H.us fr) {t : TypeId} {len : Nat} {parts : Array (Nat × Operand)} {s : S} {a : Act} (henv : ∀ i, V.den (mutB M φ H) φ H w (s.env i) (a.tmps.getD i undef))
 (h : buildSliceV P H.o fr t len (parts.toList.map fun p => (p.1, s.ev p.2)) K) :
 Eff M φ H w fr ((do let y <- Instr.buildSlice t len (parts.map fun (i, x) => (i, a.eval x)); pure (Next.value y) : Sem Next).run P w) K := by
 unfold buildSliceV at h
 split at h
 ·rename_i e ht
  rcases h with ⟨rfl, hp0, hpos, hK⟩ | ⟨hidx, hz, hlen, hpos, hsm, ds, hds, hw, hK⟩
  ·have hpe : parts = #[] := by
    have := congrArg List.length hp0
    simp at this
    exact this
   subst hpe
   have hown := World.ownsRow_lit (base := w.heap.size) (e := e) (size := P.cellsOf e) w #[] 0 (Nat.le_refl _) (Nat.zero_le _) (by simp)
   exact eff_new_arr hH hfr (keep_alloc w _) hpos hK (by simpa using run_buildSlice0 (w := w) (sliceT_spec ht) hpos) hown ⟨[], rfl, by simp, rfl⟩
  obtain ⟨z, hz⟩ := Option.isSome_iff_exists.1 hz
  obtain ⟨ie, zv, h1, h2, h3, h4, _⟩ := zeroT_spec hz
  have hd : V.dens (mutB M φ H) φ H w ((parts.toList.map fun p => (p.1, s.ev p.2)).map (·.2)) ((parts.map fun (i, x) => (i, a.eval x)).toList.map (·.2)) := by
   have := evs_den s a henv (parts.toList.map (·.2))
   simpa [Function.comp_def] using this
  have hidx' : (parts.map fun (i, x) => (i, a.eval x)).toList.map (·.1) = List.range len := by
   rw [<- hidx]; simp [Function.comp_def]
  generalize hvp : (parts.map fun (i, x) => (i, a.eval x)).toList = vp at hd hidx'
  generalize hsp : (parts.toList.map fun p => (p.1, s.ev p.2)).map (·.2) = sp at hd hds hK
  obtain ⟨f1, f2, f3, f4, f5⟩ := freezes hH (V.idss sp) (idss_used sp _ hd)
  have hd1 := V.dens_mono f2 _ _ hd
  have hdd := toDs_den f1 sp ds _ f3 hds hd1
  have hsz : ∀ v ∈ vp.map (·.2), v.cells.size = P.cellsOf e := by
   intro v hv
   obtain ⟨i, hi⟩ := List.mem_iff_getElem?.1 hv
   have hl := D.dens_length _ _ hdd
   have hlt : i < ds.length := by rw [<- hl]; exact (List.getElem?_eq_some_iff.1 hi).1
   obtain ⟨v', hv', hdv⟩ := D.dens_get _ _ i ds[i] hdd (by simp [hlt])
   rw [hi] at hv'; injection hv' with hv'; subst hv'
   have := D.dens_length _ _ (D.den_cells _ _ hdv).1
   rw [hw _ (List.getElem_mem hlt)] at this
   simpa using this
  have hvl : vp.length = len := by have := congrArg List.length hidx'; simpa using this
  have hfill : Instr.fill (fun i => some (i * ie.size, ie.size)) ((Array.range (len * ie.size)).map (zv.cells[· % zv.cells.size]!)) vp = some ((vp.map (·.2)).flatMap fun v => v.cells.toList).toArray := by
   rw [<- cellsOf_info h1]
   have := Great.fill_whole hpos (vp.map (·.2)) ((Array.range (len * P.cellsOf e)).map (zv.cells[· % zv.cells.size]!)) hsz (by simp [hvl])
   rwa [<- zip_fst_snd vp len hidx'] at this
  have hrun := run_buildSlice (P := P) w t e len (parts.map fun (i, x) => (i, a.eval x)) _ ie zv (sliceT_spec ht) h1 h2 (by rw [<- cellsOf_info h1]; omega) (by rw [<- cellsOf_info h1]; have := Nat.mul_pos hlen hpos; omega) (by rw [hvp]; exact hfill)
  have hdl := D.dens_length _ _ hdd
  have hown := World.ownsRow_lit (base := w.heap.size) (e := e) (size := P.cellsOf e) w ((vp.map (·.2)).flatMap fun v => v.cells.toList).toArray len (Nat.le_refl _) (by have := Nat.le_mul_of_pos_right len hpos; simp [maxLen]; omega) (by
   have : ∀ l : List Value, (∀ v ∈ l, v.cells.size = P.cellsOf e) -> (l.flatMap fun v => v.cells.toList).length = l.length * P.cellsOf e := by
    intro l
    induction l with
    | nil => simp
    | cons x l ih => intro hx; simp [hx x (by simp), ih (fun v hv => hx v (by simp [hv])), Nat.add_mul, Nat.add_comm]
   have := this (vp.map (·.2)) hsz
   simpa [hvl] using this)
  have hlen' : len = ds.length := by rw [<- hdl]; simp [hvl]
  obtain ⟨g1, g2, g3⟩ := new_arr (ty := e) (sz := P.cellsOf e) (es := ds) f1 (fr := fr) (fun hu => hfr ((f5 fr).1 hu)) (keep_alloc w _) hpos (by rw [<- hlen']; exact hown) ⟨vp.map (·.2), by simp, hsz, hdd⟩
  rw [<- put_append] at g1 g2 g3
  refine ⟨_, _, _, _, _, _, _, hK, by simp only [Sem.run_bind, hrun, Result.andThen_ok]; rfl, .inl rfl, g1, f2.trans g2, g3, fun id hid => ?_⟩
  simp only [List.map_append, List.mem_append, List.map_cons, List.map_nil, List.mem_singleton] at hid
  rcases hid with hid | hid
  ·left
   refine idss_used sp _ hd id ?_
   rw [frz_eq] at hid
   simpa [Function.comp_def] using hid
  ·exact .inr hid
 ·exact h.elim
theorem idss_ofScalars : ∀ (vs : List Value), V.idss (vs.map V.ofScalar) = []
 | [] => rfl
 | v :: vs => by
   have h : (V.ofScalar v).ids = [] := by cases v <;> simp only [V.ofScalar, V.ids] <;> split <;> rfl
   simp [V.idss, h, idss_ofScalars vs]
theorem zeroD_den (hH : HeapOk M φ H w) {e : TypeId} {x : D} (h : zeroD P e = some x) : ∃ i z ev, P.info? e = some i /\ i.zero = some z /\ z.cells.size = i.size /\ Flat z.cells.toList /\ ev.cells = z.cells /\ D.den (mutB M φ H) w x ev := by
 unfold zeroD at h
 split at h
 ·rename_i zs hz
  obtain ⟨i, z, h1, h2, h3, h4, rfl⟩ := zeroT_spec hz
  have key : ∀ ds, toDs (fun _ => .no) (z.cells.toList.map V.ofScalar) = some ds -> D.dens (mutB M φ H) w ds z.cells.toList := fun ds hds =>
   toDs_den hH _ _ _ (by rw [idss_ofScalars]; simp) hds (ofScalars_dens _ h4)
  split at h
  ·rename_i ds hds hagg
   injection h with h; subst h
   exact ⟨i, z, .agg z.cells, h1, h2, h3, h4, rfl, z.cells, rfl, key ds hds, h4⟩
  ·rename_i y hds hagg
   injection h with h; subst h
   obtain ⟨u, us, h5, h6, h7⟩ := key _ hds
   simp only [D.dens] at h7; subst h7
   have hone := h4 u (by rw [h5]; simp)
   have hu : u.cells = #[u] := by cases u <;> simp_all [Value.oneCell', Value.cells]
   refine ⟨i, z, u, h1, h2, h3, h4, ?_, h6⟩
   rw [hu]; apply Array.ext'; simpa using h5.symm
  ·cases h
 ·cases h
theorem madeCells_flat (z : Value) (n : Nat) : (madeCells z.cells (n * z.cells.size)).toList = (List.replicate n z).flatMap (·.cells.toList) := by
 apply List.ext_getElem?
 intro i
 by_cases h0 : z.cells.size = 0
 ·have : z.cells.toList = [] := by simpa using h0
  simp [madeCells, h0]
 ·have hpos : 0 < z.cells.size := by omega
  by_cases hi : i < n * z.cells.size
  ·have hd : i / z.cells.size < n := Nat.div_lt_of_lt_mul (by rwa [Nat.mul_comm] at hi)
   have hm := Nat.mod_lt i hpos
   have := flatMap_get z.cells.size (List.replicate n z) (i / z.cells.size) (i % z.cells.size) z z.cells[i % z.cells.size] (fun x hx => by rw [(List.mem_replicate.1 hx).2]) (by simp [hd]) (by simp [hm])
   rw [Nat.mul_comm, Nat.div_add_mod] at this
   rw [this]
   simp [madeCells, List.getElem?_range hi, hm]
  ·have h1 : (madeCells z.cells (n * z.cells.size)).toList.length = n * z.cells.size := by simp [madeCells]
   have h2 : ((List.replicate n z).flatMap (·.cells.toList)).length = n * z.cells.size := by simp [List.flatMap_replicate]
   rw [List.getElem?_eq_none (by omega), List.getElem?_eq_none (by omega)]
theorem eff_makeSlice (hH : HeapOk M φ H w) (hfr : ¬ H.us fr) {t : TypeId} {l c : V} {lv cv : Value} (hl : V.den (mutB M φ H) φ H w l lv) (hc : V.den (mutB M φ H) φ H w c cv)
 (h : makeSliceV P fr t l c fun v Δ => K v Δ []) : Eff M φ H w fr ((do let y <- Instr.makeSlice t lv cv; pure (Next.value y) : Sem Next).run P w) K := by
 unfold makeSliceV at h
 split at h
 ·rename_i e kl n kc m ht
  obtain ⟨rfl, h0, hpos, hb, hn, x, hx, hK⟩ := h
  simp only [V.den, D.den] at hl hc; subst hl; subst hc
  obtain ⟨i, z, ev, h1, h2, h3, h4, h5, h6⟩ := zeroD_den hH hx
  obtain ⟨k, rfl⟩ := Int.eq_ofNat_of_zero_le h0
  simp only [Int.toNat_natCast] at hb hn hK
  rw [bytesOf_info h1] at hb
  obtain ⟨w', r1, r2, r3⟩ := run_make_full (P := P) w w.heap.size t e i z (P.cellsOf e) (sliceT_spec ht) h1 h2 (cellsOf_info h1).symm kl kc k (by omega) (by simp [maxLen]; omega) (Nat.le_refl _)
  refine eff_new_arr hH hfr (keep_grown r3) hpos hK r1 (by simpa using r2) ⟨List.replicate k ev, ?_, ?_, ?_⟩
  ·rw [cellsOf_info h1, <- h3, madeCells_flat]
   simp [List.flatMap_replicate, h5]
  ·intro v hv
   rw [(List.mem_replicate.1 hv).2, h5, h3, cellsOf_info h1]
  ·clear r1 r2 hK hb hn
   induction k with
   | zero => rfl
   | succ k ih => exact ⟨ev, List.replicate k ev, rfl, h6, ih (by omega)⟩
 ·exact h.elim
theorem list_cells (hH : HeapOk M φ H w) {y : V} {yv : Value} {new : List D} {sz : Nat} (hy : V.den (mutB M φ H) φ H w y yv) (h : listV H.o y = some new) (hw : ∀ z ∈ new, z.cells.length = sz) :
 (yv = .slice none 0 0 /\ new = []) \/ ∃ a c evs, yv = .slice (some a) new.length c /\ D.dens (mutB M φ H) w new evs /\ (∀ ev ∈ evs, ev.cells.size = sz) /\
  (∀ j u, (evs.flatMap (·.cells.toList))[j]? = some u -> w.cell? (a.add j) = some u) /\ Flat (evs.flatMap (·.cells.toList)) := by
 have sizes : ∀ {evs : List Value}, D.dens (mutB M φ H) w new evs -> (∀ ev ∈ evs, ev.cells.size = sz) /\ Flat (evs.flatMap (·.cells.toList)) := by
  intro evs hd
  have key : ∀ ev ∈ evs, ev.cells.size = sz /\ Flat ev.cells.toList := by
   intro ev hev
   obtain ⟨i, hi⟩ := List.mem_iff_getElem?.1 hev
   have hl := D.dens_length _ _ hd
   have hlt : i < new.length := by rw [<- hl]; exact (List.getElem?_eq_some_iff.1 hi).1
   obtain ⟨v', hv', hdv⟩ := D.dens_get _ _ i new[i] hd (by simp [hlt])
   rw [hi] at hv'; injection hv' with hv'; subst hv'
   have h1 := D.den_cells _ _ hdv
   have h2 := D.dens_length _ _ h1.1
   rw [hw _ (List.getElem_mem hlt)] at h2
   exact ⟨by simpa using h2, h1.2⟩
  refine ⟨fun ev hev => (key ev hev).1, fun u hu => ?_⟩
  obtain ⟨ev, h1, h2⟩ := List.mem_flatMap.1 hu
  exact (key ev h1).2 u h2
 have of_sl : D.den (mutB M φ H) w (.sl new) yv -> (yv = .slice none 0 0 /\ new = []) \/ ∃ a c evs, yv = .slice (some a) new.length c /\ D.dens (mutB M φ H) w new evs /\ (∀ ev ∈ evs, ev.cells.size = sz) /\
  (∀ j u, (evs.flatMap (·.cells.toList))[j]? = some u -> w.cell? (a.add j) = some u) /\ Flat (evs.flatMap (·.cells.toList)) := by
  rintro ⟨base, len, cap, rfl, rfl, h2, h3, sz', h4⟩
  cases base with
  | none =>
    left
    have h5 := h3 rfl; subst h5
    have : new = [] := by simpa using h2
    subst this; exact ⟨rfl, rfl⟩
  | some a =>
    right
    obtain ⟨h5, h6⟩ := h4 a rfl
    by_cases hc0 : cap = 0
    ·have : new = [] := List.eq_nil_of_length_eq_zero (by omega)
     subst this
     exact ⟨a, cap, [], rfl, rfl, by simp, by simp, by simp [Flat]⟩
    replace h5 := h5 hc0
    have key : ∀ (es : List D) (i : Nat), (∀ z ∈ es, z.cells.length = sz) -> D.elems (mutB M φ H) w sz' a i es ->
     ∃ evs, D.dens (mutB M φ H) w es evs /\ ∀ j u, (evs.flatMap (·.cells.toList))[j]? = some u -> w.cell? (a.add (i * sz + j)) = some u := by
     intro es
     induction es with
     | nil => intro i _ _; exact ⟨[], rfl, by simp⟩
     | cons e es ih =>
       intro i hz h
       obtain ⟨⟨ev, k1, k2, k3⟩, k4⟩ := h
       obtain ⟨evs, g1, g2⟩ := ih (i + 1) (fun z hz' => hz z (by simp [hz'])) k4
       have k5 : ev.cells.size = sz := by
        have := D.dens_length _ _ (D.den_cells _ _ k3).1
        rw [hz e (by simp)] at this
        simpa using this
       refine ⟨ev :: evs, ⟨ev, evs, rfl, k3, g1⟩, fun j u hj => ?_⟩
       rw [List.flatMap_cons] at hj
       by_cases hlt : j < sz
       ·rw [List.getElem?_append_left (by simp; omega)] at hj
        have := (k2 j u (by simpa using hj)).1
        rw [add_add a h5] at this
        rwa [<- k1, k5] at this
       ·rw [List.getElem?_append_right (by simp; omega)] at hj
        have := g2 (j - sz) u (by simpa [k5] using hj)
        rwa [show (i + 1) * sz + (j - sz) = i * sz + j by rw [Nat.add_mul]; omega] at this
    obtain ⟨evs, g1, g2⟩ := key new 0 hw h6
    obtain ⟨s1, s2⟩ := sizes g1
    exact ⟨a, cap, evs, rfl, g1, s1, fun j u hj => by simpa using g2 j u hj, s2⟩
 unfold listV at h
 split at h
 ·rename_i es hD
  injection h with h; subst h
  cases y with
  | d x => simp only [toD, Option.some.injEq] at hD; subst hD; exact of_sl hy
  | nils => simp only [toD, Option.some.injEq, D.sl.injEq] at hD; subst hD; exact .inl ⟨hy, rfl⟩
  | osl id ep =>
    obtain ⟨_, _, hep⟩ := hy
    have hok := hH.ok id
    simp only [toD] at hD
    cases hx : H.o id with
    | no => simp [hx] at hD
    | row cs => simp [hx] at hD
    | map kt vt l => simp [hx] at hD
    | loop nf n env ps ica icb st pend => simp [hx] at hD
    | mfro l => simp [hx] at hD
    | mit l last => simp [hx] at hD
    | sit s pos => simp [hx] at hD
    | arr ep' ty sz' es' =>
      simp only [hx] at hD
      split at hD
      ·rename_i e; subst e
       simp only [Option.some.injEq, D.sl.injEq] at hD; subst hD
       simp only [ObjOk, hx] at hok
       have hv := (hep ep (by rw [hx]; rfl)).2 rfl
       obtain ⟨h0, xs, ⟨hl, hrow⟩, evs, rfl, h2, h3⟩ := hok
       obtain ⟨s1, s2⟩ := sizes h3
       rw [hv]
       rcases hrow with ⟨h4, h5⟩ | ⟨g, cap, cur, h4, _, h5, h6, h7, h8, h9⟩
       ·exact .inl ⟨h4, by simpa using h5⟩
       ·right
        refine ⟨_, cap, evs, h4, h3, s1, fun j u hj => ?_, s2⟩
        refine row_cell h5 j u ?_
        rw [<- h9, List.getElem?_take] at hj
        split at hj
        ·simpa using hj
        ·cases hj
      ·cases hD
    | fro ep' es' =>
      simp only [hx] at hD
      split at hD
      ·rename_i e; subst e
       simp only [Option.some.injEq, D.sl.injEq] at hD; subst hD
       simp only [ObjOk, hx] at hok
       have hv := (hep ep (by rw [hx]; rfl)).2 rfl
       rw [hv] at of_sl ⊢
       exact of_sl hok
      ·cases hD
  | agg cs => simp [toD] at hD
  | iface t x => simp [toD] at hD
  | csl es' => simp only [toD, Option.some.injEq, D.sl.injEq] at hD; subst hD; exact of_sl hy.1
  | mp id => simp only [toD] at hD; split at hD <;> simp at hD
  | _ => simp [toD] at hD
 ·cases h
theorem move_arr (hH : HeapOk M φ H w) {id ep : Nat} (hus : H.us id) {ty : TypeId} {sz : Nat} {es es' : List D} (ho : H.o id = .arr ep ty sz es) {val : Value} {xs' : List Value} {m : Nat -> Prop} (hk : Keep m w w')
 (hm : ∀ b, m b -> blk (φ id) = some b) (hval : ∀ b, blk val = some b -> blk (φ id) = some b \/ w.heap.size <= b) (hown : w'.ownsRow 0 ty sz val es'.length xs') (hd : RowDen (mutB M φ H) w sz es' xs') :
 let φ' := upd φ id val; let H' := H.put [(id, .arr (ep + 1) ty sz es')]
 HeapOk M φ' H' w' /\ Trans φ H w φ' H' w' /\ V.den (mutB M φ' H') φ' H' w' (.osl id (ep + 1)) val := by
 intro φ' H'
 have hl : (H.o id).live = true := by rw [ho]; rfl
 have ht : Trans φ H w φ' H' w' := {
  keep := ⟨hk.os, hk.tape, hk.output, hk.size, fun k h hlb => hk.block k h (fun e => hlb ⟨id, hl, hm k e⟩)⟩
  grow := by
   rintro b ⟨j, h1, h2⟩
   by_cases hj : j = id
   ·subst hj
    simp only [φ', upd_apply, if_true] at h2
    rcases hval b h2 with h3 | h3
    ·exact .inl ⟨j, hl, h3⟩
    ·exact .inr h3
   ·simp [H', φ', hj] at h1 h2; exact .inl ⟨j, h1, h2⟩
  rel := {
   us := fun j h => by simp [H', h]
   row := fun j hu hr => by
    by_cases hj : j = id
    ·subst hj; simp [H', Obj'.isRow] at hr
    ·simp [H', φ', hj] at hr ⊢; exact hr
   ep := fun j e' hu he => by
    by_cases hj : j = id
    ·subst hj; simp [H', Obj'.epoch] at he; subst he; exact ⟨ep, by rw [ho]; rfl, Nat.le_succ _, fun h => by omega⟩
    ·simp [H', φ', hj] at he ⊢; exact ⟨e', he, Nat.le_refl _⟩ } }
 have h0 := hH.ok id
 simp only [ObjOk, ho] at h0
 refine ⟨hH.of ht (· = id) (fun j h => ?_) (fun j h => ?_) (fun j h => ?_) (fun i j b hi hj bi bj => ?_) (fun b => ?_), ht, ?_, by simp [H'], fun e he => ?_⟩
 ·subst h
  unfold ObjOk
  simp only [H', put_one_o, upd_apply, if_true]
  exact ⟨h0.1, xs', by simpa [φ'] using hown, hd.mono (ht.blocks (M := M))⟩
 ·refine ⟨by simp [H', h], by simp [φ', h], fun hlj b hb => hk.block b (hH.ours b ⟨j, hlj, hb⟩).2 fun e => h ?_⟩
  exact hH.apart j id b hlj hl hb (hm b e)
 ·rw [put_one_us] at h
  have h1 : j ≠ id := fun e => h (.inr e)
  simp only [H', put_one_o, upd_apply, h1, if_false]
  exact hH.fresh j fun hu => h (.inl hu)
 ·by_cases e1 : i = id <;> by_cases e2 : j = id
  ·exact e1.trans e2.symm
  ·subst e1
   simp [H', φ', e2] at hj bj bi
   rcases hval b bi with h3 | h3
   ·exact hH.apart i j b hl hj h3 bj
   ·have := (hH.ours b ⟨j, hj, bj⟩).2; omega
  ·subst e2
   simp [H', φ', e1] at hi bi bj
   rcases hval b bj with h3 | h3
   ·exact hH.apart i j b hi hl bi h3
   ·have := (hH.ours b ⟨i, hi, bi⟩).2; omega
  ·simp [H', φ', e1, e2] at hi hj bi bj
   exact hH.apart i j b hi hj bi bj
 ·rintro ⟨j, h1, h2⟩
  by_cases hj : j = id
  ·subst hj; simp only [φ', upd_apply, if_true] at h2; exact (ownsRow_blk hown b h2).2
  ·simp [H', φ', hj] at h1 h2
   exact Nat.lt_of_lt_of_le (hH.ours b ⟨j, h1, h2⟩).2 hk.size
 ·rcases hown.2 with ⟨rfl, _⟩ | ⟨g, cap, cur, rfl, _⟩ <;> rfl
 ·simp [H', Obj'.epoch] at he
  subst he
  exact ⟨Nat.le_refl _, fun _ => by simp [φ']⟩
theorem RowDen.append {B : Nat -> Prop} {sz : Nat} {es new : List D} {xs : List Value} {evs : List Value} (h : RowDen B w sz es xs) (h1 : D.dens B w new evs) (h2 : ∀ ev ∈ evs, ev.cells.size = sz) :
 RowDen B w sz (es ++ new) (xs ++ evs.flatMap (·.cells.toList)) := by
 obtain ⟨evs0, rfl, h3, h4⟩ := h
 refine ⟨evs0 ++ evs, by simp, fun ev hev => ?_, D.dens_append _ _ _ _ h4 h1⟩
 rcases List.mem_append.1 hev with h | h
 ·exact h3 ev h
 ·exact h2 ev h
theorem flatMap_length {sz : Nat} : ∀ (evs : List Value), (∀ ev ∈ evs, ev.cells.size = sz) -> (evs.flatMap (·.cells.toList)).length = evs.length * sz
 | [], _ => by simp
 | x :: l, hx => by
   have := flatMap_length l fun v hv => hx v (by simp [hv])
   simp [this, hx x (by simp), Nat.add_mul, Nat.add_comm]
theorem eff_append (hH : HeapOk M φ H w) (hfr : ¬ H.us fr) {ts : Array TypeId} {ty0 : TypeId} {x y : V} {xv yv : Value} (hx : V.den (mutB M φ H) φ H w x xv) (hy : V.den (mutB M φ H) φ H w y yv)
 (h : appendV P H.o fr ts x y K) : Eff M φ H w fr ((do let z <- Builtin.append_ ts ty0 #[xv, yv]; pure (Next.value z) : Sem Next).run P w) K := by
 unfold appendV at h
 split at h
 ·rename_i t t' hts
  obtain ⟨rfl, h⟩ := h
  have hts : ts = #[t, t] := by apply Array.ext'; simpa using hts
  subst hts
  split at h
  ·rename_i e ht
   obtain ⟨new, hnew, hpos, hz, hw, h⟩ := h
   obtain ⟨zz, hz⟩ := Option.isSome_iff_exists.1 hz
   obtain ⟨i, z, g1, g2, g3, g4, _⟩ := zeroT_spec hz
   have hi := cellsOf_info g1
   have hbi := bytesOf_info g1
   have hlist := list_cells hH hy hnew hw
   split at h
   ·obtain ⟨h1, h2, hK⟩ := h
    simp only [V.den] at hx; subst hx
    rcases hlist with ⟨rfl, rfl⟩ | ⟨a, c, evs, rfl, k1, k2, k3, k4⟩
    ·refine eff_new_arr hH hfr (Keep.refl _ _) hpos hK (run_append_owned_none (P := P) w 0 t ty0 e i i.size (sliceT_spec ht) g1 _ 0 [] (World.ownsRow_nil w 0 e i.size)) ?_ ⟨[], rfl, by simp, rfl⟩
     exact World.ownsRow_nil w _ e _
    ·obtain ⟨v', w', r1, r2, r3, _⟩ := run_append_own (P := P) w w.heap.size t ty0 e i z (P.cellsOf e) (P.bytesOf e) (sliceT_spec ht) g1 g2 hi.symm hbi.symm (by rw [g3, hi]) hpos _ 0 [] (World.ownsRow_nil w _ e _) a new.length c
      (evs.flatMap fun v : Value => v.cells.toList) (by rw [flatMap_length evs k2, D.dens_length _ _ k1]) k3 (fun u hu => k4 u hu) (by simp [maxLen]; omega) (by simpa using h2) (Nat.le_refl _)
     refine eff_new_arr hH hfr (keep_grown r3) hpos hK r1 (by simpa using r2) ⟨evs, rfl, k2, k1⟩
   ·rename_i es
    obtain ⟨hw2, h⟩ := h
    have hxs := list_cells (sz := P.cellsOf e) hH (y := .d (.sl es)) (new := es) (show V.den (mutB M φ H) φ H w (.d (.sl es)) xv from hx.1) (by simp [listV, toD]) hw2
    obtain ⟨b, n, hxv⟩ := hx.2
    subst hxv
    split at h
    ·rename_i hn; subst hn
     have hsm : (sizeOf e).run P w = .ok i.size w := by rw [run_size g1, hi]
     have hr : (Builtin.append_ #[t, t] ty0 #[.slice b n n, yv]).run P w = .ok (.slice b n n) w := by
      rcases hlist with ⟨rfl, _⟩ | ⟨a, c, evs, rfl, _⟩
      ·cases b <;> simp [Builtin.append_, run_underlying (sliceT_spec ht), hsm, Builtin.lenOf, Builtin.firstCells, storeCells]
      ·cases b <;> simp [Builtin.append_, run_underlying (sliceT_spec ht), hsm, Builtin.lenOf, Builtin.firstCells, storeCells, loadCells, loadCellsFrom]
     exact Eff.same hH _ h (by simp only [Sem.run_bind, hr, Result.andThen_ok]; rfl) hx
    ·rename_i hne
     obtain ⟨h1, h2, hK⟩ := h
     rcases hlist with ⟨rfl, rfl⟩ | ⟨a, c, evs, rfl, k1, k2, k3, k4⟩
     ·exact absurd rfl hne
     ·have hlen : (evs.flatMap (·.cells.toList)).length = new.length * P.cellsOf e := by rw [flatMap_length evs k2, D.dens_length _ _ k1]
      rcases hxs with ⟨e1, rfl⟩ | ⟨a', c', evs', e1, q1, q2, q3, q4⟩
      ·injection e1 with e1 e2 e3
       subst e1; subst e2
       obtain ⟨v', w', r1, r2, r3, _⟩ := run_append_own (P := P) w w.heap.size t ty0 e i z (P.cellsOf e) (P.bytesOf e) (sliceT_spec ht) g1 g2 hi.symm hbi.symm (by rw [g3, hi]) hpos _ 0 [] (World.ownsRow_nil w _ e _) a new.length c
        (evs.flatMap fun v : Value => v.cells.toList) (by rw [flatMap_length evs k2, D.dens_length _ _ k1]) k3 (fun u hu => k4 u hu) (by simp [maxLen]; simp at h1; omega) (by simp at h2 ⊢; omega) (Nat.le_refl _)
       refine eff_new_arr hH hfr (keep_grown r3) hpos hK r1 (by simpa using r2) ⟨evs, rfl, k2, k1⟩
      ·injection e1 with e1 e2 e3
       subst e1; subst e2
       have hlen' : (evs'.flatMap (·.cells.toList)).length = es.length * P.cellsOf e := by rw [flatMap_length evs' q2, D.dens_length _ _ q1]
       have hpos2 : 0 < new.length := by cases new with | nil => exact absurd rfl hne | cons _ _ => simp
       have hmax : es.length + new.length <= maxLen := by simp [maxLen]; omega
       have hr := run_append_grow (P := P) w t ty0 e i z (sliceT_spec ht) g1 g2 a' es.length es.length _ (by rw [hlen', hi]) q3 a new.length c _ (by rw [hlen, hi]) k3 (by omega) (by omega)
        (growslice_fits (by omega) (by rw [<- hbi]; omega))
       refine eff_new_arr (xs := evs'.flatMap (·.cells.toList) ++ evs.flatMap (·.cells.toList)) hH hfr ?_ hpos hK hr ?_ ⟨evs' ++ evs, by simp, fun ev hev => ?_, D.dens_append _ _ _ _ q1 k1⟩
       ·exact ⟨rfl, rfl, rfl, by simp, fun k hk _ => RowKit.Below.heap_alloc w.drew _ k hk⟩
       ·have hge := grownCap_ge w (es.length + new.length) es.length e
        refine ⟨by rw [List.length_append, hlen', hlen, List.length_append, Nat.add_mul], .inr ⟨w.heap.size, _, _, by rw [List.length_append], Nat.le_refl _, heap_alloc_new w.drew _, by rw [List.length_append]; exact hge,
         grownCap_le_maxLen w _ _ e hmax, ?_, ?_⟩⟩
        ·simp only [Array.size_append, List.size_toArray, size_zeroCells, g3, hlen', hlen, hi, <- Nat.add_mul]
         congr 1
         omega
        ·have : (evs'.flatMap (·.cells.toList) ++ evs.flatMap (·.cells.toList)).length = (es ++ new).length * P.cellsOf e := by rw [List.length_append, hlen', hlen, List.length_append, Nat.add_mul]
         simp only [Array.toList_append]
         rw [<- this]
         exact List.take_left
       ·rcases List.mem_append.1 hev with hev | hev
        ·exact q2 ev hev
        ·exact k2 ev hev
   ·rename_i id ep
    split at h
    ·rename_i ep' ty sz es ho
     obtain ⟨rfl, rfl, rfl, h1, h2, hK⟩ := h
     obtain ⟨_, hus, hep⟩ := hx
     have hv := (hep ep (by rw [ho]; rfl)).2 rfl
     subst hv
     have hok := hH.ok id
     simp only [ObjOk, ho] at hok
     obtain ⟨_, xs, hown, hrd⟩ := hok
     have done : ∀ {val : Value} {w' : World} {m : Nat -> Prop} {evs : List Value}, (Builtin.append_ #[t, t] ty0 #[φ id, yv]).run P w = .ok val w' -> Keep m w w' -> (∀ b, m b -> blk (φ id) = some b) ->
      (∀ b, blk val = some b -> blk (φ id) = some b \/ w.heap.size <= b) -> w'.ownsRow 0 ty (P.cellsOf ty) val (es ++ new).length (xs ++ evs.flatMap (·.cells.toList)) -> D.dens (mutB M φ H) w new evs ->
      (∀ ev ∈ evs, ev.cells.size = P.cellsOf ty) -> Eff M φ H w fr ((do let z <- Builtin.append_ #[t, t] ty0 #[φ id, yv]; pure (Next.value z) : Sem Next).run P w) K := by
      intro val w' m evs r1 r2 r3 r4 r5 r6 r7
      obtain ⟨s1, s2, s3⟩ := move_arr hH hus ho r2 r3 r4 r5 (hrd.append r6 r7)
      exact ⟨_, _, _, _, _, _, _, hK, by simp only [Sem.run_bind, r1, Result.andThen_ok]; rfl, .inl rfl, s1, s2, s3, by simp [hus]⟩
     rcases hlist with ⟨rfl, rfl⟩ | ⟨a, c, evs, rfl, k1, k2, k3, k4⟩
     ·refine done (evs := []) (run_append_owned_none (P := P) w 0 t ty0 ty i (P.cellsOf ty) (sliceT_spec ht) g1 _ _ xs hown) (Keep.refl (fun _ => False) _) (fun _ h => h.elim) (fun b hb => .inl hb) (by simpa using hown) rfl (by simp)
     ·have hlen : (evs.flatMap (·.cells.toList)).length = new.length * P.cellsOf ty := by rw [flatMap_length evs k2, D.dens_length _ _ k1]
      have hmax : es.length + new.length <= maxLen := by simp [maxLen]; omega
      rcases hown.2 with ⟨h3, h4⟩ | ⟨g, cap, cur, h3, h4, h5, h6, h7, h8, h9⟩
      ·have hown' : w.ownsRow w.heap.size ty (P.cellsOf ty) (φ id) es.length xs := ⟨hown.1, .inl ⟨h3, h4⟩⟩
       obtain ⟨v', w', r1, r2, r3, _⟩ := run_append_own (P := P) w w.heap.size t ty0 ty i z (P.cellsOf ty) (P.bytesOf ty) (sliceT_spec ht) g1 g2 hi.symm hbi.symm (by rw [g3, hi]) hpos _ _ xs hown' a new.length c
        (evs.flatMap fun v : Value => v.cells.toList) hlen k3 (fun u hu => k4 u hu) hmax h2 (Nat.le_refl _)
       refine done r1 (keep_grown (by rw [h3] at r3; exact r3)) (fun _ h => h.elim) (fun b hb => .inr (ownsRow_blk r2 b hb).1) (by simpa using ownsRow_zero r2) k1 k2
      ·by_cases hroom : es.length + new.length <= cap
       ·rw [h3] at hown
        obtain ⟨w', r1, r2, r3⟩ := run_append_fits (P := P) w 0 t ty0 ty i (P.cellsOf ty) (sliceT_spec ht) g1 hi.symm g es.length cap xs hown a new.length c (evs.flatMap fun v : Value => v.cells.toList) hlen k3 (fun u hu => k4 u hu) hroom
        rw [<- h3] at r1
        exact done (m := (· = g)) r1 ⟨r3.os, r3.tape, r3.output, r3.size, fun k hk hne => r3.block k hk (by simpa using hne)⟩ (fun b hb => by subst hb; rw [h3]; rfl) (fun b hb => .inl (by rw [h3]; exact hb)) (by simpa using r2) k1 k2
       ·have holds : ∀ j u, xs[j]? = some u -> w.cell? ((⟨g, 0, none⟩ : Addr).add j) = some u := hown.cells (g := g) (by rw [h3]; rfl)
        have hr := run_append_grow (P := P) w t ty0 ty i z (sliceT_spec ht) g1 g2 ⟨g, 0, none⟩ es.length cap xs (by rw [hown.1, hi]) holds a new.length c _ (by rw [hlen, hi]) k3 (by omega) (by simp [maxLen] at hmax; omega)
         (growslice_fits (by omega) (by rw [<- hbi]; omega))
        rw [<- h3] at hr
        refine done (m := fun _ => False) hr ⟨rfl, rfl, rfl, by simp, fun k hk _ => RowKit.Below.heap_alloc w.drew _ k hk⟩ (fun _ h => h.elim) (fun b hb => .inr (by simp [blk] at hb; omega)) ?_ k1 k2
        have hge := grownCap_ge w (es.length + new.length) cap ty
        refine ⟨by rw [List.length_append, hown.1, hlen, List.length_append, Nat.add_mul], .inr ⟨w.heap.size, _, _, by rw [List.length_append], Nat.zero_le _, heap_alloc_new w.drew _, by rw [List.length_append]; exact hge,
         grownCap_le_maxLen w _ cap ty hmax, ?_, ?_⟩⟩
        ·simp only [Array.size_append, List.size_toArray, size_zeroCells, g3, hown.1, hlen, hi, <- Nat.add_mul]
         congr 1
         omega
        ·have : (xs ++ evs.flatMap (·.cells.toList)).length = (es ++ new).length * P.cellsOf ty := by rw [List.length_append, hown.1, hlen, List.length_append, Nat.add_mul]
         simp only [Array.toList_append, List.append_assoc]
         rw [<- List.append_assoc, <- this]
         exact List.take_left
    ·exact h.elim
   ·exact h.elim
  ·exact h.elim
 ·exact h.elim
end
end Go.Proofs.YtealblliddhgiaaGreat
namespace Go.Proofs.YtealblliddhgiaaGreat
section
variable {P : Program} {M : Nat -> Prop} {φ : Place} {H : Hp} {w w' : World} {fr : Nat} {K : V -> List (Nat × Obj') -> List Nat -> Prop}
theorem run_storeAt {t : TypeId} {b off : Nat} {ty : TypeId} {cur : Array Value} (hb : w.heap[b]? = some (.cells cur ty (0, 0))) (v : Value) (hs : v.cells.size = P.cellsOf t) (hpos : 0 < v.cells.size \/ (P.info? t).isSome = true)
 (hle : off + v.cells.size <= cur.size) (hf : Flat v.cells.toList) :
 (Instr.storeAt t (.pointer (some ⟨b, off, none⟩)) v).run P w = .ok () (w.setRow b (cur.toList.take off ++ v.cells.toList ++ cur.toList.drop (off + v.cells.size)).toArray) := by
 obtain ⟨i, hi⟩ : ∃ i, P.info? t = some i := by
  rcases hpos with hpos | hpos
  ·exact cells_pos_info (P := P) (e := t) (by omega)
  ·exact Option.isSome_iff_exists.1 hpos
 have := run_storeCells_at (P := P) b off ty v.cells.toList 0 cur w hb (by simpa using hle) (fun u hu => hf u hu)
 simp only [Nat.add_zero, Array.length_toList] at this
 simp [Instr.storeAt, Instr.sureAddr, storeVar, run_size hi, hs, this]
theorem flat_put {sz : Nat} : ∀ (evs : List Value) (i off : Nat) (ev ev' : Value) (us : List Value), (∀ x ∈ evs, x.cells.size = sz) -> evs[i]? = some ev -> off + us.length <= sz ->
 ev'.cells.toList = ev.cells.toList.take off ++ us ++ ev.cells.toList.drop (off + us.length) ->
 (evs.set i ev').flatMap (·.cells.toList) = (evs.flatMap (·.cells.toList)).take (i * sz + off) ++ us ++ (evs.flatMap (·.cells.toList)).drop (i * sz + off + us.length)
 | [], _, _, _, _, _, _, h, _, _ => by simp at h
 | x :: evs, 0, off, ev, ev', us, hs, h, hle, he => by
   simp at h; subst h
   have hx : x.cells.toList.length = sz := by simpa using hs x (by simp)
   simp only [List.set_cons_zero, List.flatMap_cons, Nat.zero_mul, Nat.zero_add, he]
   rw [List.take_append_of_le_length (by omega), List.drop_append_of_le_length (by omega)]
   simp [List.append_assoc]
 | x :: evs, i + 1, off, ev, ev', us, hs, h, hle, he => by
   have hx : x.cells.toList.length = sz := by simpa using hs x (by simp)
   have ih := flat_put evs i off ev ev' us (fun y hy => hs y (by simp [hy])) (by simpa using h) hle he
   simp only [List.set_cons_succ, List.flatMap_cons, ih]
   rw [show (i + 1) * sz + off = x.cells.toList.length + (i * sz + off) by rw [Nat.add_mul, hx]; omega, List.take_length_add_append,
    show x.cells.toList.length + (i * sz + off) + us.length = x.cells.toList.length + (i * sz + off + us.length) by omega, List.drop_length_add_append]
   simp [List.append_assoc]
theorem splice_take {α : Type} (l v : List α) (k m n : Nat) (hn : n = v.length) (h : k + n <= m) (hm : m <= l.length) : (l.take k ++ v ++ l.drop (k + n)).take m = (l.take m).take k ++ v ++ (l.take m).drop (k + n) := by
 subst hn
 apply List.ext_getElem?
 intro i
 simp only [List.getElem?_append, List.getElem?_take, List.getElem?_drop, List.length_append, List.length_take]
 repeat' split
 all_goals first
  | rfl
  | omega
  | (congr 1; omega)
  | (symm; apply List.getElem?_eq_none; omega)
  | (apply List.getElem?_eq_none; omega)
  | skip
theorem put_elem {B : Nat -> Prop} {e e' : D} {off : Nat} {ds : List D} (h : e.put off ds = some e') {ev : Value} (he : D.den B w e ev) {us : List Value} (hu : D.dens B w ds us) (hf : Flat us) :
 ∃ ev', D.den B w e' ev' /\ ev'.cells.toList = ev.cells.toList.take off ++ us ++ ev.cells.toList.drop (off + us.length) /\ off + us.length <= ev.cells.size := by
 have hl := D.dens_length _ _ hu
 rcases D.den_one _ _ he with ⟨cs, a, rfl, rfl⟩ | ⟨h1, h2, h3⟩
 ·obtain ⟨a', ha, h4, h5⟩ := he
  injection ha with ha; subst ha
  have hl4 := D.dens_length _ _ h4
  simp only [Array.length_toList] at hl4
  simp only [D.put] at h
  split at h
  ·rename_i hle
   injection h with h; subst h
   refine ⟨.agg (a.toList.take off ++ us ++ a.toList.drop (off + us.length)).toArray, ⟨_, rfl, ?_, ?_⟩, by simp [Value.cells], by simp [Value.cells]; omega⟩
   ·simp only
    rw [hl]
    exact D.dens_append _ _ _ _ (D.dens_append _ _ _ _ (D.dens_take _ _ _ h4) hu) (D.dens_drop _ _ _ h4)
   ·intro x hx
    simp only [List.mem_append] at hx
    rcases hx with (hx | hx) | hx
    ·exact h5 x (List.mem_of_mem_take hx)
    ·exact hf x hx
    ·exact h5 x (List.mem_of_mem_drop hx)
  ·cases h
 ·have hput : off = 0 /\ ∃ u, ds = [u] /\ e' = u := by
   cases e <;> simp only [D.put] at h <;> first
    | (split at h
       ·rename_i u; injection h with h; exact ⟨rfl, u, rfl, h.symm⟩
       ·cases h)
    | (simp [D.cells] at h2; done)
    | skip
   obtain ⟨a, rfl, _⟩ := he
   simp [Value.oneCell'] at h1
  obtain ⟨rfl, u, rfl, rfl⟩ := hput
  obtain ⟨x, xs, rfl, h4, h5⟩ := hu
  simp only [D.dens] at h5; subst h5
  have hx : x.cells = #[x] := by have := hf x (by simp); cases x <;> simp_all [Value.oneCell', Value.cells]
  exact ⟨x, h4, by simp [hx, h3], by simp [h3]⟩
theorem eff_store (hH : HeapOk M φ H w) {t : TypeId} {x v : V} {xv vv : Value} (hx : V.den (mutB M φ H) φ H w x xv) (hv : V.den (mutB M φ H) φ H w v vv)
 (h : storeV P H.o t x v fun Δ rd => K (.tup []) Δ rd) : Eff M φ H w fr ((do Instr.storeAt t xv vv; pure Next.skip : Sem Next).run P w) K := by
 unfold storeV at h
 split at h
 ·rename_i id off
  split at h
  ·rename_i cs ho
   obtain ⟨cs', h1, hK⟩ := h
   obtain ⟨_, hus, hp⟩ := hx
   obtain ⟨b, hφ, rfl⟩ := hp (by rw [ho]; rfl)
   have hok := hH.ok id
   simp only [ObjOk, ho] at hok
   obtain ⟨b', carr, ty, g1, g2, g3, g4⟩ := hok
   rw [hφ] at g1; simp at g1; subst g1
   unfold rowSet at h1
   split at h1
   ·rename_i us hc
    split at h1
    ·rename_i hle
     injection h1 with h1; subst h1
     obtain ⟨k1, k2⟩ := V.den_one _ _ _ hc hv
     have l1 := V.dens_length _ _ k1
     have l2 := V.dens_length _ _ g3
     simp only [Array.length_toList] at l1 l2
     have hr := run_storeAt (P := P) (t := t) (off := off) g2 vv (by omega) (hle.2.1.imp (fun h => by omega) (fun h => h)) (by omega) k2
     obtain ⟨t1, t2⟩ := turn_row (cs' := cs.take off ++ us ++ cs.drop (off + us.length)) hH hus ho hφ g2 (carr.toList.take off ++ vv.cells.toList ++ carr.toList.drop (off + vv.cells.size)).toArray (by
      simp only
      rw [l1]
      exact V.dens_append _ _ _ _ (V.dens_append _ _ _ _ (V.dens_take _ _ _ g3) k1) (V.dens_drop _ _ _ g3)) (by
      intro u hu
      simp only [List.mem_append] at hu
      rcases hu with (hu | hu) | hu
      ·exact g4 u (List.mem_of_mem_take hu)
      ·exact k2 u hu
      ·exact g4 u (List.mem_of_mem_drop hu))
     exact ⟨_, _, _, _, _, _, _, hK, by simp only [Sem.run_bind, hr, Result.andThen_ok]; rfl, .inr ⟨rfl, rfl⟩, t1, t2, ⟨#[], rfl, rfl⟩, by simp [hus]⟩
    ·cases h1
   ·cases h1
  ·exact h.elim
 ·rename_i id ep i sz' off
  split at h
  ·rename_i ep' ty sz es ho
   obtain ⟨rfl, rfl, e, he, y, hy, hyl, hyp, hne, e', hput, hK⟩ := h
   obtain ⟨_, hus, hp⟩ := hx
   obtain ⟨b, n, c, hφ, rfl⟩ := (hp ep (by rw [ho]; rfl)).2 rfl
   obtain ⟨f1, f2, f3, f4, f5⟩ := freezes hH v.ids (ids_used v _ hv)
   have hni : id ∉ v.ids := fun hm => by have := List.all_eq_true.1 hne id hm; simp at this
   have ho1 := (f4 id hni).trans ho
   have hvd := toD_den f1 v y vv f3 hy (V.den_mono f2 _ _ hv)
   obtain ⟨k1, k2⟩ := D.den_cells _ _ hvd
   have l1 := D.dens_length _ _ k1
   simp only [Array.length_toList] at l1
   have hok := f1.ok id
   simp only [ObjOk, ho1] at hok
   obtain ⟨h0, xs, ⟨hl, hrow⟩, evs, rfl, h2, h3⟩ := hok
   rcases hrow with ⟨h4, h5⟩ | ⟨g, cap, cur, h4, h5, h6, h7, h8, h9, h10⟩
   ·rw [hφ] at h4; simp at h4
   ·rw [hφ] at h4; simp at h4
    obtain ⟨rfl, rfl, rfl⟩ := h4
    obtain ⟨ev, hev, hde⟩ := D.dens_get _ _ _ _ h3 he
    obtain ⟨ev', p1, p2, p3⟩ := put_elem hput hde k1 k2
    simp only [Array.length_toList] at p2 p3
    have hevs := h2 ev (List.mem_of_getElem? hev)
    have hilt : i < es.length := (List.getElem?_eq_some_iff.1 he).1
    have hin : i * sz' + sz' <= es.length * sz' := by
     rw [<- Nat.succ_mul]; exact Nat.mul_le_mul_right _ hilt
    have hcur : es.length * sz' <= cur.size := by rw [h9]; exact Nat.mul_le_mul_right _ h7
    have hr := run_storeAt (P := P) (t := t) (off := i * sz' + off) h6 vv (by omega) (.inl (by omega)) (by omega) k2
    have hfp := flat_put evs i off ev ev' vv.cells.toList h2 hev (by simpa using (by omega : off + vv.cells.size <= sz')) (by simpa using p2)
    simp only [Array.length_toList] at hfp
    have hlive : ((H.put (frz H.o v.ids)).o id).live = true := by rw [ho1]; rfl
    have hbl : blk (φ id) = some b := by rw [hφ]; rfl
    have hus1 := (f5 id).2 hus
    have ht := trans_turn (w := w) (w' := w.setRow b (cur.toList.take (i * sz' + off) ++ vv.cells.toList ++ cur.toList.drop (i * sz' + off + vv.cells.size)).toArray) hus1 hlive hbl (keep_setRow w b _) (.arr ep ty sz' (es.set i e')) (by rw [ho1]; rfl) (by rw [ho1]; rfl)
    have hh := heap_turn f1 hus1 hlive hbl (keep_setRow w b (cur.toList.take (i * sz' + off) ++ vv.cells.toList ++ cur.toList.drop (i * sz' + off + vv.cells.size)).toArray) (.arr ep ty sz' (es.set i e')) (by rw [ho1]; rfl) (by rw [ho1]; rfl) (by
     unfold ObjOk
     simp only [put_one_o, upd_apply, if_true]
     refine ⟨h0, (evs.set i ev').flatMap (·.cells.toList), ⟨?_, .inr ⟨b, c, _, by rw [List.length_set]; exact hφ, Nat.zero_le _, setRow_heap w b cur _ ty (0, 0) h6, by rw [List.length_set]; exact h7, h8, ?_, ?_⟩⟩, evs.set i ev', rfl, ?_, ?_⟩
     ·rw [hfp, List.length_set]
      simp only [List.length_append, List.length_take, List.length_drop, Array.length_toList, hl]
      omega
     ·simp only [List.size_toArray, List.length_append, List.length_take, List.length_drop, Array.length_toList]
      omega
     ·rw [hfp, List.length_set, <- h10]
      exact splice_take cur.toList vv.cells.toList _ _ _ (by simp) (by omega) (by simpa using hcur)
     ·intro x hx
      rcases List.mem_or_eq_of_mem_set hx with hx | rfl
      ·exact h2 x hx
      ·have := congrArg List.length p2
       simp only [Array.length_toList, List.length_append, List.length_take, List.length_drop] at this
       omega
     ·exact D.dens_mono (ht.blocks (M := M)) _ _ (D.dens_set i es evs e' ev' h3 p1))
    rw [<- put_append] at hh ht
    refine ⟨_, _, _, _, _, _, _, hK, by simp only [Sem.run_bind, hr, Result.andThen_ok]; rfl, .inr ⟨rfl, rfl⟩, hh, f2.trans ht, ⟨#[], rfl, rfl⟩, fun j hj => ?_⟩
    simp only [List.map_append, List.mem_append, List.map_cons, List.map_nil, List.mem_singleton] at hj
    rcases hj with hj | hj
    ·left
     refine ids_used v _ hv j ?_
     rw [frz_eq] at hj
     simpa [Function.comp_def] using hj
    ·exact .inl (hj ▸ hus)
  ·exact h.elim
 ·exact h.elim
end
end Go.Proofs.YtealblliddhgiaaGreat
namespace Go.Proofs.YtealblliddhgiaaGreat
section
variable {P : Program} {B : Nat -> Prop} {w : World}
theorem run_partD {t : TypeId} {xs : List D} {off : Nat} {x : D} (h : partD P t xs off = some x) {arr : Array Value} (hd : D.dens B w xs arr.toList) (hf : Flat arr.toList) :
 ∃ u, (∀ w', (part t arr off).run P w' = .ok u w') /\ D.den B w x u := by
 unfold partD at h
 split at h
 ·rename_i ha
  split at h
  ·rename_i hl
   injection h with h; subst h
   obtain ⟨i, hi⟩ := aggT_info ha
   refine ⟨.agg (arr.extract off (off + P.cellsOf t)), fun w' => ?_, _, rfl, ?_, ?_⟩
   ·simp only [part, Sem.run_bind, aggT_true ha w', Result.andThen_ok, if_true, run_size hi w', Sem.run_pure]
   ·have := D.dens_take (P.cellsOf t) _ _ (D.dens_drop off _ _ hd)
    simpa [Array.toList_extract, List.extract] using this
   ·intro u hu
    simp only [Array.toList_extract, List.extract] at hu
    exact hf u (List.mem_of_mem_drop (List.mem_of_mem_take hu))
  ·cases h
 ·rename_i ha
  obtain ⟨u, hu, hdu⟩ := D.dens_get _ _ _ _ hd h
  refine ⟨u, fun w' => ?_, hdu⟩
  have hu' : arr[off]? = some u := by simpa using hu
  simp only [part, Sem.run_bind, aggT_false ha w', Result.andThen_ok, Bool.false_eq_true, if_false, hu', Sem.run_pure]
 ·cases h
theorem andO_some {a b : Option Bool} {r : Bool} (h : andO a b = some r) : ∃ x y, a = some x /\ b = some y /\ r = (x && y) := by
 unfold andO at h
 split at h
 ·injection h with h; exact ⟨_, _, rfl, rfl, h.symm⟩
 ·cases h
def EqD (P : Program) (m : Nat) (t : TypeId) (x y : D) (r : Bool) : Prop :=
 ∀ (B : Nat -> Prop) (w : World) (u v : Value), D.den B w x u -> D.den B w y v -> (Op.equalIn m t u v).run P w = .ok r w
theorem eqFields_run {d m : Nat} (IH : ∀ t x y r, eqT P d t x y = some r -> EqD P m t x y r) {xs ys : List D} {asz bs : Array Value} (ha : D.dens B w xs asz.toList) (hfa : Flat asz.toList) (hb : D.dens B w ys bs.toList) (hfb : Flat bs.toList) :
 ∀ (fs : List Field) (r : Bool), (∀ f ∈ fs, f.name ≠ "_") -> fldsE (fun u off => eq2 (eqT P d u) (partD P u xs off) (partD P u ys off)) (fs.map fun f => (f.type, f.offset)) = some r ->
  (Op.eqFields m asz bs fs).run P w = .ok r w
 | [], r, _, h => by simp [fldsE] at h; subst h; simp [Op.eqFields]
 | f :: fs, r, hn, h => by
   obtain ⟨x, y, h1, h2, rfl⟩ := andO_some h
   simp only [eq2] at h1
   split at h1
   ·rename_i p q hp hq
    obtain ⟨u, k1, k2⟩ := run_partD hp ha hfa
    obtain ⟨v, k3, k4⟩ := run_partD hq hb hfb
    have h3 := IH _ _ _ _ h1 B w u v k2 k4
    have h4 := eqFields_run IH ha hfa hb hfb fs y (fun g hg => hn g (by simp [hg])) h2
    have hne := hn f (by simp)
    simp only [Op.eqFields, hne, ne_eq, not_false_eq_true, if_true, Sem.run_bind, k1, k3, h3, Result.andThen_ok]
    cases x
    ·simp
    ·simpa using h4
   ·cases h1
theorem eqItems_run {d m : Nat} {e : TypeId} (IH : ∀ t x y r, eqT P d t x y = some r -> EqD P m t x y r) {xs ys : List D} {asz bs : Array Value} (ha : D.dens B w xs asz.toList) (hfa : Flat asz.toList) (hb : D.dens B w ys bs.toList) (hfb : Flat bs.toList) :
 ∀ (n i : Nat) (r : Bool), itmsE (fun i => eq2 (eqT P d e) (partD P e xs (i * P.cellsOf e)) (partD P e ys (i * P.cellsOf e))) n i = some r ->
  (Op.eqItems m e (P.cellsOf e) asz bs (List.range' i n)).run P w = .ok r w
 | 0, i, r, h => by simp [itmsE] at h; subst h; simp [Op.eqItems]
 | n + 1, i, r, h => by
   obtain ⟨x, y, h1, h2, rfl⟩ := andO_some h
   simp only [eq2] at h1
   split at h1
   ·rename_i p q hp hq
    obtain ⟨u, k1, k2⟩ := run_partD hp ha hfa
    obtain ⟨v, k3, k4⟩ := run_partD hq hb hfb
    have h3 := IH _ _ _ _ h1 B w u v k2 k4
    have h4 := eqItems_run IH ha hfa hb hfb n (i + 1) y h2
    simp only [List.range'_succ, Op.eqItems, Sem.run_bind, k1, k3, h3, Result.andThen_ok]
    cases x
    ·simp
    ·simpa using h4
   ·cases h1
theorem eqT_run : ∀ (d : Nat) (t : TypeId) (x y : D) (r : Bool), eqT P d t x y = some r -> ∀ m, d <= m -> EqD P m t x y r
 | 0, _, _, _, _, h => by simp [eqT] at h
 | d + 1, t, x, y, r, h => by
   intro m hm B w u v hu hv
   obtain ⟨m, rfl⟩ : ∃ k, m = k + 1 := ⟨m - 1, by omega⟩
   have IH : ∀ t x y r, eqT P d t x y = some r -> EqD P m t x y r := fun t x y r h => eqT_run d t x y r h m (by omega)
   unfold eqT at h
   cases hs : eqShape P t with
   | none => rw [hs] at h; cases h
   | some sh =>
     rw [hs] at h
     unfold eqShape at hs
     cases ht : P.underlying t with
     | none => rw [ht] at hs; cases hs
     | some td =>
       rw [ht] at hs
       cases td <;> simp only [Option.some.injEq, reduceCtorEq] at hs
       case int k0 =>
        subst hs
        simp only at h
        split at h
        ·split at h
         ·rename_i e; subst e; injection h with h; subst h
          simp only [D.den] at hu hv; subst hu; subst hv
          exact run_equalIn_int w m t _ _ _ _ ht
         ·cases h
        ·cases h
       case bool =>
        subst hs
        simp only at h
        split at h
        ·injection h with h; subst h
         simp only [D.den] at hu hv; subst hu; subst hv
         exact run_equalIn_bool' w m t _ _ ht
        ·cases h
       case string =>
        subst hs
        simp only at h
        split at h
        ·injection h with h; subst h
         obtain ⟨s1, rfl, rfl⟩ := hu
         obtain ⟨s2, rfl, rfl⟩ := hv
         rw [run_equalIn_string w m t _ _ ht]
         rw [ByteArray.toList_eq, ByteArray.toList_eq]
        ·cases h
       case struct fs =>
        split at hs
        ·rename_i hc
         injection hs with hs; subst hs
         simp only [Bool.and_eq_true, Bool.not_eq_true', List.all_eq_true, bne_iff_ne] at hc
         simp only at h
         split at h
         ·obtain ⟨asz, rfl, ha, hfa⟩ := hu
          obtain ⟨bs, rfl, hb, hfb⟩ := hv
          have hfs : P.fieldsOf t = fs := by simp [Program.fieldsOf, ht]
          rw [run_equalIn_struct w m t asz bs (by rw [hfs]; exact ht) hc.1, hfs]
          exact eqFields_run IH ha hfa hb hfb _ _ hc.2 h
         ·cases h
        ·cases hs
       case array n e =>
        split at hs
        ·rename_i hc
         injection hs with hs; subst hs
         simp only at h
         split at h
         ·obtain ⟨asz, rfl, ha, hfa⟩ := hu
          obtain ⟨bs, rfl, hb, hfb⟩ := hv
          obtain ⟨i, hi⟩ := Option.isSome_iff_exists.1 hc
          rw [run_equalIn_array w m asz bs ht hi, List.range_eq_range']
          exact eqItems_run IH ha hfa hb hfb _ _ _ h
         ·cases h
        ·cases hs
theorem eqT_at {t : TypeId} {asz bs : List D} {r : Bool} (h : eqT P 100 t (.agg asz) (.agg bs) = some r) (hg : P.eqGuardType P.depth t = false) : EqlAt P t (.agg asz) (.agg bs) r := by
 intro B w u v hu hv
 refine ⟨eqT_run 100 t _ _ _ h _ (by decide) B w u v hu hv, fun op a b => ?_⟩
 obtain ⟨asz, rfl, _⟩ := hu
 obtain ⟨bs, rfl, _⟩ := hv
 exact run_eqGuard_agg w op t a b asz bs hg
end
end Go.Proofs.YtealblliddhgiaaGreat
