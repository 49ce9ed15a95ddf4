/-
  STORES; AND EVERY OPERATION THAT CALLS NO FUNCTION: 'sop_sound'. Conditions: the heap is as it should be, the temporaries mean what the state says, the new object's number is free.
-/
import Derived.Test.YtaafchgfibbmhaaCoreH
namespace Go.Proofs.Ytaafchgfibbmhaa
section
variable {P : Program} {M : Nat → Prop} {φ : Place} {H : Hp} {w w' : World} {fr : Nat} {K : V → List (Nat × Obj') → List Nat → Prop}

theorem run_storeAt {t : TypeId} {b off : Nat} {ty : TypeId} {cur : Array Value} (hb : w.heap[b]? = some (.cells cur ty (0, 0))) (v : Value) (hs : v.cells.size = P.cellsOf t) (hpos : 0 < v.cells.size)
    (hle : off + v.cells.size ≤ cur.size) (hf : Flat v.cells.toList) :
    (Instr.storeAt t (.pointer (some ⟨b, off, none⟩)) v).run P w = .ok () (w.setRow b (cur.toList.take off ++ v.cells.toList ++ cur.toList.drop (off + v.cells.size)).toArray) := by
  obtain ⟨i, hi⟩ := cells_pos_info (P := P) (e := t) (by omega)
  have := run_storeCells_at (P := P) b off ty v.cells.toList 0 cur w hb (by simpa using hle) (fun u hu => hf u hu)
  simp only [Nat.add_zero, Array.length_toList] at this
  simp [Instr.storeAt, Instr.sureAddr, storeVar, run_size hi, hs, this]

theorem flat_put {sz : Nat} : ∀ (evs : List Value) (i off : Nat) (ev ev' : Value) (us : List Value), (∀ x ∈ evs, x.cells.size = sz) → evs[i]? = some ev → off + us.length ≤ sz →
    ev'.cells.toList = ev.cells.toList.take off ++ us ++ ev.cells.toList.drop (off + us.length) →
    (evs.set i ev').flatMap (·.cells.toList) = (evs.flatMap (·.cells.toList)).take (i * sz + off) ++ us ++ (evs.flatMap (·.cells.toList)).drop (i * sz + off + us.length)
  | [], _, _, _, _, _, _, h, _, _ => by simp at h
  | x :: evs, 0, off, ev, ev', us, hs, h, hle, he => by
    simp at h; subst h
    have hx : x.cells.toList.length = sz := by simpa using hs x (by simp)
    simp only [List.set_cons_zero, List.flatMap_cons, Nat.zero_mul, Nat.zero_add, he]
    rw [List.take_append_of_le_length (by omega), List.drop_append_of_le_length (by omega)]
    simp [List.append_assoc]
  | x :: evs, i + 1, off, ev, ev', us, hs, h, hle, he => by
    have hx : x.cells.toList.length = sz := by simpa using hs x (by simp)
    have ih := flat_put evs i off ev ev' us (fun y hy => hs y (by simp [hy])) (by simpa using h) hle he
    simp only [List.set_cons_succ, List.flatMap_cons, ih]
    rw [show (i + 1) * sz + off = x.cells.toList.length + (i * sz + off) by rw [Nat.add_mul, hx]; omega, List.take_length_add_append,
      show x.cells.toList.length + (i * sz + off) + us.length = x.cells.toList.length + (i * sz + off + us.length) by omega, List.drop_length_add_append]
    simp [List.append_assoc]

theorem splice_take {α : Type} (l v : List α) (k m n : Nat) (hn : n = v.length) (h : k + n ≤ m) (hm : m ≤ l.length) : (l.take k ++ v ++ l.drop (k + n)).take m = (l.take m).take k ++ v ++ (l.take m).drop (k + n) := by
  subst hn
  apply List.ext_getElem?
  intro i
  simp only [List.getElem?_append, List.getElem?_take, List.getElem?_drop, List.length_append, List.length_take]
  repeat' split
  all_goals first
    | rfl
    | omega
    | (congr 1; omega)
    | (symm; apply List.getElem?_eq_none; omega)
    | (apply List.getElem?_eq_none; omega)
    | skip

theorem put_elem {B : Nat → Prop} {e e' : D} {off : Nat} {ds : List D} (h : e.put off ds = some e') {ev : Value} (he : D.den B w e ev) {us : List Value} (hu : D.dens B w ds us) (hf : Flat us) :
    ∃ ev', D.den B w e' ev' ∧ ev'.cells.toList = ev.cells.toList.take off ++ us ++ ev.cells.toList.drop (off + us.length) ∧ off + us.length ≤ ev.cells.size := by
  have hl := D.dens_length _ _ hu
  rcases D.den_one _ _ he with ⟨cs, a, rfl, rfl⟩ | ⟨h1, h2, h3⟩
  · obtain ⟨a', ha, h4, h5⟩ := he
    injection ha with ha; subst ha
    have hl4 := D.dens_length _ _ h4
    simp only [Array.length_toList] at hl4
    simp only [D.put] at h
    split at h
    · rename_i hle
      injection h with h; subst h
      refine ⟨.agg (a.toList.take off ++ us ++ a.toList.drop (off + us.length)).toArray, ⟨_, rfl, ?_, ?_⟩, by simp [Value.cells], by simp [Value.cells]; omega⟩
      · simp only
        rw [hl]
        exact D.dens_append _ _ _ _ (D.dens_append _ _ _ _ (D.dens_take _ _ _ h4) hu) (D.dens_drop _ _ _ h4)
      · intro x hx
        simp only [List.mem_append] at hx
        rcases hx with (hx | hx) | hx
        · exact h5 x (List.mem_of_mem_take hx)
        · exact hf x hx
        · exact h5 x (List.mem_of_mem_drop hx)
    · cases h
  · have hput : off = 0 ∧ ∃ u, ds = [u] ∧ e' = u := by
      cases e <;> simp only [D.put] at h <;> first
        | (split at h
           · rename_i u; injection h with h; exact ⟨rfl, u, rfl, h.symm⟩
           · cases h)
        | (simp [D.cells] at h2; done)
        | skip
      obtain ⟨a, rfl, _⟩ := he
      simp [Value.oneCell'] at h1
    obtain ⟨rfl, u, rfl, rfl⟩ := hput
    obtain ⟨x, xs, rfl, h4, h5⟩ := hu
    simp only [D.dens] at h5; subst h5
    have hx : x.cells = #[x] := by have := hf x (by simp); cases x <;> simp_all [Value.oneCell', Value.cells]
    exact ⟨x, h4, by simp [hx, h3], by simp [h3]⟩

theorem eff_store (hH : HeapOk M φ H w) {t : TypeId} {x v : V} {xv vv : Value} (hx : V.den (mutB M φ H) φ H w x xv) (hv : V.den (mutB M φ H) φ H w v vv)
    (h : storeV P H.o t x v fun Δ rd => K (.tup []) Δ rd) : Eff M φ H w fr ((do Instr.storeAt t xv vv; pure Next.skip : Sem Next).run P w) K := by
  unfold storeV at h
  split at h
  · rename_i id off
    split at h
    · rename_i cs ho
      obtain ⟨cs', h1, hK⟩ := h
      obtain ⟨_, hus, hp⟩ := hx
      obtain ⟨b, hφ, rfl⟩ := hp (by rw [ho]; rfl)
      have hok := hH.ok id
      simp only [ObjOk, ho] at hok
      obtain ⟨b', carr, ty, g1, g2, g3, g4⟩ := hok
      rw [hφ] at g1; simp at g1; subst g1
      unfold rowSet at h1
      split at h1
      · rename_i us hc
        split at h1
        · rename_i hle
          injection h1 with h1; subst h1
          obtain ⟨k1, k2⟩ := V.den_one _ _ _ hc hv
          have l1 := V.dens_length _ _ k1
          have l2 := V.dens_length _ _ g3
          simp only [Array.length_toList] at l1 l2
          have hr := run_storeAt (P := P) (t := t) (off := off) g2 vv (by omega) (by omega) (by omega) k2
          obtain ⟨t1, t2⟩ := turn_row (cs' := cs.take off ++ us ++ cs.drop (off + us.length)) hH hus ho hφ g2 (carr.toList.take off ++ vv.cells.toList ++ carr.toList.drop (off + vv.cells.size)).toArray (by
            simp only
            rw [l1]
            exact V.dens_append _ _ _ _ (V.dens_append _ _ _ _ (V.dens_take _ _ _ g3) k1) (V.dens_drop _ _ _ g3)) (by
            intro u hu
            simp only [List.mem_append] at hu
            rcases hu with (hu | hu) | hu
            · exact g4 u (List.mem_of_mem_take hu)
            · exact k2 u hu
            · exact g4 u (List.mem_of_mem_drop hu))
          exact ⟨_, _, _, _, _, _, _, hK, by simp only [Sem.run_bind, hr, Result.andThen_ok]; rfl, .inr ⟨rfl, rfl⟩, t1, t2, ⟨#[], rfl, rfl⟩, by simp [hus]⟩
        · cases h1
      · cases h1
    · exact h.elim
  · rename_i id ep i sz' off
    split at h
    · rename_i ep' ty sz es ho
      obtain ⟨rfl, rfl, e, he, y, hy, hyl, hyp, hne, e', hput, hK⟩ := h
      obtain ⟨_, hus, hp⟩ := hx
      obtain ⟨b, n, c, hφ, rfl⟩ := (hp ep (by rw [ho]; rfl)).2 rfl
      obtain ⟨f1, f2, f3, f4, f5⟩ := freezes hH v.ids (ids_used v _ hv)
      have hni : id ∉ v.ids := fun hm => by have := List.all_eq_true.1 hne id hm; simp at this
      have ho1 := (f4 id hni).trans ho
      have hvd := toD_den f1 v y vv f3 hy (V.den_mono f2 _ _ hv)
      obtain ⟨k1, k2⟩ := D.den_cells _ _ hvd
      have l1 := D.dens_length _ _ k1
      simp only [Array.length_toList] at l1
      have hok := f1.ok id
      simp only [ObjOk, ho1] at hok
      obtain ⟨h0, xs, ⟨hl, hrow⟩, evs, rfl, h2, h3⟩ := hok
      rcases hrow with ⟨h4, h5⟩ | ⟨g, cap, cur, h4, h5, h6, h7, h8, h9, h10⟩
      · rw [hφ] at h4; simp at h4
      · rw [hφ] at h4; simp at h4
        obtain ⟨rfl, rfl, rfl⟩ := h4
        obtain ⟨ev, hev, hde⟩ := D.dens_get _ _ _ _ h3 he
        obtain ⟨ev', p1, p2, p3⟩ := put_elem hput hde k1 k2
        simp only [Array.length_toList] at p2 p3
        have hevs := h2 ev (List.mem_of_getElem? hev)
        have hilt : i < es.length := (List.getElem?_eq_some_iff.1 he).1
        have hin : i * sz' + sz' ≤ es.length * sz' := by
          rw [← Nat.succ_mul]; exact Nat.mul_le_mul_right _ hilt
        have hcur : es.length * sz' ≤ cur.size := by rw [h9]; exact Nat.mul_le_mul_right _ h7
        have hr := run_storeAt (P := P) (t := t) (off := i * sz' + off) h6 vv (by omega) (by omega) (by omega) k2
        have hfp := flat_put evs i off ev ev' vv.cells.toList h2 hev (by simpa using (by omega : off + vv.cells.size ≤ sz')) (by simpa using p2)
        simp only [Array.length_toList] at hfp
        have hlive : ((H.put (frz H.o v.ids)).o id).live = true := by rw [ho1]; rfl
        have hbl : blk (φ id) = some b := by rw [hφ]; rfl
        have hus1 := (f5 id).2 hus
        have ht := trans_turn (w := w) (w' := w.setRow b (cur.toList.take (i * sz' + off) ++ vv.cells.toList ++ cur.toList.drop (i * sz' + off + vv.cells.size)).toArray) hus1 hlive hbl (keep_setRow w b _) (.arr ep ty sz' (es.set i e')) (by rw [ho1]; rfl) (by rw [ho1]; rfl)
        have hh := heap_turn f1 hus1 hlive hbl (keep_setRow w b (cur.toList.take (i * sz' + off) ++ vv.cells.toList ++ cur.toList.drop (i * sz' + off + vv.cells.size)).toArray) (.arr ep ty sz' (es.set i e')) (by rw [ho1]; rfl) (by rw [ho1]; rfl) (by
          unfold ObjOk
          simp only [put_one_o, upd_apply, if_true]
          refine ⟨h0, (evs.set i ev').flatMap (·.cells.toList), ⟨?_, .inr ⟨b, c, _, by rw [List.length_set]; exact hφ, Nat.zero_le _, setRow_heap w b cur _ ty (0, 0) h6, by rw [List.length_set]; exact h7, h8, ?_, ?_⟩⟩, evs.set i ev', rfl, ?_, ?_⟩
          · rw [hfp, List.length_set]
            simp only [List.length_append, List.length_take, List.length_drop, Array.length_toList, hl]
            omega
          · simp only [List.size_toArray, List.length_append, List.length_take, List.length_drop, Array.length_toList]
            omega
          · rw [hfp, List.length_set, ← h10]
            exact splice_take cur.toList vv.cells.toList _ _ _ (by simp) (by omega) (by simpa using hcur)
          · intro x hx
            rcases List.mem_or_eq_of_mem_set hx with hx | rfl
            · exact h2 x hx
            · have := congrArg List.length p2
              simp only [Array.length_toList, List.length_append, List.length_take, List.length_drop] at this
              omega
          · exact D.dens_mono (ht.blocks (M := M)) _ _ (D.dens_set i es evs e' ev' h3 p1))
        rw [← put_append] at hh ht
        refine ⟨_, _, _, _, _, _, _, hK, by simp only [Sem.run_bind, hr, Result.andThen_ok]; rfl, .inr ⟨rfl, rfl⟩, hh, f2.trans ht, ⟨#[], rfl, rfl⟩, fun j hj => ?_⟩
        simp only [List.map_append, List.mem_append, List.map_cons, List.map_nil, List.mem_singleton] at hj
        rcases hj with hj | hj
        · left
          refine ids_used v _ hv j ?_
          rw [frz_eq] at hj
          simpa [Function.comp_def] using hj
        · exact .inl (hj ▸ hus)
    · exact h.elim
  · exact h.elim
end
end Go.Proofs.Ytaafchgfibbmhaa
