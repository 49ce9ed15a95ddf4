/-
  A PART OF THE PROOF. Conditions: none.
-/
import Derived.Laws.CopyRow
import Derived.Test.YtealblliddhgiaaGreatSb3
set_option linter.unusedSimpArgs false
set_option linter.unusedVariables false
namespace Go.Proofs.YtealblliddhgiaaGreat
section
variable {P : Program} {M : Nat -> Prop} {φ : Place} {H : Hp} {w : World} {fr : Nat} {K : V -> List (Nat × Obj') -> List Nat -> Prop}
theorem resK_get {x : Option Res} (h : resK x K) : ∃ v Δ rd, x = some (v, Δ, rd) /\ K v Δ rd := by
 unfold resK at h; split at h
 ·exact ⟨_, _, _, rfl, h⟩
 ·exact h.elim
theorem ptrRow_spec {o : Nat -> Obj'} {x : V} {id off : Nat} (h : ptrRow o x = some (id, off)) : x = .ptr id off /\ (o id).isRow = true := by
 unfold ptrRow at h
 split at h
 ·split at h
  ·simp only [Option.some.injEq, Prod.mk.injEq] at h; obtain ⟨rfl, rfl⟩ := h; exact ⟨rfl, by assumption⟩
  ·cases h
 ·cases h
theorem rslRow_spec {o : Nat -> Obj'} {x : V} {id off n : Nat} {cs : List V} (h : rslRow o x = some (id, off, n, cs)) : x = .rsl id off n /\ o id = .row cs := by
 unfold rslRow at h
 split at h
 ·split at h
  ·rename_i ho
   simp only [Option.some.injEq, Prod.mk.injEq] at h; obtain ⟨rfl, rfl, rfl, rfl⟩ := h; exact ⟨rfl, ho⟩
  ·cases h
 ·cases h
theorem bndF_run {x : Option V} {val : Option Value} {d n : Nat} (hx : match x, val with | none, none => True | some v, some u => V.den (mutB M φ H) φ H w v u | _, _ => False) (h : bndF x d = some n) :
 (x = none /\ val = none /\ n = d) \/ ∃ k, val = some (.int k n) /\ x ≠ none := by
 unfold bndF at h
 split at h
 ·injection h with h
  left
  cases val with
  | none => exact ⟨rfl, rfl, h.symm⟩
  | some u => exact hx.elim
 ·rename_i k i
  split at h
  ·injection h with h; subst h
   right
   cases val with
   | none => exact hx.elim
   | some u =>
     simp only [V.den, D.den] at hx
     refine ⟨k, ?_, by simp⟩
     rw [hx, Int.toNat_of_nonneg (by assumption)]
  ·cases h
 ·cases h
theorem sl_part {B : Nat -> Prop} {es : List D} {base : Option Addr} {len cap l h : Nat} (hd : D.den B w (.sl es) (.slice base len cap)) (hl : l <= h) (hh : h <= es.length) {m : Nat} (hm : m = cap \/ h <= m /\ m <= es.length) {sz0 : Nat} (hsz : l = 0 \/ ∀ y ∈ es, y.cells.length = sz0) :
 D.den B w (.sl ((es.take h).drop l)) (.slice (if m = l then base else base.map (·.add (l * sz0))) (h - l) (m - l)) := by
 obtain ⟨b', len', cap', he, h1, h2, h3, sz, h4⟩ := hd
 injection he with e1 e2 e3
 subst e1; subst e2; subst e3
 refine ⟨_, _, _, rfl, by simp; omega, by omega, fun hb => ?_, sz, fun a ha => ?_⟩
 ·split at hb
  ·omega
  ·cases base with
   | none => have := h3 rfl; omega
   | some a => simp at hb
 ·have key : ∀ (es : List D) (i : Nat) (a : Addr), D.elems B w sz a i es -> ∀ l h, D.elems B w sz a (i + l) ((es.take h).drop l) := by
   intro es
   induction es with
   | nil => intro i a _ l h; simp [D.elems]
   | cons e es ih =>
     intro i a he l h
     cases h with
     | zero => simp [D.elems]
     | succ h =>
       cases l with
       | zero =>
         refine ⟨he.1, ?_⟩
         simpa using ih (i + 1) a he.2 0 h
       | succ l =>
         have := ih (i + 1) a he.2 l h
         rw [show i + 1 + l = i + (l + 1) by omega] at this
         simpa using this
  split at ha
  ·
    rename_i hml
    have hcase : h - l = 0 := by omega
    have hnil : (es.take h).drop l = [] := List.eq_nil_of_length_eq_zero (by simp; omega)
    rw [hnil]
    cases base with
    | none => cases ha
    | some b => injection ha with ha; subst ha; exact ⟨fun hc => by omega, trivial⟩
  ·cases base with
   | none => simp at ha
   | some b =>
     simp only [Option.map_some, Option.some.injEq] at ha
     subst ha
     obtain ⟨h5, h6⟩ := h4 b rfl
     replace h5 := h5 (by omega)
     refine ⟨fun _ => add_spot b h5 _, ?_⟩
     have h7 := key es 0 b h6 l h
     rw [Nat.zero_add] at h7
     have shift : ∀ (ds : List D) (i : Nat), (∀ y ∈ ds, y.cells.length = sz0 \/ l = 0) -> D.elems B w sz b (l + i) ds -> D.elems B w sz (b.add (l * sz0)) i ds := by
      intro ds
      induction ds with
      | nil => intro i _ _; trivial
      | cons y ds ih =>
        intro i hy hd
        obtain ⟨⟨ev, g1, g2, g3⟩, g4⟩ := hd
        have hsz' : l * sz0 = l * sz := by
         rcases hy y (by simp) with hy | hy
         ·have := D.dens_length _ _ (D.den_cells _ _ g3).1
          rw [hy] at this
          have e : ev.cells.size = sz0 := by simpa using this
          rw [<- e, g1]
         ·rw [hy]; simp
        refine ⟨⟨ev, g1, ?_, g3⟩, ih (i + 1) (fun z hz => hy z (by simp [hz])) (by rw [show l + (i + 1) = l + i + 1 by omega]; exact g4)⟩
        rw [add_add b h5, hsz', <- Nat.add_mul]
        exact g2
     refine shift _ 0 (fun y hy => ?_) (by simpa using h7)
     rcases hsz with hsz | hsz
     ·exact .inr hsz
     ·exact .inl (hsz y (List.mem_of_mem_take (List.mem_of_mem_drop hy)))
theorem run_bounds {len cap : Nat} {lo hi mx : Option Value} {l h m : Nat} (hlo : lo = none /\ l = 0 \/ ∃ k, lo = some (.int k l)) (hhi : hi = none /\ h = len /\ mx = none \/ ∃ k, hi = some (.int k h)) (hmx : mx = none /\ m = cap \/ ∃ k, mx = some (.int k m)) (h1 : l <= h) (h2 : h <= m) (h3 : m <= cap) :
 (Instr.sliceBounds true len cap lo hi mx).run P w = .ok (l, h, m) w := by
 rcases hlo with ⟨rfl, rfl⟩ | ⟨kl, rfl⟩ <;> rcases hhi with ⟨rfl, rfl, rfl⟩ | ⟨kh, rfl⟩ <;> rcases hmx with ⟨e, rfl⟩ | ⟨km, e⟩ <;> subst_vars <;>
  first
  | (simp [Instr.sliceBounds, run_sliceBound, h1, h2, h3]; done)
  | (cases e; done)
  | (cases e; simp [Instr.sliceBounds, run_sliceBound, h1, h2, h3])
theorem eff_slice (hH : HeapOk M φ H w) {t : TypeId} {x : V} {xv : Value} {lo hi mx : Option V} {lov hiv mxv : Option Value} (hx : V.den (mutB M φ H) φ H w x xv)
 (hlo : match lo, lov with | none, none => True | some v, some u => V.den (mutB M φ H) φ H w v u | _, _ => False) (hhi : match hi, hiv with | none, none => True | some v, some u => V.den (mutB M φ H) φ H w v u | _, _ => False)
 (hmx : match mx, mxv with | none, none => True | some v, some u => V.den (mutB M φ H) φ H w v u | _, _ => False) (h : resK (sliceF P H.o t x lo hi mx) K) :
 Eff M φ H w fr ((do let z <- Instr.sliceAt t xv lov hiv mxv; pure (Next.value z) : Sem Next).run P w) K := by
 have hg := resK_get h
 clear h
 obtain ⟨v, Δ, rd, h, hK⟩ := hg
 unfold sliceF at h
 split at h
 ·rename_i e ht
  have hst := sliceT_spec ht
  split at h
  ·rename_i es l hes hl
   split at h
   ·rename_i hh hhh
    split at h
    ·rename_i hc
     obtain ⟨c1, c2, c3, c4⟩ := hc
     obtain ⟨i, hi'⟩ := Option.isSome_iff_exists.1 c3
     have hD : toD H.o x = some (.sl es) := by
      unfold listV at hes
      split at hes
      ·rename_i es' hD; injection hes with hes; subst hes; exact hD
      ·cases hes
     obtain ⟨f1, f2, f3, f4, f5⟩ := freezes hH x.ids (ids_used x _ hx)
     have hd := toD_den f1 x (.sl es) xv f3 hD (V.den_mono f2 _ _ hx)
     obtain ⟨base, len, cap, hxv, hlen, hcap, _⟩ := id hd
     subst hxv
     have hsz : l = 0 \/ ∀ y ∈ es, y.cells.length = P.cellsOf e := by
      rcases c4 with c4 | c4
      ·exact .inl c4
      ·exact .inr fun y hy => by simpa using List.all_eq_true.1 c4 y hy
     have elem : P.elem t = e := by simp [Program.elem, hst]
     have hrun : ∀ {m : Nat}, (Instr.sliceBounds true len cap lov hiv mxv).run P w = .ok (l, hh, m) w ->
      (Instr.sliceAt t (.slice base len cap) lov hiv mxv).run P w = .ok (.slice (if m = l then base else base.map (·.add (l * P.cellsOf e))) (hh - l) (m - l)) w := by
      intro m hm
      rw [run_sliceAt_slice w t _ _ _ _ (by rw [elem]; exact hst), run_slice_any w t base len cap (by rw [elem]; exact hst), hm]
      simp only [Result.andThen_ok, elem, run_size hi', sliced]
     have fin : ∀ {val : Value} {v : V}, (Instr.sliceAt t (.slice base len cap) lov hiv mxv).run P w = .ok val w -> V.den (mutB M φ (H.put (frz H.o x.ids))) φ (H.put (frz H.o x.ids)) w v val -> K v (frz H.o x.ids) x.ids ->
      Eff M φ H w fr ((do let z <- Instr.sliceAt t (.slice base len cap) lov hiv mxv; pure (Next.value z) : Sem Next).run P w) K := by
      intro val v r1 r2 r3
      exact ⟨_, val, w, φ, v, _, _, r3, by simp only [Sem.run_bind, r1, Result.andThen_ok]; rfl, .inl rfl, f1, f2, r2, fun id hid => .inl (by
       have e : (frz H.o x.ids).map (·.1) = x.ids := by rw [frz_eq]; simp [Function.comp_def]
       rw [e] at hid
       exact ids_used x _ hx id hid)⟩
     have bl : lov = none /\ l = 0 \/ ∃ k, lov = some (.int k l) := by
      rcases bndF_run hlo hl with ⟨_, a, b⟩ | ⟨k, a, _⟩
      ·exact .inl ⟨a, b⟩
      ·exact .inr ⟨k, a⟩
     split at h
     ·injection h with h; injection h with e1 e2; injection e2 with e2 e3; subst e1; subst e2; subst e3
      have bm : mxv = none := by
       cases mxv with
       | none => rfl
       | some u => exact hmx.elim
      subst bm
      have bh : hiv = none /\ hh = len /\ (none : Option Value) = none \/ ∃ k, hiv = some (.int k hh) := by
       rcases bndF_run hhi hhh with ⟨_, a, b⟩ | ⟨k, a, _⟩
       ·exact .inl ⟨a, by omega, rfl⟩
       ·exact .inr ⟨k, a⟩
      refine fin (hrun (run_bounds (m := cap) bl bh (.inl ⟨rfl, rfl⟩) c1 (by omega) (Nat.le_refl _))) ?_ hK
      exact sl_part hd c1 c2 (.inl rfl) hsz
     ·rename_i mv
      split at h
      ·rename_i hv m hm
       split at h
       ·rename_i hc2
        injection h with h; injection h with e1 e2; injection e2 with e2 e3; subst e1; subst e2; subst e3
        have bm : ∃ k, mxv = some (.int k m) := by
         rcases bndF_run hmx hm with ⟨a, _⟩ | ⟨k, a, _⟩
         ·cases a
         ·exact ⟨k, a⟩
        have bh : ∃ k, hiv = some (.int k hh) := by
         rcases bndF_run hhi hhh with ⟨a, _⟩ | ⟨k, a, _⟩
         ·cases a
         ·exact ⟨k, a⟩
        have hp := sl_part (m := m) hd c1 c2 (.inr hc2) hsz
        refine fin (hrun (run_bounds (m := m) bl (.inr bh) (.inr bm) c1 hc2.1 (by omega))) ?_ hK
        split
        ·rename_i e; subst e
         exact ⟨hp, _, _, rfl⟩
        ·exact hp
       ·cases h
      ·cases h
    ·cases h
   ·cases h
  ·cases h
 ·cases ha : arrT P t with
  | none => rw [ha] at h; cases h
  | some p =>
  obtain ⟨n, e⟩ := p
  rw [ha] at h
  split at h
  ·rename_i n' e' heq
   have e0 : n = n' /\ e = e' := by simpa using heq
   obtain ⟨rfl, rfl⟩ := e0
   split at h
   ·rename_i id off hpr
    obtain ⟨rfl, hrow⟩ := ptrRow_spec hpr
    split at h
    ·rename_i hc
     injection h with h; injection h with e1 e2; injection e2 with e2 e3; subst e1; subst e2; subst e3
     obtain ⟨i, hi'⟩ := Option.isSome_iff_exists.1 hc
     have e1 : lov = none := by cases lov with | none => rfl | some u => exact hlo.elim
     have e2 : hiv = none := by cases hiv with | none => rfl | some u => exact hhi.elim
     have e3 : mxv = none := by cases mxv with | none => rfl | some u => exact hmx.elim
     subst e1; subst e2; subst e3
     obtain ⟨g1, g2, g3⟩ := hx
     obtain ⟨b, k1, k2⟩ := g3 hrow
     subst k2
     have hat := arrT_spec ha
     have elem : P.elem t = e := by simp [Program.elem, hat]
     have len : P.arrayLen t = n := by simp [Program.arrayLen, hat]
     refine Eff.same hH (.slice (some ⟨b, off, none⟩) n n) hK ?_ ⟨rfl, g2, fun _ => ⟨b, k1, rfl⟩⟩
     have := run_sliceAt_array_all (P := P) w t ⟨b, off, none⟩ (by rw [elem, len]; exact hat)
     simp only [Sem.run_bind, this, elem, run_size hi', Result.andThen_ok, slicedAt, len]
     by_cases hn : n = 0
     ·subst hn; rfl
     ·simp [hn, Addr.add]
    ·cases h
   ·cases h
  ·cases h
theorem eff_copy (hH : HeapOk M φ H w) {ts : Array TypeId} {ty0 : TypeId} {x y : V} {xv yv : Value} (hx : V.den (mutB M φ H) φ H w x xv) (hy : V.den (mutB M φ H) φ H w y yv) (h : resK (copyF P H.o ts x y) K) :
 Eff M φ H w fr ((do let z <- Builtin.copy_ ts ty0 #[xv, yv]; pure (Next.value z) : Sem Next).run P w) K := by
 have hg := resK_get h
 clear h
 obtain ⟨v, Δ, rd, h, hK⟩ := hg
 unfold copyF at h
 split at h
 ·rename_i t t' hts
  have hts : ts = #[t, t'] := by apply Array.ext'; simpa using hts
  subst hts
  split at h
  ·rename_i e ht
   split at h
   ·rename_i id off n cs es hrs hes
    obtain ⟨rfl, ho⟩ := rslRow_spec hrs
    ·split at h
     ·rename_i hc
      obtain ⟨c1, c2, c3, c4⟩ := hc
      injection h with h; injection h with e1 e2; injection e2 with e2 e3; subst e1; subst e2; subst e3
      have c3 : ∀ z ∈ es, z.cells.length = 1 := fun z hz => by simpa using List.all_eq_true.1 c3 z hz
      obtain ⟨i, hi⟩ := cells_pos_info (P := P) (e := e) (by omega)
      have hsz : (P.info? e).map (·.size) = some 1 := by rw [hi]; simp [<- cellsOf_info hi, c1]
      obtain ⟨_, hus, hp⟩ := hx
      obtain ⟨b, hφ, rfl⟩ := hp (by rw [ho]; rfl)
      have hni : id ∉ y.ids := fun hm => by have := List.all_eq_true.1 c4 id hm; simp at this
      obtain ⟨f1, f2, f3, f4, f5⟩ := freezes hH y.ids (ids_used y _ hy)
      have ho1 := (f4 id hni).trans ho
      have hok := f1.ok id
      simp only [ObjOk, ho1] at hok
      obtain ⟨b', carr, ty, g1, g2, g3, g4⟩ := hok
      rw [hφ] at g1; simp at g1; subst g1
      have l2 := V.dens_length _ _ g3
      simp only [Array.length_toList] at l2
      have fids : (frz H.o y.ids).map (·.1) = y.ids := by rw [frz_eq]; simp [Function.comp_def]
      rcases list_cells hH hy hes c3 with ⟨rfl, rfl⟩ | ⟨a, c, evs, rfl, k1, k2, k3, k4⟩
      ·have hr := run_copy_nil (P := P) w t t' ty0 e ⟨b, off, none⟩ n n (sliceT_spec ht) (by rw [hsz]; rfl)
       have same : H.put (frz H.o y.ids ++ [(id, Obj'.row (cs.take off ++ (([] : List D).take n |>.flatMap D.cells).map .d ++ cs.drop (off + (([] : List D).take n).length)))]) = H.put (frz H.o y.ids) := by
        rw [put_append]
        refine put_same _ ((f5 id).2 hus) ?_
        rw [ho1]
        simp
       refine ⟨_, goInt 0, w, φ, _, _, _, hK, by simp only [Sem.run_bind, hr, Result.andThen_ok]; rfl, .inl rfl, by rw [same]; exact f1, by rw [same]; exact f2, by simp [V.den, D.den, goInt], fun j hj => .inl ?_⟩
       rw [List.map_append, fids] at hj
       simp only [List.map_cons, List.map_nil, List.mem_append, List.mem_singleton] at hj
       rcases hj with hj | rfl
       ·exact ids_used y _ hy j hj
       ·exact hus
      ·have hlen : evs.length = es.length := D.dens_length _ _ k1
       have k1' := D.dens_mono (f2.blocks (M := M)) _ _ k1
       have ht1 : D.dens (mutB M φ (H.put (frz H.o y.ids))) w (es.take n) (evs.take n) := D.dens_take n _ _ k1'
       have hsz1 : ∀ ev ∈ evs.take n, ev.cells.size = 1 := fun ev hev => by
        have := k2 ev (List.mem_of_mem_take hev); omega
       have hcl : ((evs.take n).flatMap (·.cells.toList)).length = Nat.min es.length n := by
        rw [flatMap_length (sz := 1) _ hsz1]; simp [hlen, Nat.min_comm]
       have pre : ∀ (j : Nat) (u : Value), ((evs.take n).flatMap (·.cells.toList))[j]? = some u -> (evs.flatMap (·.cells.toList))[j]? = some u := by
        intro j u hj
        have : evs.flatMap (·.cells.toList) = (evs.take n).flatMap (·.cells.toList) ++ (evs.drop n).flatMap (·.cells.toList) := by rw [<- List.flatMap_append, List.take_append_drop]
        rw [this]
        have hlt : j < ((evs.take n).flatMap (·.cells.toList)).length := by
         rcases Nat.lt_or_ge j ((evs.take n).flatMap (·.cells.toList)).length with hlt | hge
         ·exact hlt
         ·rw [List.getElem?_eq_none hge] at hj; cases hj
        rw [List.getElem?_append_left hlt]; exact hj
       have hfl : Flat ((evs.take n).flatMap (·.cells.toList)) := by
        intro u hu
        simp only [List.mem_flatMap] at hu
        obtain ⟨ev, h1, h2⟩ := hu
        exact k4 u (by simp only [List.mem_flatMap]; exact ⟨ev, List.mem_of_mem_take h1, h2⟩)
       have hr := run_copy_row (P := P) w t t' ty0 e b off n n a es.length c carr ty (List.flatMap (fun x : Value => x.cells.toList) (evs.take n)) (sliceT_spec ht) hsz g2 hcl (fun j u hj => k3 j u (pre j u hj)) (by rw [hcl]; have : Nat.min es.length n <= n := Nat.min_le_right _ _; omega) hfl
       have hdv : V.dens (mutB M φ (H.put (frz H.o y.ids))) φ (H.put (frz H.o y.ids)) w (((es.take n).flatMap D.cells).map .d) ((evs.take n).flatMap (·.cells.toList)) := by
        have flat : ∀ (ds : List D) (us : List Value), D.dens (mutB M φ (H.put (frz H.o y.ids))) w ds us -> D.dens (mutB M φ (H.put (frz H.o y.ids))) w (ds.flatMap D.cells) (us.flatMap (·.cells.toList)) := by
         intro ds
         induction ds with
         | nil => intro us h; simp [D.dens] at h; subst h; rfl
         | cons d ds ih =>
           intro us h
           obtain ⟨u, us, rfl, q1, q2⟩ := h
           simp only [List.flatMap_cons]
           exact D.dens_append _ _ _ _ (D.den_cells _ _ q1).1 (ih us q2)
        exact (V.dens_map_d _ _).2 (flat _ _ ht1)
       have hl1 : ((evs.take n).flatMap (·.cells.toList)).length = (es.take n).length := by rw [hcl]; simp [Nat.min_comm]
       obtain ⟨t1, t2⟩ := turn_row (cs' := cs.take off ++ ((es.take n).flatMap D.cells).map .d ++ cs.drop (off + (es.take n).length)) f1 ((f5 id).2 hus) ho1 hφ g2
        (carr.toList.take off ++ (evs.take n).flatMap (·.cells.toList) ++ carr.toList.drop (off + ((evs.take n).flatMap (·.cells.toList)).length)).toArray (by
        simp only
        rw [hl1]
        exact V.dens_append _ _ _ _ (V.dens_append _ _ _ _ (V.dens_take _ _ _ g3) hdv) (V.dens_drop _ _ _ g3)) (by
        intro u hu
        simp only [List.mem_append] at hu
        rcases hu with (hu | hu) | hu
        ·exact g4 u (List.mem_of_mem_take hu)
        ·exact hfl u hu
        ·exact g4 u (List.mem_of_mem_drop hu))
       refine ⟨_, _, _, φ, _, _, _, hK, by simp only [Sem.run_bind, hr, Result.andThen_ok]; rfl, .inl rfl, by rw [put_append]; exact t1, by rw [put_append]; exact f2.trans t2, ?_, fun j hj => .inl ?_⟩
       ·simp only [V.den, D.den, goInt, hcl]
       ·rw [List.map_append, fids] at hj
        simp only [List.map_cons, List.map_nil, List.mem_append, List.mem_singleton] at hj
        rcases hj with hj | rfl
        ·exact ids_used y _ hy j hj
        ·exact hus
     ·cases h
   ·cases h
  ·cases h
 ·cases h
theorem fieldTT_spec {t u : TypeId} {f off : Nat} (h : fieldTT P t f = some (off, u)) : ∃ fs fd, P.underlying t = some (.struct fs) /\ fs[f]? = some fd /\ fd.offset = off /\ fd.type = u := by
 unfold fieldTT at h
 split at h
 ·rename_i fs hu
  split at h
  ·rename_i fd hf
   injection h with h; injection h with h1 h2
   exact ⟨fs, fd, hu, hf, h1, h2⟩
  ·cases h
 ·cases h
theorem run_partV {t : TypeId} {cs : List V} {off : Nat} {x : V} (h : rowGet P t cs off = some x) {arr : Array Value} (hd : V.dens (mutB M φ H) φ H w cs arr.toList) (hf : Flat arr.toList) :
 ∃ u, (part t arr off).run P w = .ok u w /\ V.den (mutB M φ H) φ H w x u := by
 unfold rowGet at h
 split at h
 ·rename_i ha
  split at h
  ·rename_i hl
   injection h with h; subst h
   obtain ⟨i, hi⟩ := aggT_info ha
   refine ⟨.agg (arr.extract off (off + P.cellsOf t)), ?_, mkAgg_den _ _ ?_ ?_⟩
   ·simp only [part, Sem.run_bind, aggT_true ha w, Result.andThen_ok, if_true, run_size hi w, Sem.run_pure]
   ·have := V.dens_take (P.cellsOf t) _ _ (V.dens_drop off _ _ hd)
    simpa [Array.toList_extract, List.extract] using this
   ·intro u hu
    simp only [Array.toList_extract, List.extract] at hu
    exact hf u (List.mem_of_mem_drop (List.mem_of_mem_take hu))
  ·cases h
 ·rename_i ha
  obtain ⟨u, hu, hdu⟩ := V.dens_get _ _ _ _ hd h
  refine ⟨u, ?_, hdu⟩
  have hu' : arr[off]? = some u := by simpa using hu
  simp only [part, Sem.run_bind, aggT_false ha w, Result.andThen_ok, Bool.false_eq_true, if_false, hu', Sem.run_pure]
 ·cases h
theorem eff_field (hH : HeapOk M φ H w) {t : TypeId} {x : V} {xv : Value} {f : Nat} (hx : V.den (mutB M φ H) φ H w x xv) (h : resK ((fieldF P t x f).map fun v => (v, [], [])) K) :
 Eff M φ H w fr ((do let z <- Instr.field t xv f; pure (Next.value z) : Sem Next).run P w) K := by
 have hg := resK_get h
 clear h
 obtain ⟨v, Δ, rd, h, hK⟩ := hg
 simp only [Option.map_eq_some_iff, Prod.mk.injEq] at h
 have hg := h
 clear h
 obtain ⟨v', h, rfl, rfl, rfl⟩ := hg
 unfold fieldF at h
 split at h
 ·rename_i off u hf
  obtain ⟨fs, fd, hu, hfd, rfl, rfl⟩ := fieldTT_spec hf
  have fin : ∀ {arr : Array Value} {val : Value}, (part fd.type arr fd.offset).run P w = .ok val w -> V.den (mutB M φ H) φ H w v' val -> Eff M φ H w fr ((do let z <- Instr.field t (.agg arr) f; pure (Next.value z) : Sem Next).run P w) K := by
   intro arr val r1 r2
   refine Eff.same hH val hK ?_ r2
   simp [Instr.field, run_underlying hu, hfd, asAgg, r1]
  split at h
  ·rename_i cs
   simp only [Option.map_eq_some_iff] at h
   obtain ⟨d, h1, rfl⟩ := h
   obtain ⟨arr, rfl, g1, g2⟩ := hx
   obtain ⟨val, r1, r2⟩ := run_partD h1 g1 g2
   exact fin (r1 w) r2
  ·rename_i cs
   obtain ⟨arr, rfl, g1, g2⟩ := hx
   obtain ⟨val, r1, r2⟩ := run_partV h g1 g2
   exact fin r1 r2
  ·cases h
 ·cases h
theorem bytes_get (s : ByteArray) (n : Nat) : s[n]? = s.data.toList[n]? := by
 rw [getElem?_def]
 split
 ·rename_i h
  have h' : n < s.data.toList.length := by simpa using h
  rw [List.getElem?_eq_getElem h']
  rfl
 ·rename_i h
  have h' : s.data.toList.length <= n := by
   have : ¬ n < s.data.size := h
   simpa using this
  rw [List.getElem?_eq_none h']
theorem eff_index (hH : HeapOk M φ H w) {t : TypeId} {x i : V} {xv iv : Value} (hx : V.den (mutB M φ H) φ H w x xv) (hi : V.den (mutB M φ H) φ H w i iv) (h : resK ((indexF P t x i).map fun v => (v, [], [])) K) :
 Eff M φ H w fr ((do let z <- Instr.index t xv iv; pure (Next.value z) : Sem Next).run P w) K := by
 have hg := resK_get h
 clear h
 obtain ⟨v, Δ, rd, h, hK⟩ := hg
 simp only [Option.map_eq_some_iff, Prod.mk.injEq] at h
 have hg := h
 clear h
 obtain ⟨v', h, rfl, rfl, rfl⟩ := hg
 unfold indexF at h
 split at h
 ·rename_i k i
  simp only [V.den, D.den] at hi
  subst hi
  split at h
  ·rename_i h0
   split at h
   ·rename_i hu
    split at h
    ·rename_i l
     split at h
     ·rename_i b hb
      injection h with h; subst h
      obtain ⟨s, rfl, rfl⟩ := hx
      refine Eff.same hH (.int .u8 b.toNat) hK ?_ rfl
      have hb' : s[i.toNat]? = some b := by rw [bytes_get]; exact hb
      simp [Instr.index, asIntOf, run_underlying hu, h0, hb']
     ·cases h
    ·cases h
   ·rename_i n e hu
    split at h
    ·rename_i hn
     obtain ⟨h1, h2⟩ := hn
     obtain ⟨ie, hie⟩ := Option.isSome_iff_exists.1 h2
     have hc : 0 <= i /\ i < (n : Int) := ⟨h0, h1⟩
     have fin : ∀ {arr : Array Value} {val : Value}, (part e arr (i.toNat * P.cellsOf e)).run P w = .ok val w -> V.den (mutB M φ H) φ H w v' val -> Eff M φ H w fr ((do let z <- Instr.index t (.agg arr) (.int k i); pure (Next.value z) : Sem Next).run P w) K := by
      intro arr val r1 r2
      refine Eff.same hH val hK ?_ r2
      simp [Instr.index, asIntOf, run_underlying hu, hc, run_size hie, r1]
     split at h
     ·rename_i cs
      simp only [Option.map_eq_some_iff] at h
      obtain ⟨d, h1, rfl⟩ := h
      obtain ⟨arr, rfl, g1, g2⟩ := hx
      obtain ⟨val, r1, r2⟩ := run_partD h1 g1 g2
      exact fin (r1 w) r2
     ·rename_i cs
      obtain ⟨arr, rfl, g1, g2⟩ := hx
      obtain ⟨val, r1, r2⟩ := run_partV h g1 g2
      exact fin r1 r2
     ·cases h
    ·cases h
   ·cases h
  ·cases h
 ·cases h
theorem plainU_spec {t : TypeId} (h : plainU P t = true) : ∃ d, P.underlying t = some d /\ ∀ ms, d ≠ .interface ms := by
 unfold plainU at h
 split at h
 ·cases h
 ·rename_i d hn hd
  exact ⟨d, hd, fun ms e => hn ms e⟩
 ·cases h
theorem zeroV_den {t : TypeId} {z : V} (hz : zeroV P t = some z) : ∃ val, (zeroValue t).run P w = .ok val w /\ V.den (mutB M φ H) φ H w z val := by
 unfold zeroV at hz
 split at hz
 ·rename_i i hi
  have hr : ∀ v, i.zero = some v -> (zeroValue t).run P w = .ok v w := fun v hv => by simp [zeroValue, typeInfo, hi, hv]
  split at hz
  ·rename_i a hv
   split at hz
   ·rename_i hf
    injection hz with hz; subst hz
    have hf' : Flat a.toList := fun u hu => List.all_eq_true.1 hf u hu
    exact ⟨_, hr _ hv, mkAgg_den _ _ (ofScalars_dens _ hf') hf'⟩
   ·cases hz
  ·rename_i v _ hv
   split at hz
   ·rename_i h1
    injection hz with hz; subst hz
    exact ⟨_, hr _ hv, ofScalar_den _ h1⟩
   ·cases hz
  ·cases hz
 ·cases hz
theorem eff_assert (hH : HeapOk M φ H w) {t xt : TypeId} {ok : Bool} {x : V} {xv : Value} (hx : V.den (mutB M φ H) φ H w x xv) (h : resK ((assertF P t ok x).map fun v => (v, [], [])) K) :
 Eff M φ H w fr ((do let z <- Instr.typeAssert xv xt t ok; pure (Next.value z) : Sem Next).run P w) K := by
 have hg := resK_get h
 clear h
 obtain ⟨v, Δ, rd, h, hK⟩ := hg
 simp only [Option.map_eq_some_iff, Prod.mk.injEq] at h
 have hg := h
 clear h
 obtain ⟨v', h, rfl, rfl, rfl⟩ := hg
 unfold assertF at h
 split at h
 ·rename_i hp
  obtain ⟨d, hd, hni⟩ := plainU_spec hp
  split at h
  ·rename_i u y
   obtain ⟨val, rfl, hdy⟩ := hx
   split at h
   ·rename_i e
    subst e
    injection h with h
    have hr : (Instr.typeAssert (.iface u val) xt u ok).run P w = .ok (if ok = true then .tuple #[val, .bool true] else val) w := by
     cases d <;> first | exact absurd rfl (hni _) | (cases ok <;> simp [Instr.typeAssert, run_underlying hd])
    refine Eff.same hH _ hK (by simp only [Sem.run_bind, hr, Result.andThen_ok]; rfl) ?_
    subst h
    cases ok
    ·exact hdy
    ·exact ⟨_, rfl, val, [.bool true], rfl, hdy, .bool true, [], rfl, rfl, rfl⟩
   ·rename_i hne
    split at h
    ·rename_i hok
     simp only [Option.map_eq_some_iff] at h
     obtain ⟨z, hz, rfl⟩ := h
     obtain ⟨zv, r1, r2⟩ := zeroV_den (w := w) (M := M) (φ := φ) (H := H) hz
     have hr : (Instr.typeAssert (.iface u val) xt t ok).run P w = .ok (.tuple #[zv, .bool false]) w := by
      cases d <;> first | exact absurd rfl (hni _) | simp [Instr.typeAssert, run_underlying hd, hne, hok, r1]
     exact Eff.same hH _ hK (by simp only [Sem.run_bind, hr, Result.andThen_ok]; rfl) ⟨_, rfl, zv, [.bool false], rfl, r2, .bool false, [], rfl, rfl, rfl⟩
    ·cases h
  ·simp only [V.den, D.den] at hx
   subst hx
   split at h
   ·rename_i hok
    simp only [Option.map_eq_some_iff] at h
    obtain ⟨z, hz, rfl⟩ := h
    obtain ⟨zv, r1, r2⟩ := zeroV_den (w := w) (M := M) (φ := φ) (H := H) hz
    have hr : (Instr.typeAssert .nilIface xt t ok).run P w = .ok (.tuple #[zv, .bool false]) w := by
     cases d <;> first | exact absurd rfl (hni _) | simp [Instr.typeAssert, run_underlying hd, hok, r1]
    exact Eff.same hH _ hK (by simp only [Sem.run_bind, hr, Result.andThen_ok]; rfl) ⟨_, rfl, zv, [.bool false], rfl, r2, .bool false, [], rfl, rfl, rfl⟩
   ·cases h
  ·cases h
 ·cases h
end
end Go.Proofs.YtealblliddhgiaaGreat
