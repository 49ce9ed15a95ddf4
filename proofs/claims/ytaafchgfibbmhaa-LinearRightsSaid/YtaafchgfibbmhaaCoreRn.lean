/-
  A ROUND OF A RANGE OVER A FUNCTION: 'RoundK.of_ic'; A FUNCTION WITH A DEFERRED CALL: 'CtK.of_defer'. Conditions: as the theorems say.
-/
import Derived.Test.YtaafchgfibbmhaaCoreR
namespace Go.Proofs.Ytaafchgfibbmhaa

/-- How a round ends. -/
def roundQ (id : Nat) (K X : V → (Nat → Obj') → Nat → Prop) (e : Xit) (s : S) : Prop :=
  match e with
  | .normal => ∃ nf m en p c d st pd, s.o id = .loop nf m en p c d st pd ∧ K (.d (.bool true)) (upd s.o id (.loop nf m en p c d .ready none)) s.nx
  | .ret => ∃ nf m en p c d st pd, s.o id = .loop nf m en p c d st pd ∧ K (.d (.bool false)) (upd s.o id (.loop nf m en p c d .done (some .ret))) s.nx
  | .exit j => ∃ nf m en p c d st pd, s.o id = .loop nf m en p c d st pd ∧ K (.d (.bool false)) (upd s.o id (.loop nf m en p c d .done (some (.exit j)))) s.nx
  | .pan v => X v s.o s.nx
/-- A round begins, its values put in. -/
def beginQ (P : Program) (n b id : Nat) (icb : IC) (K X : V → (Nat → Obj') → Nat → Prop) (e : Xit) (s : S) : Prop :=
  match e with
  | .normal => ∃ nf m en p c d pd, s.o id = .loop nf m en p c d .ready pd ∧ icW P n b true icb (roundQ id K X) ⟨s.env, upd s.o id (.loop nf m en p c d .busy pd), s.nx⟩
  | .pan v => X v s.o s.nx
  | _ => False

section
variable {P : Program} {M : Nat → Prop} {φ φ0 : Place} {H0 : Hp} {w w0 : World} {n : Nat} {s : S} {a : Act} {cx : Cx}

theorem put_loop_us {id : Nat} {x : Obj'} {s : S} (hlt : id < s.nx) (j : Nat) (hu : (s.H.put [(id, x)]).us j) : j < s.nx := by
  simp only [put_one_us] at hu
  rcases hu with hu | hu
  · exact hu
  · subst hu; exact hlt

theorem params_den {B : Nat → Prop} {H : Hp} {n : Nat} : ∀ (ps : List Nat) (vs : List V) (us : List Value) (env : Nat → V) (tmps : Array Value), tmps.size = n → ps.length = vs.length → V.dens B φ H w vs us → ps.all (fun t => decide (t < n)) = true → (∀ i, V.den B φ H w (env i) (tmps.getD i undef)) →
    ((ps.zip us).foldl (fun tmps p => tmps.setIfInBounds p.1 p.2) tmps).size = n ∧ ∀ i, V.den B φ H w (setP env ps vs i) (((ps.zip us).foldl (fun tmps p => tmps.setIfInBounds p.1 p.2) tmps).getD i undef)
  | [], [], us, env, tmps, hsz, _, hd, _, he => by simp only [V.dens] at hd; subst hd; exact ⟨hsz, he⟩
  | [], v :: vs, us, env, tmps, _, h, _, _, _ => by simp at h
  | t :: ps, [], us, env, tmps, _, h, _, _, _ => by simp at h
  | t :: ps, v :: vs, us, env, tmps, hsz, hl, hd, hp, he => by
    obtain ⟨u, us, rfl, h1, h2⟩ := hd
    simp only [List.all_cons, Bool.and_eq_true, decide_eq_true_eq] at hp
    simp only [List.zip_cons_cons, List.foldl_cons, setP]
    refine params_den ps vs us (upd env t v) (tmps.setIfInBounds t u) (by simp [hsz]) (by simpa using hl) h2 hp.2 (fun i => ?_)
    simp only [upd_apply]
    by_cases hi : i = t
    · subst hi
      have : (tmps.setIfInBounds i u).getD i undef = u := by simp [Array.getD, hsz, hp.1]
      rw [if_pos rfl, this]; exact h1
    · have : (tmps.setIfInBounds t u).getD i undef = tmps.getD i undef := by
        simp only [Array.getD_eq_getD_getElem?]
        rw [Array.getElem?_setIfInBounds_ne (Ne.symm hi)]
      rw [if_neg hi, this]; exact he i

theorem RoundK.of_ic (hmix : P.follows .mixedOrders = true) {id : Nat} {args : List V} {o : Nat → Obj'} {nx : Nat} {K X : V → (Nat → Obj') → Nat → Prop} {env : List V} {ps : List Nat} {ica icb : IC} {st : LoopState} {pd : Option Jmp}
    (ho : o id = .loop P.funcs.size n env ps ica icb st pd) (hlt : id < nx) (hps : ps.all (fun t => decide (t < n)) = true) (hl : args.length = ps.length)
    (h : icW P n nx true ica (beginQ P n nx id icb K X) ⟨setP (envJ env) ps args, o, nx⟩) : RoundK P id args o nx K X := by
  refine ⟨by rw [ho]; rfl, fun M φ w vals b hH hd hφ => ?_⟩
  have hok := hH.ok id
  simp only [ObjOk, hp, ho] at hok
  obtain ⟨b', r, h1, h2, h0, h3, h4, h5, h6, h7, h8, h9⟩ := hok
  rw [hφ] at h1; simp at h1; subst h1
  have hlen := V.dens_length _ _ hd
  have hsz : vals.size = r.params.size := by
    have : r.params.toList.length = ps.length := by rw [h5]
    simp at hlen this; omega
  let tm : Array Value := (ps.zip vals.toList).foldl (fun tmps p => tmps.setIfInBounds p.1 p.2) r.tmps
  have hfold : (r.params.zip vals).foldl (fun tmps (p : Tmp × Value) => tmps.setIfInBounds p.1 p.2) r.tmps = tm := by
    rw [← Array.foldl_toList, Array.toList_zip, h5]
  obtain ⟨p1, p2⟩ := params_den (B := mutB M φ (hp o nx)) (H := hp o nx) (φ := φ) (w := w) ps args vals.toList (envJ env) r.tmps h6 hl.symm hd hps h9
  refine ⟨r.fn, tm, r.assign, r.body, ?_, fun k => ?_⟩
  · simp only [Instr.yield, Sem.run_bind, run_getLoop h2, Result.andThen_ok, hsz, ne_eq, not_true_eq_false, if_false, Sem.run_pure]
    rw [← hfold]
  · -- the state of the round
    let s0 : S := ⟨setP (envJ env) ps args, o, nx⟩
    let a0 : Act := { tmps := tm, defers := [] }
    have hs0 : SimC M φ (hp o nx) w n ⟨[], true⟩ φ s0 a0 w := ⟨hH, Trans.refl _ _ _, p1, ⟨[], rfl, List.nodup_nil, fun _ => rfl, fun r hr => by cases hr⟩, p2⟩
    have nodef : ∀ {φ' s' a' w'}, SimC M φ (hp o nx) w n ⟨[], true⟩ φ' s' a' w' → a'.defers = [] := by
      intro φ' s' a' w' hs
      obtain ⟨ms, g1, _, g3, _⟩ := hs.defers
      rw [g3 rfl] at g1; exact g1
    -- the record, wherever the heap has turned
    have recd : ∀ {φ' s' a' w'} {nf m : Nat} {en : List V} {p : List Nat} {c d : IC} {st : LoopState} {pd : Option Jmp} (st' : LoopState) (pd' : Option Jmp), SimC M φ (hp o nx) w n ⟨[], true⟩ φ' s' a' w' → s'.o id = .loop nf m en p c d st pd →
        ∃ r', w'.heap[b]? = some (.loop r') ∧ r'.state = st ∧ r'.pending = pd.map Jmp.code ∧
          SimC M φ (hp o nx) w n ⟨[], true⟩ φ' ⟨s'.env, upd s'.o id (.loop nf m en p c d st' pd'), s'.nx⟩ a' { w' with heap := w'.heap.setIfInBounds b (.loop { r' with state := st', pending := pd'.map Jmp.code }) } := by
      intro φ' s' a' w' nf m en p c d st pd st' pd' hs hso
      have hφ' : φ' id = .pointer (some ⟨b, 0, none⟩) := by
        have := (hs.tr.rel.row id hlt (by show (s'.o id).isRow = true; rw [hso]; rfl)).2
        rw [this]; exact hφ
      have hlt' : id < s'.nx := hs.tr.rel.us id hlt
      obtain ⟨r', r1, r2, r3, r4, r5⟩ := turn_loop (st' := st') (pd' := pd') hs.heap hlt' (show s'.H.o id = _ from hso) hφ'
      exact ⟨r', r1, r2, r3, sim_heap hs r4 r5 rfl (put_loop_us hlt')⟩
    have ha := icW_codeW (P := P) (n := n) (b := nx) (rd := true) hmix r.assign _ _ s0 (fun _ _ h => h) (by rw [h7]; exact h)
    refine roundIn_of_wpV h0 (wpV_mono (code_sound (P := P) (H0 := hp o nx) (b := nx) (cx := ⟨[], true⟩) (ro := some b) (fun id hu => hu) (fun h => by cases h) r.assign _ s0 φ a0 w ha hs0) ?_)
    rintro e a1 w1 ⟨x, s1, φ1, hq, hs1, hm⟩
    cases e <;> cases x <;> first | (exact hm.elim) | skip
    · -- the body
      obtain ⟨nf, m, en, p, c, d, pd1, q1, q2⟩ := hq
      obtain ⟨r', r1, r2, r3, hs2⟩ := recd .busy pd1 hs1 q1
      have hbegin : (Instr.beginRound b).run P w1 = .ok () { w1 with heap := w1.heap.setIfInBounds b (.loop { r' with state := .busy, pending := pd1.map Jmp.code }) } := by
        have e1 : ({ r' with state := .busy } : Loop) = { r' with state := .busy, pending := pd1.map Jmp.code } := by rw [← r3]
        simp only [Instr.beginRound, Sem.run_bind, run_getLoop r1, Result.andThen_ok, run_setObj_loop _ r1, r2, Sem.run_pure, e1]
      refine ⟨_, hbegin, ?_⟩
      -- the body's own code: the record names it
      have hrec := hs2.heap.ok id
      simp only [ObjOk, S.H, upd_apply, if_true] at hrec
      obtain ⟨b2, r2', _, _, _, _, _, _, _, _, _, _⟩ := hrec
      have hb := icW_codeW (P := P) (n := n) (b := nx) (rd := true) hmix r.body _ _ _ (fun _ _ h => h) (by rw [h8]; exact q2)
      refine wpV_mono (code_sound (P := P) (H0 := hp o nx) (b := nx) (cx := ⟨[], true⟩) (ro := some b) (fun id hu => hu) (fun h => by cases h) r.body _ _ φ1 a1 _ hb hs2) ?_
      rintro e a2 w2 ⟨x, s2, φ2, hq2, hs3, hm2⟩
      have fin : ∀ {nf m : Nat} {en : List V} {p : List Nat} {c d : IC} {st : LoopState} {pd : Option Jmp} (jump : Option Jmp) (t : Bool) (st' : LoopState), t = jump.isNone → st' = (if jump.isNone then .ready else .done) → s2.o id = .loop nf m en p c d st pd → K (.d (.bool t)) (upd s2.o id (.loop nf m en p c d st' jump)) s2.nx →
          ∃ v w', (Instr.endRound b (jump.map Jmp.code)).run P w2 = .ok v w' ∧ EndK M φ (hp o nx) w K X (.returned v) w' := by
        intro nf m en p c d st pd jump t st' ht hst ho2 hK
        obtain ⟨r3', g1, g2, g3, hs4⟩ := recd st' jump hs3 ho2
        refine ⟨.bool t, _, ?_, φ2, _, _, _, hs4.heap, hs4.tr, by simp only [V.den, D.den], hK⟩
        subst ht; subst hst
        simp only [Instr.endRound, Sem.run_bind, run_getLoop g1, Result.andThen_ok, run_setObj_loop _ g1, Sem.run_pure, Option.isNone_map]
      cases e <;> cases x <;> first | (exact hm2.elim) | skip
      · obtain ⟨nf, m, en, p, c, d, st, pd, k1, k2⟩ := hq2
        exact fin none true .ready rfl rfl k1 k2
      · rename_i j
        subst hm2
        obtain ⟨nf, m, en, p, c, d, st, pd, k1, k2⟩ := hq2
        exact fin (some (.exit _)) false .done rfl rfl k1 k2
      · obtain ⟨nf, m, en, p, c, d, st, pd, k1, k2⟩ := hq2
        exact fin (some .ret) false .done rfl rfl k1 k2
      · obtain ⟨val, rfl, k2⟩ := hm2
        exact ⟨nodef hs3, φ2, _, _, _, hs3.heap, hs3.tr, val, rfl, k2, hq2⟩
    · exact hq.elim
    · exact hq.elim
    · obtain ⟨val, rfl, k2⟩ := hm
      exact ⟨nodef hs1, φ1, _, _, _, hs1.heap, hs1.tr, val, rfl, k2, hq⟩
end
end Go.Proofs.Ytaafchgfibbmhaa
