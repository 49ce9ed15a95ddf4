/-
  A PART OF THE PROOF. Conditions: none.
-/
import Derived.RangeFuncLeaves
import Derived.TacticsIn
import Derived.RecoverIn
import Derived.Test.YtealblliddhgiaaGreatSb5
set_option linter.unusedSimpArgs false
set_option linter.unusedVariables false
namespace Go.Proofs.YtealblliddhgiaaGreat
section
variable {P : Program} {M : Nat -> Prop} {φ : Place} {H : Hp} {w w' : World} {fr : Nat} {K : V -> List (Nat × Obj') -> List Nat -> Prop}
theorem eff_nilCheck (hH : HeapOk M φ H w) {o : Oper} {a : Act} {q : Operand} (ho : o.op = .nilCheck q) {x : V} (hx : V.den (mutB M φ H) φ H w x (a.eval q))
 (h : nilCheckV H.o x fun v => K v [] []) : Eff M φ H w fr ((execOp a.eval o).run P w) K := by
 unfold nilCheckV at h
 have hx' := hx
 split at h
 ·rename_i id off
  obtain ⟨h1, hK⟩ := h
  obtain ⟨_, hu, hp⟩ := hx'
  obtain ⟨b, hφ, hv⟩ := hp h1
  exact Eff.same hH _ hK (by simp [execOp, ho, hv]) (hv ▸ hx)
 ·rename_i cs off
  obtain ⟨b, ev, _, hv, _⟩ := hx'
  exact Eff.same hH _ h (by simp [execOp, ho, hv]) (hv ▸ hx)
 ·rename_i f first cap
  obtain ⟨b, c, hv, _⟩ := hx'
  exact Eff.same hH _ h (by simp [execOp, ho, hv]) (hv ▸ hx)
 ·exact h.elim
theorem intT_spec {t : TypeId} {k : IntKind} (h : intT P t = some k) : P.underlying t = some (.int k) := by
 unfold intT at h
 cases hd : P.underlying t with
 | none => simp [hd] at h
 | some d => cases d <;> simp_all
theorem dens_toArray (s : S) (a : Act) (henv : ∀ i, V.den (mutB M φ H) φ H w (s.env i) (a.tmps.getD i undef)) (xs : Array Operand) :
 V.dens (mutB M φ H) φ H w (xs.toList.map s.ev) (xs.map a.eval).toList := by
 simpa using evs_den s a henv xs.toList
theorem sop_sound (hH : HeapOk M φ H w) {s : S} (hso : s.o = H.o) {a : Act} (henv : ∀ i, V.den (mutB M φ H) φ H w (s.env i) (a.tmps.getD i undef)) (hfr : ¬ H.us fr) {o : Oper} {op : Op} (hop : o.op = op) (h : sop P s fr op K) :
 Eff M φ H w fr ((execOp a.eval o).run P w) K := by
 have hev := ev_den (M := M) (φ := φ) (H := H) (w := w) s a henv
 cases op <;> simp only [sop] at h <;> try (exact h.elim)
 case move x => exact Eff.same hH _ h (by simp [execOp, hop]) (hev x)
 case assign x => exact Eff.same hH _ h (by simp [execOp, hop]) (hev x)
 case pick c x y =>
  have := eff_pick (P := P) (fr := fr) hH (hev c) (hev x) (hev y) h
  simpa [execOp, hop] using this
 case alloc t =>
  have := eff_alloc (P := P) (fr := fr) hH hfr h
  simpa [execOp, hop] using this
 case box t x =>
  have := eff_box (P := P) (fr := fr) (t := t) hH hfr (hev x) h
  simpa [execOp, hop] using this
 case build t parts =>
  have := eff_build (P := P) (fr := fr) hH henv h
  simpa [execOp, hop] using this
 case buildSlice t len parts =>
  rw [hso] at h
  have := eff_buildSlice (P := P) (fr := fr) hH hfr henv h
  simpa [execOp, hop] using this
 case load t x =>
  rw [hso] at h
  have := eff_load (P := P) (fr := fr) hH (hev x) h
  simpa [execOp, hop] using this
 case store t x y =>
  rw [hso] at h
  have := eff_store (P := P) (fr := fr) hH (hev x) (hev y) h
  simpa [execOp, hop] using this
 case nilCheck x =>
  rw [hso] at h
  exact eff_nilCheck hH hop (hev x) h
 case binOp op t x y yt =>
  rw [hso] at h
  rcases h with h | h
  ·have := eff_bin (P := P) (fr := fr) (p := x) (q := y) hH (hev x) (hev y) h
   simpa [execOp, hop] using this
  ·have := eff_cmp (P := P) (fr := fr) (p := x) (q := y) hH (hev x) (hev y) h
   simpa [execOp, hop] using this
 case unOp op t x =>
  rcases h with h | ⟨rfl, hx, hK⟩
  ·have := eff_un (P := P) (fr := fr) hH (hev x) h
   simpa [execOp, hop] using this
  ·have hv := hev x
   rw [hx] at hv
   obtain ⟨b, hb⟩ := hv
   exact Eff.same hH (.bool !b) hK (by simp [execOp, hop, hb, Op.unary]) ⟨_, rfl⟩
 case convert t u x =>
  obtain ⟨hsrc, h⟩ := h
  split at h
  ·rename_i k k' n hk hx
   have hv := hev x
   rw [hx] at hv
   simp only [V.den, D.den] at hv
   have hu := intT_spec hk
   obtain ⟨d, hd⟩ := Option.isSome_iff_exists.1 hsrc
   refine Eff.same hH (.int k (k.wrap n)) h ?_ rfl
   cases d <;> simp [execOp, hop, hv, convert, run_underlying hd, run_underlying hu, Conv.intToInt]
  ·exact h.elim
 case makeInterface t x =>
  obtain ⟨⟨d, hd, hni⟩, h⟩ := h
  have hr : ∀ v, (Instr.makeInterface t v).run P w = .ok (.iface t v) w := by
   intro v
   cases d <;> first | (simp at hni; done) | simp [Instr.makeInterface, run_underlying hd]
  have hv := hev x
  split at h
  ·rename_i y hy
   rw [hy] at hv
   exact Eff.same hH _ h (by simp [execOp, hop, hr]) ⟨_, rfl, hv⟩
  ·exact Eff.same hH _ h (by simp [execOp, hop, hr]) ⟨_, rfl, hv⟩
 case makeFunc fn first cap =>
  exact Eff.same hH _ h (by simp [execOp, hop, Instr.makeFunc]) ⟨_, _, rfl, dens_toArray s a henv first, dens_toArray s a henv cap⟩
 case makeSlice t l c =>
  have := eff_makeSlice (P := P) (fr := fr) hH hfr (hev l) (hev c) h
  simpa [execOp, hop] using this
 case fieldAddr t x f =>
  rw [hso] at h
  have := eff_fieldAddr (P := P) (fr := fr) hH (hev x) h
  simpa [execOp, hop] using this
 case indexAddr t x i =>
  rw [hso] at h
  have := eff_indexAddr (P := P) (fr := fr) hH (hev x) (hev i) h
  simpa [execOp, hop] using this
 case extract x i =>
  split at h
  ·rename_i vs hx
   obtain ⟨v, hv, hK⟩ := h
   have hd := hev x
   rw [hx] at hd
   obtain ⟨c, hc, hd⟩ := hd
   obtain ⟨u, hu, hdu⟩ := V.dens_get _ _ _ _ hd hv
   refine Eff.same hH u hK ?_ hdu
   have hu' : c[i]? = some u := by simpa using hu
   simp [execOp, hop, hc, Instr.extract, hu']
  ·exact h.elim
 case call c =>
  obtain ⟨cal, args, ts⟩ := c
  cases cal <;> simp only at h <;> try (exact h.elim)
  rename_i b
  unfold builtinV at h
  split at h
  ·rename_i x hargs
   obtain ⟨t, hts, h⟩ := h
   rw [hso] at h
   have e1 : args = #[x] := by apply Array.ext'; simpa using hargs
   have e2 : ts = #[t] := by apply Array.ext'; simpa using hts
   subst e1; subst e2
   have := eff_len (P := P) (fr := fr) (ty := o.type) hH (hev x) h
   simpa [execOp, hop, resolve, invoke, builtin] using this
  ·rename_i x y hargs
   have e1 : args = #[x, y] := by apply Array.ext'; simpa using hargs
   subst e1
   rw [hso] at h
   have := eff_append (P := P) (fr := fr) (ty0 := o.type) hH hfr (hev x) (hev y) h
   simpa [execOp, hop, resolve, invoke, builtin] using this
  ·rename_i x y hargs
   have e1 : args = #[x, y] := by apply Array.ext'; simpa using hargs
   subst e1
   unfold minmaxV at h
   split at h
   ·rename_i k u k' v heq
    simp only [List.cons.injEq, and_true] at heq
    obtain ⟨rfl, hK⟩ := h
    have h1 := hev x
    have h2 := hev y
    rw [heq.1] at h1; rw [heq.2] at h2
    simp only [V.den, D.den] at h1 h2
    exact Eff.same hH _ hK (by simp [execOp, hop, resolve, invoke, builtin, h1, h2, run_max_int2]) rfl
   ·exact h.elim
  ·rename_i x y hargs
   have e1 : args = #[x, y] := by apply Array.ext'; simpa using hargs
   subst e1
   unfold minmaxV at h
   split at h
   ·rename_i k u k' v heq
    simp only [List.cons.injEq, and_true] at heq
    obtain ⟨rfl, hK⟩ := h
    have h1 := hev x
    have h2 := hev y
    rw [heq.1] at h1; rw [heq.2] at h2
    simp only [V.den, D.den] at h1 h2
    exact Eff.same hH _ hK (by simp [execOp, hop, resolve, invoke, builtin, h1, h2, run_min_int2]) rfl
   ·exact h.elim
  ·rename_i x y z hargs
   have e1 : args = #[x, y, z] := by apply Array.ext'; simpa using hargs
   subst e1
   have hg := resK_get h
   clear h
   obtain ⟨v, Δ, rd, h, hK⟩ := hg
   simp only [Option.map_eq_some_iff, Prod.mk.injEq] at h
   obtain ⟨v', h, rfl, rfl, rfl⟩ := h
   unfold max3F at h
   split at h
   ·rename_i k u k' v k'' t q1 q2 q3
    split at h
    ·rename_i hk
     obtain ⟨rfl, rfl⟩ := hk
     injection h with h; subst h
     have h1 := hev x
     have h2 := hev y
     have h3 := hev z
     rw [q1] at h1; rw [q2] at h2; rw [q3] at h3
     simp only [V.den, D.den] at h1 h2 h3
     exact Eff.same hH _ hK (by simp [execOp, hop, resolve, invoke, builtin, h1, h2, h3, Builtin.max_, Builtin.max2]) rfl
    ·cases h
   ·cases h
  ·rename_i x y hargs
   have e1 : args = #[x, y] := by apply Array.ext'; simpa using hargs
   subst e1
   rw [hso] at h
   have := eff_copy (P := P) (fr := fr) (ty0 := o.type) hH (hev x) (hev y) h
   simpa [execOp, hop, resolve, invoke, builtin] using this
  ·rename_i x y hargs
   have e1 : args = #[x, y] := by apply Array.ext'; simpa using hargs
   subst e1
   obtain ⟨t, ht, h⟩ := h
   rw [hso] at h
   have := eff_delete (P := P) (fr := fr) (ty0 := o.type) hH ht (hev x) (hev y) h
   simpa [execOp, hop, resolve, invoke, builtin] using this
  ·exact h.elim
 case slice t x lo hi mx =>
  rw [hso] at h
  have := eff_slice (P := P) (fr := fr) (lov := lo.map a.eval) (hiv := hi.map a.eval) (mxv := mx.map a.eval) hH (hev x) (by cases lo <;> simp [hev]) (by cases hi <;> simp [hev]) (by cases mx <;> simp [hev]) h
  simpa [execOp, hop] using this
 case field t x f =>
  have := eff_field (P := P) (fr := fr) hH (hev x) h
  simpa [execOp, hop] using this
 case index t x i =>
  have := eff_index (P := P) (fr := fr) hH (hev x) (hev i) h
  simpa [execOp, hop] using this
 case insert t m k v =>
  rw [hso] at h
  have := eff_mapUpdate (P := P) (fr := fr) hH (hev m) (hev k) (hev v) h
  simpa [execOp, hop] using this
 case typeAssert x xt t ok =>
  have := eff_assert (P := P) (fr := fr) (xt := xt) hH (hev x) h
  simpa [execOp, hop] using this
 case makeMap t r =>
  cases r with
  | some x => exact h.elim
  | none =>
    have := eff_makeMap (P := P) (fr := fr) hH hfr h
    simpa [execOp, hop] using this
 case lookup t m k ok =>
  rw [hso] at h
  have := eff_lookup (P := P) (fr := fr) hH (hev m) (hev k) h
  simpa [execOp, hop] using this
 case mapUpdate t m k v =>
  rw [hso] at h
  have := eff_mapUpdate (P := P) (fr := fr) hH (hev m) (hev k) (hev v) h
  simpa [execOp, hop] using this
 case range t x =>
  rw [hso] at h
  have := eff_range (P := P) (fr := fr) hH hfr (hev x) h
  simpa [execOp, hop] using this
 case next x str =>
  rw [hso] at h
  rcases h with h | ⟨rfl, id, l, h1, h2⟩
  ·have := eff_nextStr (P := P) (fr := fr) (ty := o.type) hH (hev x) h
   simpa [execOp, hop] using this
  ·have := eff_nextMap (P := P) (fr := fr) (ty := o.type) hH (hev x) h1 h2
   simpa [execOp, hop] using this
 case entry x =>
  rw [hso] at h
  have := eff_entry (P := P) (fr := fr) hH (hev x) h
  simpa [execOp, hop] using this
end
end Go.Proofs.YtealblliddhgiaaGreat
namespace Go.Proofs.YtealblliddhgiaaGreat
inductive R where
 | ret (ds : List D) | pan (d : D)
def R.is (B : Nat -> Prop) (w : World) : R -> Ending -> Prop
 | .ret [x], .returned v => D.den B w x v
 | .ret ds, .returned v => ∃ a, v = .tuple a /\ D.dens B w ds a.toList
 | .pan d, .panicked chain => ∃ v, chain = [{ v := v, recovered := false }] /\ D.den B w d v
 | _, _ => False
def Enters (P : Program) (f : FuncId) : Prop := ∃ fn, P.funcs[f]? = some fn /\ (fn.name == "runtime.NumGoroutine") = false /\ fn.body.isNone = false
def PCt (P : Program) (f : FuncId) (ds : List D) (out : R) : Prop :=
 Enters P f /\ ∀ (M : Nat -> Prop) (w : World) (vals : Array Value), (∀ b, M b -> b < w.heap.size) -> D.dens M w ds vals.toList ->
  Calls P f vals w fun e w' => Keep (fun _ => False) w w' /\ out.is M w' e
def hp (o : Nat -> Obj') (nx : Nat) : Hp := ⟨o, fun id => id < nx⟩
def EndK (M : Nat -> Prop) (φ : Place) (H : Hp) (w : World) (K X : V -> (Nat -> Obj') -> Nat -> Prop) (e : Ending) (w' : World) : Prop :=
 ∃ φ' o' nx' v, HeapOk M φ' (hp o' nx') w' /\ Trans φ H w φ' (hp o' nx') w' /\ match e with
  | .returned val => V.den (mutB M φ' (hp o' nx')) φ' (hp o' nx') w' v val /\ K v o' nx'
  | .panicked ch => ∃ val, ch = [{ v := val, recovered := false }] /\ V.den (mutB M φ' (hp o' nx')) φ' (hp o' nx') w' v val /\ X v o' nx'
  | .outgrown => False
def CtK (P : Program) (f : FuncId) (args : List V) (o : Nat -> Obj') (nx : Nat) (K X : V -> (Nat -> Obj') -> Nat -> Prop) : Prop :=
 Enters P f /\ ∀ (M : Nat -> Prop) (φ : Place) (w : World) (vals : Array Value), HeapOk M φ (hp o nx) w -> V.dens (mutB M φ (hp o nx)) φ (hp o nx) w args vals.toList ->
  Calls P f vals w (EndK M φ (hp o nx) w K X)
def RoundK (P : Program) (id : Nat) (args : List V) (o : Nat -> Obj') (nx : Nat) (K X : V -> (Nat -> Obj') -> Nat -> Prop) : Prop :=
 (o id).isRow = true /\ ∀ (M : Nat -> Prop) (φ : Place) (w : World) (vals : Array Value) (b : Nat), HeapOk M φ (hp o nx) w -> V.dens (mutB M φ (hp o nx)) φ (hp o nx) w args vals.toList -> φ id = .pointer (some ⟨b, 0, none⟩) ->
  ∃ f tmps assign body, (Instr.yield b vals).run P w = .ok (.round b f tmps assign body) w /\ ∀ n, RoundIn Fence.wide n P b f tmps assign body w (EndK M φ (hp o nx) w K X)
theorem EndK.mono {M : Nat -> Prop} {φ : Place} {H : Hp} {w : World} {K X K' X' : V -> (Nat -> Obj') -> Nat -> Prop} (hK : ∀ v o n, K v o n -> K' v o n) (hX : ∀ v o n, X v o n -> X' v o n) {e : Ending} {w' : World} (h : EndK M φ H w K X e w') : EndK M φ H w K' X' e w' := by
 obtain ⟨φ', o', nx', v, h1, h2, h3⟩ := h
 refine ⟨φ', o', nx', v, h1, h2, ?_⟩
 cases e with
 | returned val => exact ⟨h3.1, hK _ _ _ h3.2⟩
 | panicked ch => obtain ⟨val, a, b, c⟩ := h3; exact ⟨val, a, b, hX _ _ _ c⟩
 | outgrown => exact h3
theorem CtK.mono {P : Program} {f : FuncId} {args : List V} {o : Nat -> Obj'} {nx : Nat} {K X K' X' : V -> (Nat -> Obj') -> Nat -> Prop} (hK : ∀ v o n, K v o n -> K' v o n) (hX : ∀ v o n, X v o n -> X' v o n) (h : CtK P f args o nx K X) : CtK P f args o nx K' X' :=
 ⟨h.1, fun M φ w vals h1 h2 => (h.2 M φ w vals h1 h2).mono fun _ _ h => h.mono hK hX⟩
theorem RoundK.mono {P : Program} {id : Nat} {args : List V} {o : Nat -> Obj'} {nx : Nat} {K X K' X' : V -> (Nat -> Obj') -> Nat -> Prop} (hK : ∀ v o n, K v o n -> K' v o n) (hX : ∀ v o n, X v o n -> X' v o n) (h : RoundK P id args o nx K X) : RoundK P id args o nx K' X' :=
 ⟨h.1, fun M φ w vals b h1 h2 h3 => let ⟨f, t, a, c, h4, h5⟩ := h.2 M φ w vals b h1 h2 h3; ⟨f, t, a, c, h4, fun n => (h5 n).mono fun _ _ h => h.mono hK hX⟩⟩
mutual
def D.flat : D -> Bool
 | .sl _ | .mp _ _ => false
 | .agg cs => D.flats cs
 | .iface _ x => x.flat
 | _ => true
def D.flats : List D -> Bool
 | [] => true
 | x :: xs => x.flat && D.flats xs
end
mutual
theorem D.flat_den {B B' : Nat -> Prop} {w w' : World} : ∀ (x : D) (v : Value), x.flat = true -> D.den B w x v -> D.den B' w' x v
 | .int _ _, _, _, h | .bool _, _, _, h | .str _, _, _, h | .nili, _, _, h | .nilp, _, _, h | .nilf, _, _, h | .nilm, _, _, h => h
 | .agg cs, _, hf, h => by obtain ⟨a, rfl, h, h2⟩ := h; exact ⟨a, rfl, D.flats_dens cs _ hf h, h2⟩
 | .sl es, _, hf, h => by simp [D.flat] at hf
 | .mp _ _, _, hf, h => by simp [D.flat] at hf
 | .iface t x, _, hf, h => by obtain ⟨u, rfl, h⟩ := h; exact ⟨u, rfl, D.flat_den x u hf h⟩
theorem D.flats_dens {B B' : Nat -> Prop} {w w' : World} : ∀ (xs : List D) (vs : List Value), D.flats xs = true -> D.dens B w xs vs -> D.dens B' w' xs vs
 | [], _, _, h => h
 | x :: xs, _, hf, h => by
   obtain ⟨u, us, rfl, h1, h2⟩ := h
   simp only [D.flats, Bool.and_eq_true] at hf
   exact ⟨u, us, rfl, D.flat_den x u hf.1 h1, D.flats_dens xs us hf.2 h2⟩
end
mutual
def D.nomap : D -> Bool
 | .mp _ _ => false
 | .agg cs => D.nomaps cs
 | .sl es => D.nomaps es
 | .iface _ x => x.nomap
 | _ => true
def D.nomaps : List D -> Bool
 | [] => true
 | x :: xs => x.nomap && D.nomaps xs
end
theorem CellsAt.mono' {B B' : Nat -> Prop} {w w' : World} {a : Addr} {cs : Array Value}
 (hb : ∀ b, Celly w b -> ¬ B b -> w'.heap[b]? = w.heap[b]? /\ ¬ B' b) (h : CellsAt B w a cs) : CellsAt B' w' a cs := by
 intro j u hj
 obtain ⟨h1, h2⟩ := h j u hj
 have hlt : Celly w a.block := by simpa using celly_of_cell h1
 obtain ⟨h3, h4⟩ := hb _ hlt h2
 exact ⟨by rw [World.cell?_of_block (w := w) (w' := w') (a := a.add j) (by simpa using h3)]; exact h1, h4⟩
mutual
theorem D.nomap_den {B B' : Nat -> Prop} {w w' : World} (hb : ∀ b, Celly w b -> ¬ B b -> w'.heap[b]? = w.heap[b]? /\ ¬ B' b) :
 ∀ (x : D) (v : Value), x.nomap = true -> D.den B w x v -> D.den B' w' x v
 | .int _ _, _, _, h | .bool _, _, _, h | .str _, _, _, h | .nili, _, _, h | .nilp, _, _, h | .nilf, _, _, h | .nilm, _, _, h => by simpa [D.den] using h
 | .agg cs, _, hn, h => by
   obtain ⟨a, rfl, h, hf⟩ := h
   exact ⟨a, rfl, D.nomaps_dens hb cs _ hn h, hf⟩
 | .sl es, _, hn, h => by
   obtain ⟨base, len, cap, rfl, h1, h2, h3, sz, h4⟩ := h
   exact ⟨base, len, cap, rfl, h1, h2, h3, sz, fun a ha => ⟨(h4 a ha).1, D.nomaps_elems hb sz a es 0 hn (h4 a ha).2⟩⟩
 | .iface t d, _, hn, h => by
   obtain ⟨u, rfl, h⟩ := h
   exact ⟨u, rfl, D.nomap_den hb d u hn h⟩
 | .mp _ _, _, hn, _ => by simp [D.nomap] at hn
theorem D.nomaps_dens {B B' : Nat -> Prop} {w w' : World} (hb : ∀ b, Celly w b -> ¬ B b -> w'.heap[b]? = w.heap[b]? /\ ¬ B' b) :
 ∀ (ds : List D) (vs : List Value), D.nomaps ds = true -> D.dens B w ds vs -> D.dens B' w' ds vs
 | [], _, _, h => h
 | d :: ds, _, hn, h => by
   obtain ⟨u, us, rfl, h1, h2⟩ := h
   simp only [D.nomaps, Bool.and_eq_true] at hn
   exact ⟨u, us, rfl, D.nomap_den hb d u hn.1 h1, D.nomaps_dens hb ds us hn.2 h2⟩
theorem D.nomaps_elems {B B' : Nat -> Prop} {w w' : World} (hb : ∀ b, Celly w b -> ¬ B b -> w'.heap[b]? = w.heap[b]? /\ ¬ B' b) (sz : Nat) (a : Addr) :
 ∀ (es : List D) (i : Nat), D.nomaps es = true -> D.elems B w sz a i es -> D.elems B' w' sz a i es
 | [], _, _, _ => trivial
 | e :: es, i, hn, h => by
   obtain ⟨⟨ev, h1, h2, h3⟩, h4⟩ := h
   simp only [D.nomaps, Bool.and_eq_true] at hn
   exact ⟨⟨ev, h1, h2.mono' hb, D.nomap_den hb e ev hn.1 h3⟩, D.nomaps_elems hb sz a es (i + 1) hn.2 h4⟩
end
def R.nomap : R -> Bool
 | .ret ds => D.nomaps ds
 | .pan d => d.nomap
def R.flat : R -> Bool
 | .ret ds => D.flats ds
 | .pan d => d.flat
def retV : List D -> V
 | [x] => .d x
 | ds => .tup (ds.map .d)
inductive Xit where
 | normal | exit (id : Nat) | ret | pan (v : V)
def putE (env : Nat -> V) (dst : Option Tmp) (v : V) : Nat -> V :=
 match dst with
 | some d => upd env d v
 | none => env
def lendV (o : Nat -> Obj') (v : V) : V := match toD o v with | some x => .d x | none => v
def lendIds (o : Nat -> Obj') : List V -> List Nat
 | [] => []
 | v :: vs => (match toD o v with | some _ => v.ids | none => []) ++ lendIds o vs
def heapW (P : Program) (g : FuncId) (args : List V) (o : Nat -> Obj') (nx : Nat) (K X : V -> (Nat -> Obj') -> Nat -> Prop) : Prop :=
 CtK P g args o nx K X \/ CtK P g (args.map (lendV o)) (put o (frz o (lendIds o args))) nx K X
def callL (P : Program) (s : S) (g : FuncId) (all : List V) (K : V -> (Nat -> Obj') -> Nat -> Prop) (X : V -> (Nat -> Obj') -> Nat -> Prop) : Prop :=
    (∃ ds out, toDs s.o all = some ds /\ PCt P g ds out /\ (match out with
     | .ret rs => K (retV rs) (put s.o (frz s.o (V.idss all))) (s.nx + 1)
     | .pan x => X (.d x) (put s.o (frz s.o (V.idss all))) (s.nx + 1))) \/
    (∃ ds out, toDs s.o all = some ds /\ PCt P g ds out /\ out.flat = true /\ (match out with
     | .ret rs => K (retV rs) s.o (s.nx + 1)
     | .pan x => X (.d x) s.o (s.nx + 1))) \/
    (∃ ds out, toDs s.o all = some ds /\ PCt P g ds out /\ out.nomap = true /\ (match out with
     | .ret rs => K (retV rs) (put s.o (frzA s.o (V.idss all))) (s.nx + 1)
     | .pan x => X (.d x) (put s.o (frzA s.o (V.idss all))) (s.nx + 1))) \/
    heapW P g all s.o s.nx K X
def callW (P : Program) (s : S) (f : V) (args : List V) (K : V -> (Nat -> Obj') -> Nat -> Prop) (X : V -> (Nat -> Obj') -> Nat -> Prop) : Prop :=
 match f with
 | .func (.func g) first cap => callL P s g (first ++ args ++ cap) K X
 | .yld id => RoundK P id args s.o s.nx K X
 | _ => False
def noPtr (P : Program) (t : TypeId) : Bool :=
 match P.underlying t with
 | some (.pointer _) => false
 | some _ => true
 | none => false
def recvT (P : Program) (m : String) (x : V) : Option (FuncId × V) :=
 match x with
 | .d (.iface t y) => match P.info? t with
   | some ti => match ti.methods.find? (·.name == m) with
     | some r => match r.func with
       | some (f, false) => if r.path.isEmpty = true /\ noPtr P t = true then some (f, .d y) else none
       | _ => none
     | none => none
   | none => none
 | _ => none
def dstOk (n : Nat) : Option Tmp -> Prop
 | some d => d < n
 | none => True
def opW (P : Program) (n : Nat) (s : S) (o : Oper) (X : V -> S -> Prop) (K : S -> Prop) : Prop :=
 dstOk n o.dst /\ match o.op with
 | .call c => match c.callee with
   | .value f => callW P s (s.ev f) (c.args.toList.map s.ev) (fun v o' nx' => K ⟨putE s.env o.dst v, o', nx'⟩) (fun v o' nx' => X v ⟨s.env, o', nx'⟩)
   | .invoke r m => match recvT P m (s.ev r) with
     | some (g, y) => callL P s g (y :: c.args.toList.map s.ev) (fun v o' nx' => K ⟨putE s.env o.dst v, o', nx'⟩) (fun v o' nx' => X v ⟨s.env, o', nx'⟩)
     | none => False
   | _ => sop P s s.nx o.op fun v Δ _ => K ⟨putE s.env o.dst v, put s.o Δ, s.nx + 1⟩
 | .panic x => match s.ev x with
   | .d (.iface t y) => X (.d (.iface t y)) s
   | .iface t y => X (.iface t y) s
   | _ => False
 | op => sop P s s.nx op fun v Δ _ => K ⟨putE s.env o.dst v, put s.o Δ, s.nx + 1⟩
def guardW (s : S) (ops : Array Oper) (g : Option (Nat × Bool)) (A B : Prop) : Prop :=
 match g with
 | none => A
 | some (j, want) => match dstAt ops j with
   | some d => match s.env d with
     | .d (.bool b) => (b = want -> A) /\ (b ≠ want -> B)
     | .tup [] => B
     | _ => False
   | none => B
def regW (P : Program) (n : Nat) (ops : Array Oper) (X : V -> S -> Prop) (K : S -> Prop) : List Oper -> S -> Prop
 | [], s => K s
 | o :: l, s => guardW s ops o.guard (opW P n s o X (regW P n ops X K l)) (dstOk n o.dst /\ regW P n ops X K l ⟨putE s.env o.dst (.tup []), s.o, s.nx + 1⟩)
def SLe (b : Nat) (s s' : S) : Prop :=
 ∀ (M : Nat -> Prop) (φ : Place) (w : World) (tm : Nat -> Value), HeapOk M φ s.H w -> (∀ i, V.den (mutB M φ s.H) φ s.H w (s.env i) (tm i)) ->
  ∃ φ', HeapOk M φ' s'.H w /\ (∀ i, V.den (mutB M φ' s'.H) φ' s'.H w (s'.env i) (tm i)) /\ (∀ k, liveB φ' s'.H k -> liveB φ s.H k) /\ b <= s'.nx /\
   (∀ id, id < b -> (s'.o id).isRow = true -> (s.o id).isRow = true /\ φ' id = φ id) /\
   (∀ id e', id < b -> (s'.o id).epoch = some e' -> ∃ e, (s.o id).epoch = some e /\ e <= e' /\ (e = e' -> φ' id = φ id))
def thenQ (K : S -> Prop) (Q : Xit -> S -> Prop) (e : Xit) (s : S) : Prop := match e with | .normal => K s | e => Q e s
def blockQ (id : Nat) (Q : Xit -> S -> Prop) (e : Xit) (s : S) : Prop := match e with | .exit j => if j = id then Q .normal s else Q (.exit j) s | e => Q e s
def resV (P : Program) (s : S) : List ResultVar -> Option (List V)
 | [] => some []
 | .tmp t :: rs => (resV P s rs).map (s.env t :: ·)
 | .cell a t :: rs => match s.env a with
   | .ptr id off => match s.o id with
     | .row cs => (rowGet P t cs off).bind fun v => (resV P s rs).map (v :: ·)
     | _ => none
   | _ => none
def argsEnv (vs : List V) : Nat -> V := fun i => vs.getD i (.tup [])
def endW (P : Program) (rs : List ResultVar) (out : R) (e : Xit) (s : S) : Prop :=
 match e with
 | .normal | .ret => match resV P s rs with
   | some vs => match toDs s.o vs with
     | some ds => out = .ret ds
     | none => False
   | none => False
 | .pan v => match toD s.o v with
   | some x => out = .pan x
   | none => False
 | .exit _ => False
theorem endW_ret {P : Program} {rs : List ResultVar} {out : R} {s : S} (h : match resV P s rs with
 | some vs => match toDs s.o vs with
   | some ds => out = .ret ds
   | none => False
 | none => False) : ∃ vs ds, resV P s rs = some vs /\ toDs s.o vs = some ds /\ out = .ret ds := by
 split at h
 ·rename_i vs h1
  split at h
  ·rename_i xs h2; exact ⟨vs, xs, h1, h2, h⟩
  ·exact h.elim
 ·exact h.elim
theorem endW_pan {out : R} {s : S} {v : V} (h : match toD s.o v with
 | some x => out = .pan x
 | none => False) : ∃ x, toD s.o v = some x /\ out = .pan x := by
 split at h
 ·rename_i x h1; exact ⟨x, h1, h⟩
 ·exact h.elim
end Go.Proofs.YtealblliddhgiaaGreat
namespace Go.Proofs.YtealblliddhgiaaGreat
section
variable {P : Program} {M : Nat -> Prop} {φ : Place} {H : Hp} {w w' : World}
def Obj'.isArr : Obj' -> Bool
 | .arr .. => true
 | _ => false
theorem frzA_eq (o : Nat -> Obj') (ids : List Nat) : frzA o ids = frz o (ids.filter fun id => (o id).isArr) := by
 induction ids with
 | nil => rfl
 | cons id ids ih =>
   unfold frzA at ih ⊢
   simp only [List.filterMap_cons, List.filter_cons]
   cases hx : o id with
   | arr ep ty sz es =>
     have e : (Obj'.arr ep ty sz es).isArr = true := rfl
     rw [e, if_pos rfl, ih]
     simp only [frz, List.map_cons, hx]
   | _ => exact ih
theorem heap_us (hH : HeapOk M φ H w) {us' : Nat -> Prop} (h : ∀ id, H.us id -> us' id) : HeapOk M φ ⟨H.o, us'⟩ w /\ Trans φ H w φ ⟨H.o, us'⟩ w := by
 have ht : Trans φ H w φ ⟨H.o, us'⟩ w := ⟨Keep.refl _ _, fun b hb => .inl hb, ⟨h, fun id _ hr => ⟨hr, rfl⟩, fun id e' _ he => ⟨e', he, Nat.le_refl _, fun _ => rfl⟩⟩⟩
 exact ⟨hH.of ht (fun _ => False) (fun _ h => h.elim) (fun id _ => ⟨rfl, rfl, fun _ _ _ => rfl⟩) (fun id hn => hH.fresh id fun hu => hn (h id hu)) hH.apart (fun b hb => (hH.ours b hb).2), ht⟩
theorem heap_keep (hH : HeapOk M φ H w) (hk : Keep (fun _ => False) w w') : HeapOk M φ H w' /\ Trans φ H w φ H w' := by
 have ht : Trans φ H w φ H w' := ⟨⟨hk.os, hk.tape, hk.output, hk.size, fun k h _ => hk.block k h fun h => h⟩, fun b hb => .inl hb, StepRel.refl _ _⟩
 exact ⟨hH.of ht (fun _ => False) (fun _ h => h.elim) (fun id _ => ⟨rfl, rfl, fun hl b hb => hk.block b (hH.ours b ⟨id, hl, hb⟩).2 fun h => h⟩) hH.fresh hH.apart (fun b hb => Nat.lt_of_lt_of_le (hH.ours b hb).2 hk.size), ht⟩
theorem put_used {Δ : List (Nat × Obj')} (h : ∀ id ∈ Δ.map (·.1), H.us id) : H.put Δ = ⟨put H.o Δ, H.us⟩ := by
 unfold Hp.put
 congr 1
 funext id
 simp only [eq_iff_iff]
 exact ⟨fun h' => h'.elim (fun h => h) (h id), .inl⟩
theorem frz_ids (o : Nat -> Obj') (ids : List Nat) : (frz o ids).map (·.1) = ids := by
 rw [frz_eq]; simp [Function.comp_def]
structure Cx where
 base : List Deferred
 rd : Bool
def FWr (ro : Option Nat) : Fence := { fn := fun _ => True, depth := none, alive := false, round := ro }
def mark (r : Nat) : Deferred := { target := .collected r, args := #[] }
def Marked (cx : Cx) (w0 : World) (φ : Place) (H : Hp) (w : World) (ds : List Deferred) : Prop :=
 ∃ ms : List Nat, ds = ms.map mark ++ cx.base /\ ms.Nodup /\ (cx.rd = true -> ms = []) /\ ∀ r ∈ ms, w0.heap.size <= r /\ w.heap[r]? = some (.deferred (some [])) /\ ¬ liveB φ H r
theorem Marked.mono {cx : Cx} {w0 : World} {φ φ' : Place} {H H' : Hp} {w w' : World} {ds : List Deferred} (ht : Trans φ H w φ' H' w') (h : Marked cx w0 φ H w ds) : Marked cx w0 φ' H' w' ds := by
 obtain ⟨ms, h1, h2, h3, h4⟩ := h
 refine ⟨ms, h1, h2, h3, fun r hr => ?_⟩
 obtain ⟨g1, g2, g3⟩ := h4 r hr
 have hlt : r < w.heap.size := by
  rcases Nat.lt_or_ge r w.heap.size with hl | hl
  ·exact hl
  ·rw [Array.getElem?_eq_none hl] at g2; cases g2
 refine ⟨g1, (ht.keep.block r hlt g3).trans g2, fun hl => ?_⟩
 rcases ht.grow r hl with h | h
 ·exact g3 h
 ·omega
structure SimC (M : Nat -> Prop) (φ0 : Place) (H0 : Hp) (w0 : World) (n : Nat) (cx : Cx) (φ : Place) (s : S) (a : Act) (w : World) : Prop where
 heap : HeapOk M φ s.H w
 tr : Trans φ0 H0 w0 φ s.H w
 size : a.tmps.size = n
 defers : Marked cx w0 φ s.H w a.defers
 env : ∀ i, V.den (mutB M φ s.H) φ s.H w (s.env i) (a.tmps.getD i undef)
variable {φ0 : Place} {H0 : Hp} {w0 : World} {n : Nat} {s : S} {a : Act} {cx : Cx} {ro : Option Nat} {k : Nat}
theorem callsIn_fw {f : FuncId} {args : Array Value} {R : Ending -> World -> Prop} (h : Calls P f args w R) : CallsIn (FWr ro) k P f args w R :=
 ⟨trivial, fun cs _ => let ⟨e, w', fr, r, s, x⟩ := h cs; ⟨e, w', fr, r, comesIn_wide.2 s, x⟩⟩
theorem calls_fw {f : FuncId} {args : Array Value} {R : Ending -> World -> Prop} (h : CallsIn (FWr ro) k P f args w R) : Calls P f args w R :=
 fun cs => let ⟨e, w', fr, r, s, x⟩ := h.2 cs (fun _ h => by simp [FWr] at h); ⟨e, w', fr, r, comesIn_wide.1 s, x⟩
theorem wpIn_fw {o : Oper} {next : Act -> World -> Prop} {Q : Exit -> Act -> World -> Prop} (hnd : ∀ c, o.op ≠ .defer c) (h : o.uponIn (FWr ro) k P a next Q ((execOp a.eval o).run P w)) : o.wpIn (FWr ro) k P a w next Q :=
 ⟨fun _ _ => trivial, by rw [Oper.semAt_eq _ _ _ hnd]; exact h⟩
theorem sim_put (hs : SimC M φ0 H0 w0 n cx φ s a w) {φ' : Place} {H' : Hp} (hH : HeapOk M φ' H' w') (ht : Trans φ s.H w φ' H' w') {v : V} {val : Value} (hd : V.den (mutB M φ' H') φ' H' w' v val) {dst : Option Tmp} (hdst : dstOk n dst)
 {o' : Nat -> Obj'} {nx' : Nat} (ho : H'.o = o') (hu : ∀ id, H'.us id -> id < nx') : SimC M φ0 H0 w0 n cx φ' ⟨putE s.env dst v, o', nx'⟩ (a.put dst val) w' := by
 obtain ⟨k1, k2⟩ := heap_us hH hu
 subst ho
 refine ⟨k1, hs.tr.trans (ht.trans k2), ?_, ?_, fun i => ?_⟩
 ·cases dst <;> simp [Act.put, hs.size]
 ·have := hs.defers.mono (ht.trans k2); cases dst <;> exact this
 ·cases dst with
  | none => exact V.den_mono (ht.trans k2) _ _ (hs.env i)
  | some d =>
    simp only [dstOk] at hdst
    simp only [putE, upd_apply, Act.put]
    by_cases hi : i = d
    ·subst hi
     have h1 : (a.tmps.setIfInBounds i val).getD i undef = val := by simp [Array.getD, hs.size, hdst]
     rw [if_pos rfl, h1]
     exact V.den_mono k2 _ _ hd
    ·have h1 : (a.tmps.setIfInBounds d val).getD i undef = a.tmps.getD i undef := by
      simp only [Array.getD_eq_getD_getElem?]
      rw [Array.getElem?_setIfInBounds_ne (Ne.symm hi)]
     rw [if_neg hi, h1]
     exact V.den_mono (ht.trans k2) _ _ (hs.env i)
theorem sim_heap (hs : SimC M φ0 H0 w0 n cx φ s a w) {φ' : Place} {H' : Hp} (hH : HeapOk M φ' H' w') (ht : Trans φ s.H w φ' H' w') {o' : Nat -> Obj'} {nx' : Nat} (ho : H'.o = o') (hu : ∀ id, H'.us id -> id < nx') :
 SimC M φ0 H0 w0 n cx φ' ⟨s.env, o', nx'⟩ a w' := by
 obtain ⟨k1, k2⟩ := heap_us hH hu
 subst ho
 exact ⟨k1, hs.tr.trans (ht.trans k2), hs.size, hs.defers.mono (ht.trans k2), fun i => V.den_mono (ht.trans k2) _ _ (hs.env i)⟩
theorem put_us {Δ : List (Nat × Obj')} (h : ∀ id ∈ Δ.map (·.1), s.H.us id \/ id = s.nx) (id : Nat) (hu : (s.H.put Δ).us id) : id < s.nx + 1 := by
 rcases hu with hu | hu
 ·exact Nat.lt_succ_of_lt hu
 ·rcases h id hu with h | h
  ·exact Nat.lt_succ_of_lt h
  ·omega
variable {next : Act -> World -> Prop} {Q : Exit -> Act -> World -> Prop} {X : V -> S -> Prop} {K : S -> Prop}
theorem sop_wp (hs : SimC M φ0 H0 w0 n cx φ s a w) {o : Oper} {op : Op} (hop : o.op = op) (hdst : dstOk n o.dst) (h : sop P s s.nx op fun v Δ _ => K ⟨putE s.env o.dst v, put s.o Δ, s.nx + 1⟩)
 (hN : ∀ s' φ' a' w', K s' -> SimC M φ0 H0 w0 n cx φ' s' a' w' -> next a' w') : o.wpIn (FWr ro) k P a w next Q := by
 obtain ⟨nx, val, w', φ', v, Δ, rd, hK, hr, hnx, g1, g2, g3, g4⟩ := sop_sound hs.heap (s := s) rfl hs.env (fr := s.nx) (by simp [S.H]) hop h
 have hsim := sim_put hs g1 g2 g3 hdst (o' := put s.o Δ) (nx' := s.nx + 1) rfl (put_us g4)
 refine wpIn_fw (fun c hc => by rw [hop] at hc; subst hc; exact h) ?_
 rw [hr]
 rcases hnx with rfl | ⟨rfl, rfl⟩
 ·exact hN _ _ _ _ hK hsim
 ·exact hN _ _ _ _ hK hsim
theorem V.dens_append3 {B : Nat -> Prop} {asz bs cs : List V} {u v x : List Value} (h1 : V.dens B φ H w asz u) (h2 : V.dens B φ H w bs v) (h3 : V.dens B φ H w cs x) : V.dens B φ H w (asz ++ bs ++ cs) (u ++ v ++ x) :=
 V.dens_append _ _ _ _ (V.dens_append _ _ _ _ h1 h2) h3
theorem run_enter {f : FuncId} (h : Enters P f) (args : Array Value) : (callFunc f args).run P w = .ok (.enter f args) w := by
 obtain ⟨fn, h1, h2, h3⟩ := h
 have h2' : fn.name ≠ "runtime.NumGoroutine" := by simpa using h2
 have h3' : fn.body ≠ none := fun h => by rw [h] at h3; cases h3
 simp [callFunc, h1, h2', h3']
theorem retV_den : ∀ {rs : List D} {val : Value}, R.is (mutB M φ H) w (.ret rs) (.returned val) -> V.den (mutB M φ H) φ H w (retV rs) val
 | [], _, h => by obtain ⟨arr, rfl, h⟩ := h; exact ⟨arr, rfl, h⟩
 | [x], _, h => h
 | x :: y :: l, _, h => by obtain ⟨arr, rfl, h⟩ := h; exact ⟨arr, rfl, (V.dens_map_d (x :: y :: l) _).2 h⟩
theorem R.flat_is {B B' : Nat -> Prop} : ∀ {out : R} {e : Ending}, out.flat = true -> out.is B w e -> out.is B' w e
 | .ret [], .returned _, _, h => by obtain ⟨arr, rfl, h⟩ := h; exact ⟨arr, rfl, h⟩
 | .ret [x], .returned _, hf, h => by
   simp only [R.flat, D.flats, Bool.and_true] at hf
   exact D.flat_den x _ hf h
 | .ret (x :: y :: l), .returned _, hf, h => by obtain ⟨arr, rfl, h⟩ := h; exact ⟨arr, rfl, D.flats_dens (x :: y :: l) _ hf h⟩
 | .pan d, .panicked _, hf, h => by obtain ⟨v, rfl, h⟩ := h; exact ⟨v, rfl, D.flat_den d v hf h⟩
 | .ret [], .panicked _, _, h | .ret [_], .panicked _, _, h | .ret (_ :: _ :: _), .panicked _, _, h | .ret [], .outgrown, _, h | .ret [_], .outgrown, _, h | .ret (_ :: _ :: _), .outgrown, _, h | .pan _, .returned _, _, h | .pan _, .outgrown, _, h => h.elim
theorem R.nomap_is {B B' : Nat -> Prop} {w' : World} (hb : ∀ b, Celly w' b -> ¬ B b -> ¬ B' b) : ∀ {out : R} {e : Ending}, out.nomap = true -> out.is B w' e -> out.is B' w' e
 | .ret [], .returned _, _, h => by obtain ⟨arr, rfl, h⟩ := h; exact ⟨arr, rfl, h⟩
 | .ret [x], .returned _, hf, h => by
   simp only [R.nomap, D.nomaps, Bool.and_true] at hf
   exact D.nomap_den (fun b hc hn => ⟨rfl, hb b hc hn⟩) x _ hf h
 | .ret (x :: y :: l), .returned _, hf, h => by obtain ⟨arr, rfl, h⟩ := h; exact ⟨arr, rfl, D.nomaps_dens (fun b hc hn => ⟨rfl, hb b hc hn⟩) (x :: y :: l) _ hf h⟩
 | .pan d, .panicked _, hf, h => by obtain ⟨v, rfl, h⟩ := h; exact ⟨v, rfl, D.nomap_den (fun b hc hn => ⟨rfl, hb b hc hn⟩) d v hf h⟩
 | .ret [], .panicked _, _, h | .ret [_], .panicked _, _, h | .ret (_ :: _ :: _), .panicked _, _, h | .ret [], .outgrown, _, h | .ret [_], .outgrown, _, h | .ret (_ :: _ :: _), .outgrown, _, h | .pan _, .returned _, _, h | .pan _, .outgrown, _, h => h.elim
theorem lends (hH : HeapOk M φ H w) {o : Nat -> Obj'} : ∀ (vs : List V) (vals : List Value), (∀ id ∈ lendIds o vs, H.o id = (o id).fz) -> V.dens (mutB M φ H) φ H w vs vals -> V.dens (mutB M φ H) φ H w (vs.map (lendV o)) vals
 | [], _, _, h => h
 | v :: vs, _, ho, h => by
   obtain ⟨u, us, rfl, h1, h2⟩ := h
   refine ⟨u, us, rfl, ?_, lends hH vs us (fun id hid => ho id (by simp [lendIds, hid])) h2⟩
   unfold lendV
   split
   ·rename_i x hx
    exact toD_den hH v x u (fun id hid => ho id (by simp [lendIds, hx, hid])) hx h1
   ·exact h1
theorem lendIds_used : ∀ (vs : List V) (vals : List Value) (o : Nat -> Obj'), V.dens (mutB M φ H) φ H w vs vals -> ∀ id ∈ lendIds o vs, H.us id
 | [], _, _, _, j, hj => by simp [lendIds] at hj
 | v :: vs, _, o, h, j, hj => by
   obtain ⟨u, us, rfl, h1, h2⟩ := h
   simp only [lendIds, List.mem_append] at hj
   rcases hj with hj | hj
   ·cases hx : toD o v with
    | none => simp [hx] at hj
    | some x => simp only [hx] at hj; exact ids_used v u h1 j hj
   ·exact lendIds_used vs us o h2 j hj
theorem heap_call (hs : SimC M φ0 H0 w0 n cx φ s a w) {o : Oper} {g : FuncId} {all : List V} {vals : Array Value} (hdst : dstOk n o.dst) (hrun : Enters P g -> (execOp a.eval o).run P w = .ok (.enter g vals) w) (hall : V.dens (mutB M φ s.H) φ s.H w all vals.toList)
 (h : CtK P g all s.o s.nx (fun v o' nx' => K ⟨putE s.env o.dst v, o', nx'⟩) (fun v o' nx' => X v ⟨s.env, o', nx'⟩))
 (hN : ∀ s' φ' a' w', K s' -> SimC M φ0 H0 w0 n cx φ' s' a' w' -> next a' w')
 (hQ : ∀ v s' φ' w' val, X v s' -> SimC M φ0 H0 w0 n cx φ' s' a w' -> V.den (mutB M φ' s'.H) φ' s'.H w' v val -> Q (.panic [{ v := val, recovered := false }]) a w') : o.uponIn (FWr ro) k P a next Q ((execOp a.eval o).run P w) := by
 have hcall := h.2 M φ w vals hs.heap hall
 rw [hrun h.1]
 refine ⟨fun hd => by simp [FWr] at hd, callsIn_fw (hcall.mono fun e w' ⟨φ', o', nx', v, k1, k2, k3⟩ => ?_)⟩
 cases e with
 | returned val => exact hN _ _ _ _ k3.2 (sim_put hs k1 k2 k3.1 hdst rfl fun id hu => hu)
 | panicked ch =>
   obtain ⟨val, rfl, k4, k5⟩ := k3
   exact hQ _ _ _ _ val k5 (sim_heap hs k1 k2 (o' := o') (nx' := nx') rfl fun id hu => hu) k4
 | outgrown => exact k3.elim
theorem calls_wp (hs : SimC M φ0 H0 w0 n cx φ s a w) {o : Oper} {g : FuncId} {all : List V} {vals : Array Value} (hdst : dstOk n o.dst) (hrun : Enters P g -> (execOp a.eval o).run P w = .ok (.enter g vals) w) (hall : V.dens (mutB M φ s.H) φ s.H w all vals.toList)
 (h : callL P s g all (fun v o' nx' => K ⟨putE s.env o.dst v, o', nx'⟩) (fun v o' nx' => X v ⟨s.env, o', nx'⟩))
 (hN : ∀ s' φ' a' w', K s' -> SimC M φ0 H0 w0 n cx φ' s' a' w' -> next a' w')
 (hQ : ∀ v s' φ' w' val, X v s' -> SimC M φ0 H0 w0 n cx φ' s' a w' -> V.den (mutB M φ' s'.H) φ' s'.H w' v val -> Q (.panic [{ v := val, recovered := false }]) a w') : o.uponIn (FWr ro) k P a next Q ((execOp a.eval o).run P w) := by
 unfold callL at h
 obtain ⟨f1, f2, f3, f4, f5⟩ := freezes hs.heap (V.idss all) (idss_used all _ hall)
 have hput : s.H.put (frz s.H.o (V.idss all)) = ⟨put s.o (frz s.o (V.idss all)), s.H.us⟩ := put_used (by rw [frz_ids]; exact idss_used all _ hall)
 have hall1 := V.dens_mono f2 _ _ hall
 rcases h with ⟨ds, out, hds, hP, hK⟩ | ⟨ds, out, hds, hP, hfl, hK⟩ | ⟨ds, out, hds, hP, hnm, hK⟩ | hC | hC
 ·have hdd := toDs_den f1 all ds _ f3 hds hall1
  have hM : ∀ b, mutB M φ (s.H.put (frz s.H.o (V.idss all))) b -> b < w.heap.size := fun b hb => hb.elim (f1.old b) fun hl => (f1.ours b hl).2
  have hcall := hP.2 _ w vals hM hdd
  rw [hrun hP.1]
  refine ⟨fun hd => by simp [FWr] at hd, callsIn_fw (hcall.mono fun e w' ⟨hk, ho⟩ => ?_)⟩
  obtain ⟨k1, k2⟩ := heap_keep f1 hk
  cases out with
  | ret rs =>
    cases e with
    | returned val =>
      refine hN _ _ _ _ hK (sim_put hs k1 (f2.trans k2) (retV_den ho) hdst (by rw [hput]) ?_)
      intro id hu; rw [hput] at hu; exact Nat.lt_succ_of_lt hu
    | panicked ch => cases rs with | nil => exact ho.elim | cons x l => cases l <;> exact ho.elim
    | outgrown => cases rs with | nil => exact ho.elim | cons x l => cases l <;> exact ho.elim
  | pan x =>
    cases e with
    | returned val => exact ho.elim
    | panicked ch =>
      obtain ⟨val, rfl, hd⟩ := ho
      have hsim := sim_heap hs k1 (f2.trans k2) (o' := put s.o (frz s.o (V.idss all))) (nx' := s.nx + 1) (by rw [hput]) (fun id hu => by rw [hput] at hu; exact Nat.lt_succ_of_lt hu)
      refine hQ _ _ _ _ val hK hsim ?_
      have e1 : mutB M φ (S.H ⟨s.env, put s.o (frz s.o (V.idss all)), s.nx + 1⟩) = mutB M φ (s.H.put (frz s.H.o (V.idss all))) := by rw [hput]; rfl
      simp only [V.den]
      rw [e1]; exact hd
    | outgrown => exact ho.elim
 ·have hdd := toDs_den f1 all ds _ f3 hds hall1
  have hM : ∀ b, mutB M φ (s.H.put (frz s.H.o (V.idss all))) b -> b < w.heap.size := fun b hb => hb.elim (f1.old b) fun hl => (f1.ours b hl).2
  have hcall := hP.2 _ w vals hM hdd
  rw [hrun hP.1]
  refine ⟨fun hd => by simp [FWr] at hd, callsIn_fw (hcall.mono fun e w' ⟨hk, ho⟩ => ?_)⟩
  obtain ⟨k1, k2⟩ := heap_keep hs.heap hk
  have ho := R.flat_is (B' := mutB M φ s.H) hfl ho
  cases out with
  | ret rs =>
    cases e with
    | returned val =>
      exact hN _ _ _ _ hK (sim_put hs k1 k2 (retV_den ho) hdst rfl fun id hu => Nat.lt_succ_of_lt hu)
    | panicked ch => cases rs with | nil => exact ho.elim | cons x l => cases l <;> exact ho.elim
    | outgrown => cases rs with | nil => exact ho.elim | cons x l => cases l <;> exact ho.elim
  | pan x =>
    cases e with
    | returned val => exact ho.elim
    | panicked ch =>
      obtain ⟨val, rfl, hd⟩ := ho
      exact hQ _ _ _ _ val hK (sim_heap hs k1 k2 (o' := s.o) (nx' := s.nx + 1) rfl fun id hu => Nat.lt_succ_of_lt hu) hd
    | outgrown => exact ho.elim
 ·obtain ⟨a1, a2, a3, a4, a5⟩ := freezes hs.heap ((V.idss all).filter fun id => (s.o id).isArr) (fun id hid => idss_used all _ hall id (List.mem_filter.1 hid).1)
  have hputA : s.H.put (frz s.H.o ((V.idss all).filter fun id => (s.o id).isArr)) = ⟨put s.o (frzA s.o (V.idss all)), s.H.us⟩ := by
   rw [frzA_eq]
   exact put_used (by rw [frz_ids]; exact fun id hid => idss_used all _ hall id (List.mem_filter.1 hid).1)
  have hdd := toDs_den f1 all ds _ f3 hds hall1
  have hM : ∀ b, mutB M φ (s.H.put (frz s.H.o (V.idss all))) b -> b < w.heap.size := fun b hb => hb.elim (f1.old b) fun hl => (f1.ours b hl).2
  have hcall := hP.2 _ w vals hM hdd
  rw [hrun hP.1]
  refine ⟨fun hd => by simp [FWr] at hd, callsIn_fw (hcall.mono fun e w' ⟨hk, ho⟩ => ?_)⟩
  obtain ⟨k1, k2⟩ := heap_keep a1 hk
  have hsub : ∀ b, Celly w' b -> ¬ mutB M φ (s.H.put (frz s.H.o (V.idss all))) b -> ¬ mutB M φ (s.H.put (frz s.H.o ((V.idss all).filter fun id => (s.o id).isArr))) b := by
   intro b hc hn hm
   rcases hm with hM | ⟨id, hl, hb⟩
   ·exact hn (.inl hM)
   ·by_cases hid : id ∈ V.idss all
    ·cases hx : s.H.o id with
     | arr ep ty sz es =>
       rw [a3 id (List.mem_filter.2 ⟨hid, by show (s.H.o id).isArr = true; rw [hx]; rfl⟩), hx] at hl
       cases hl
     | map kt vt l =>
       have hni : id ∉ (V.idss all).filter fun id => (s.o id).isArr := fun h => by
        have h2 : (s.H.o id).isArr = true := (List.mem_filter.1 h).2
        rw [hx] at h2; cases h2
       have hok := k1.ok id
       unfold ObjOk at hok
       rw [a4 id hni, hx] at hok
       obtain ⟨b', es, clock, g1, g2, _⟩ := hok
       rw [g1] at hb
       injection hb with hb
       subst hb
       obtain ⟨cs, ty, fz, hc⟩ := hc
       rw [g2] at hc
       cases hc
     | _ =>
       have hni : id ∉ (V.idss all).filter fun id => (s.o id).isArr := fun h => by
        have h2 : (s.H.o id).isArr = true := (List.mem_filter.1 h).2
        rw [hx] at h2; cases h2
       refine hn (.inr ⟨id, ?_, hb⟩)
       rw [a4 id hni, hx] at hl
       rw [f3 id hid, hx]
       exact hl
    ·have hni : id ∉ (V.idss all).filter fun id => (s.o id).isArr := fun h => hid (List.mem_filter.1 h).1
     refine hn (.inr ⟨id, ?_, hb⟩)
     rw [a4 id hni] at hl
     rw [f4 id hid]
     exact hl
  have ho := R.nomap_is (w' := w') (B' := mutB M φ (s.H.put (frz s.H.o ((V.idss all).filter fun id => (s.o id).isArr)))) hsub hnm ho
  cases out with
  | ret rs =>
    cases e with
    | returned val =>
      refine hN _ _ _ _ hK (sim_put hs k1 (a2.trans k2) (retV_den ho) hdst (by rw [hputA]) ?_)
      intro id hu; rw [hputA] at hu; exact Nat.lt_succ_of_lt hu
    | panicked ch => cases rs with | nil => exact ho.elim | cons x l => cases l <;> exact ho.elim
    | outgrown => cases rs with | nil => exact ho.elim | cons x l => cases l <;> exact ho.elim
  | pan x =>
    cases e with
    | returned val => exact ho.elim
    | panicked ch =>
      obtain ⟨val, rfl, hd⟩ := ho
      have hsim := sim_heap hs k1 (a2.trans k2) (o' := put s.o (frzA s.o (V.idss all))) (nx' := s.nx + 1) (by rw [hputA]) (fun id hu => by rw [hputA] at hu; exact Nat.lt_succ_of_lt hu)
      refine hQ _ _ _ _ val hK hsim ?_
      have e1 : mutB M φ (S.H ⟨s.env, put s.o (frzA s.o (V.idss all)), s.nx + 1⟩) = mutB M φ (s.H.put (frz s.H.o ((V.idss all).filter fun id => (s.o id).isArr))) := by rw [hputA]; rfl
      simp only [V.den]
      rw [e1]; exact hd
    | outgrown => exact ho.elim
 ·exact heap_call hs hdst hrun hall hC hN hQ
 ·obtain ⟨f1, f2, f3, f4, f5⟩ := freezes hs.heap (lendIds s.o all) (lendIds_used all _ s.o hall)
  have hput : s.H.put (frz s.H.o (lendIds s.o all)) = hp (put s.o (frz s.o (lendIds s.o all))) s.nx := put_used (by rw [frz_ids]; exact lendIds_used all _ s.o hall)
  have hall1 := lends f1 all _ f3 (V.dens_mono f2 _ _ hall)
  rw [hput] at f1 f2 hall1
  exact heap_call (s := ⟨s.env, put s.o (frz s.o (lendIds s.o all)), s.nx⟩) (sim_heap hs f1 f2 rfl fun id hu => hu) hdst hrun hall1 hC hN hQ
theorem call_wp (hs : SimC M φ0 H0 w0 n cx φ s a w) {o : Oper} {c : Call} {f : Operand} (hop : o.op = .call c) (hc : c.callee = .value f) (hdst : dstOk n o.dst)
 (h : callW P s (s.ev f) (c.args.toList.map s.ev) (fun v o' nx' => K ⟨putE s.env o.dst v, o', nx'⟩) (fun v o' nx' => X v ⟨s.env, o', nx'⟩))
 (hN : ∀ s' φ' a' w', K s' -> SimC M φ0 H0 w0 n cx φ' s' a' w' -> next a' w')
 (hQ : ∀ v s' φ' w' val, X v s' -> SimC M φ0 H0 w0 n cx φ' s' a w' -> V.den (mutB M φ' s'.H) φ' s'.H w' v val -> Q (.panic [{ v := val, recovered := false }]) a w') : o.wpIn (FWr ro) k P a w next Q := by
 refine wpIn_fw (fun c' hc' => by rw [hop] at hc'; cases hc') ?_
 have hf := ev_den (M := M) (φ := φ) (H := s.H) (w := w) s a hs.env f
 have hargs := evs_den (M := M) (φ := φ) (H := s.H) (w := w) s a hs.env c.args.toList
 unfold callW at h
 split at h
 ·rename_i g first cap hfv
  rw [hfv] at hf
  obtain ⟨fa, ca, hfe, hfa, hca⟩ := hf
  have hall : V.dens (mutB M φ s.H) φ s.H w (first ++ c.args.toList.map s.ev ++ cap) (fa ++ c.args.map a.eval ++ ca).toList := by
   rw [Array.toList_append, Array.toList_append, Array.toList_map]
   exact V.dens_append3 hfa hargs hca
  generalize first ++ c.args.toList.map s.ev ++ cap = all at h hall
  generalize hvals : fa ++ c.args.map a.eval ++ ca = vals at hall
  have hrun : Enters P g -> (execOp a.eval o).run P w = .ok (.enter g vals) w := by
   intro he
   have := run_enter (w := w) he (fa ++ c.args.map a.eval ++ ca)
   rw [hvals] at this
   simp [execOp, hop, resolve, hc, hfe, Deferred.ofValue, invoke, this, hvals]
  exact calls_wp hs hdst hrun hall h hN hQ
 ·rename_i id hfv
  rw [hfv] at hf
  obtain ⟨_, hus, hp'⟩ := hf
  obtain ⟨hrow, hR⟩ := h
  obtain ⟨b, hφ, hfe⟩ := hp' hrow
  obtain ⟨fn, tmps, assign, body, h1, h2⟩ := hR M φ w (c.args.map a.eval) b hs.heap (by rw [Array.toList_map]; exact hargs) hφ
  have hrun : (execOp a.eval o).run P w = .ok (.round b fn tmps assign body) w := by
   simp [execOp, hop, resolve, hc, hfe, Deferred.ofValue, invoke, h1]
  rw [hrun]
  refine ⟨fun hd => by simp [FWr] at hd, RoundIn.mono (h2 (k - 1)) fun e w' ⟨φ', o', nx', v, k1, k2, k3⟩ => ?_⟩
  cases e with
  | returned val => exact hN _ _ _ _ k3.2 (sim_put hs k1 k2 k3.1 hdst rfl fun id hu => hu)
  | panicked ch =>
    obtain ⟨val, rfl, k4, k5⟩ := k3
    exact hQ _ _ _ _ val k5 (sim_heap hs k1 k2 (o' := o') (nx' := nx') rfl fun id hu => hu) k4
  | outgrown => exact k3.elim
 ·exact h.elim
theorem invoke_wp (hs : SimC M φ0 H0 w0 n cx φ s a w) {o : Oper} {c : Call} {r : Operand} {m : String} {g : FuncId} {y : V} (hop : o.op = .call c) (hc : c.callee = .invoke r m) (hdst : dstOk n o.dst) (hr : recvT P m (s.ev r) = some (g, y))
 (h : callL P s g (y :: c.args.toList.map s.ev) (fun v o' nx' => K ⟨putE s.env o.dst v, o', nx'⟩) (fun v o' nx' => X v ⟨s.env, o', nx'⟩))
 (hN : ∀ s' φ' a' w', K s' -> SimC M φ0 H0 w0 n cx φ' s' a' w' -> next a' w')
 (hQ : ∀ v s' φ' w' val, X v s' -> SimC M φ0 H0 w0 n cx φ' s' a w' -> V.den (mutB M φ' s'.H) φ' s'.H w' v val -> Q (.panic [{ v := val, recovered := false }]) a w') : o.wpIn (FWr ro) k P a w next Q := by
 refine wpIn_fw (fun c' hc' => by rw [hop] at hc'; cases hc') ?_
 have hf := ev_den (M := M) (φ := φ) (H := s.H) (w := w) s a hs.env r
 have hargs := evs_den (M := M) (φ := φ) (H := s.H) (w := w) s a hs.env c.args.toList
 unfold recvT at hr
 split at hr
 ·rename_i t d hx
  rw [hx] at hf
  obtain ⟨val, hv, hd⟩ := hf
  split at hr
  ·rename_i ti hti
   split at hr
   ·rename_i mr hro
    split at hr
    ·rename_i f hfn
     split at hr
     ·rename_i hcond
      injection hr with hr
      injection hr with h1 h2
      subst h1; subst h2
      refine calls_wp (vals := #[val] ++ c.args.map a.eval) hs hdst ?_ ?_ h hN hQ
      ·intro he
       have hrun := run_enter (w := w) he (#[val] ++ c.args.map a.eval)
       have hpa : mr.path = #[] := Array.isEmpty_iff.1 hcond.1
       have hu : ∃ u, P.underlying t = some u /\ ∀ e, u ≠ .pointer e := by
        have := hcond.2
        unfold noPtr at this
        split at this
        ·cases this
        ·rename_i u hne hu; exact ⟨u, hu, fun e he => hne e he⟩
        ·cases this
       obtain ⟨u, hu, hnp⟩ := hu
       have hm : (method (P.types.size + Made.depth) t val m).run P w = .ok (f, val) w := by
        have : P.types.size + Made.depth = (P.types.size + Made.depth - 1) + 1 := by simp [Made.depth]
        rw [this]
        cases u <;> first | exact absurd rfl (hnp _) | simp [method, typeInfo, hti, hro, hpa, hfn, follow, receiverAt, run_underlying hu, _root_.Go.Place.get]
       have h0 : (#[Value.iface t val] ++ Array.map a.eval c.args)[0]? = some (.iface t val) := by
        rw [Array.getElem?_append_left (by simp)]; rfl
       have h1 : (Array.map a.eval c.args).extract 0 c.args.size = Array.map a.eval c.args := by
        rw [show c.args.size = (Array.map a.eval c.args).size from by simp, Array.extract_size]
       simp [execOp, hop, resolve, hc, invoke, callMethod, hv, h0, h1, hm, hrun]
      ·simp only [Array.toList_append, Array.toList_map]
       exact ⟨val, _, rfl, hd, hargs⟩
     ·cases hr
    ·cases hr
   ·cases hr
  ·cases hr
 ·cases hr
theorem opW_sound (hs : SimC M φ0 H0 w0 n cx φ s a w) {o : Oper} (h : opW P n s o X K)
 (hN : ∀ s' φ' a' w', K s' -> SimC M φ0 H0 w0 n cx φ' s' a' w' -> next a' w')
 (hQ : ∀ v s' φ' w' val, X v s' -> SimC M φ0 H0 w0 n cx φ' s' a w' -> V.den (mutB M φ' s'.H) φ' s'.H w' v val -> Q (.panic [{ v := val, recovered := false }]) a w') : o.wpIn (FWr ro) k P a w next Q := by
 obtain ⟨hdst, h⟩ := h
 split at h
 ·rename_i c hop
  split at h
  ·rename_i f hc
   exact call_wp hs hop hc hdst h hN hQ
  ·rename_i r m hc
   split at h
   ·rename_i g y hr; exact invoke_wp hs hop hc hdst hr h hN hQ
   ·exact h.elim
  ·exact sop_wp hs rfl hdst h hN
 ·rename_i x hop
  have hx := ev_den (M := M) (φ := φ) (H := s.H) (w := w) s a hs.env x
  have pan : ∀ (t : TypeId) (u : Value), a.eval x = .iface t u -> Q (.panic [{ v := .iface t u, recovered := false }]) a w -> o.wpIn (FWr ro) k P a w next Q := by
   intro t u hu hq
   refine wpIn_fw (fun c hc => by rw [hop] at hc; cases hc) ?_
   have hr : (execOp a.eval o).run P w = .halt (.panic (.iface t u)) w := by simp [execOp, hop, hu, Instr.panic]
   rw [hr]; exact hq
  split at h
  ·rename_i t y hv
   rw [hv] at hx
   obtain ⟨u, hu, hd⟩ := hx
   exact pan t u hu (hQ _ s φ w (.iface t u) h hs ⟨u, rfl, hd⟩)
  ·rename_i t y hv
   rw [hv] at hx
   obtain ⟨u, hu, hd⟩ := hx
   exact pan t u hu (hQ _ s φ w (.iface t u) h hs ⟨u, rfl, hd⟩)
  ·exact h.elim
 ·exact sop_wp hs rfl hdst h hN
end
end Go.Proofs.YtealblliddhgiaaGreat
