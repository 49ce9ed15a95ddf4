/-
  A PART OF THE PROOF (put together by program): several texts, one behind the other. Conditions: none.
-/
import Derived.Test.YtealblliddhgiaaGreatOr13
set_option linter.unusedSimpArgs false
set_option linter.unusedVariables false
namespace Go.Proofs.YtealblliddhgiaaGreat
inductive ActR where
  | skip | val (v : V) (Δ : List (Nat × Obj')) (rd : List Nat) | pan (v : V) (ws rd : List Nat) | blk
  deriving Inhabited
def ActR.ok : ActR → Bool
  | .skip | .val .. => true
  | _ => false
def apA (dst : Option Tmp) (x : ActR) (s : S) : S :=
  match x with
  | .skip => ⟨putE s.env dst (.tup []), s.o, s.nx⟩
  | .val v Δ _ => ⟨putE s.env dst v, put s.o Δ, s.nx⟩
  | .pan .. | .blk => ⟨putE s.env dst .junk, s.o, s.nx⟩
def actW : ActR → List Nat
  | .val _ Δ _ => Δ.map (·.1)
  | _ => []
def actR : ActR → List Nat
  | .val _ _ rd => rd
  | .pan _ _ rd => rd
  | _ => []
def PVt (P : Program) (g : FuncId) (ds : List D) (v : V) : Prop :=
  Enters P g ∧ ∀ (M : Nat → Prop) (w : World) (vals : Array Value), (∀ b, M b → b < w.heap.size) → D.dens M w ds vals.toList →
    Calls P g vals w fun e w' => Keep (fun _ => False) w w' ∧ ∃ val, e = .returned val ∧ ∀ φ H, V.den M φ H w' v val
theorem PVt.of_ctk {P : Program} {g : FuncId} {ds : List D} {v : V} (hr : v.refs = []) (h : CtK P g (ds.map .d) (fun _ => .no) 0 (fun v' _ _ => v' = v) (fun _ _ _ => False)) : PVt P g ds v := by
  refine ⟨h.1, fun M w vals hM hd => ?_⟩
  let φ0 : Place := fun _ => .nilFunc
  have hnl : ∀ b, ¬ liveB φ0 (hp (fun _ => .no) 0) b := by rintro b ⟨id, hl, _⟩; simp [hp, Obj'.live] at hl
  refine (h.2 M φ0 w vals (emptyHeap φ0 hM) ((V.dens_map_d _ _).2 (D.dens_mono (w := w) (w' := w) (B := M) (fun b _ hB => ⟨rfl, fun h => h.elim hB (hnl b)⟩) _ _ hd))).mono ?_
  rintro e w' ⟨φ', o', nx', v', k1, k2, k3⟩
  refine ⟨⟨k2.keep.os, k2.keep.tape, k2.keep.output, k2.keep.size, fun k hk _ => k2.keep.block k hk (hnl k)⟩, ?_⟩
  cases e with
  | outgrown => exact k3.elim
  | panicked ch => obtain ⟨_, _, _, h⟩ := k3; exact h.elim
  | returned val =>
    obtain ⟨g1, rfl⟩ := k3
    exact ⟨val, rfl, fun φ H => V.den_refs (B := mutB M φ' (hp o' nx')) (φ := φ') (H := hp o' nx') (fun b hb hm => hb (.inl hm)) v' val (fun id hid => by rw [hr] at hid; cases hid) g1⟩
def StepA (P : Program) (s : S) (fr : Nat) (op : Op) (v : V) (Δ : List (Nat × Obj')) (rd : List Nat) : Prop :=
  ((∃ rd', sopF P s fr op = some (v, Δ, rd')) ∧ rd = opR s op) ∨
  (∃ c f g first cap, op = .call c ∧ c.callee = .value f ∧ s.ev f = .func (.func g) first cap ∧
    ((∃ ds rs, toDs s.o (first ++ c.args.toList.map s.ev ++ cap) = some ds ∧ PCt P g ds (.ret rs) ∧ v = retV rs ∧ rd = opR s op ∧
      (Δ = frz s.o (V.idss (first ++ c.args.toList.map s.ev ++ cap)) ∨ D.flats rs = true ∧ Δ = [])) ∨
     (∃ rs, HCt P g (first ++ c.args.toList.map s.ev ++ cap) rd s.o (.ret rs) Δ ∧ v = retV rs ∧ ∀ id ∈ rd, id < s.nx) ∨
     (∃ ds, toDs s.o (first ++ c.args.toList.map s.ev ++ cap) = some ds ∧ PVt P g ds v ∧ rd = opR s op ∧ Δ = frz s.o (V.idss (first ++ c.args.toList.map s.ev ++ cap))) ∨
     (HVt P g (first ++ c.args.toList.map s.ev ++ cap) rd s.o fr v Δ ∧ ∀ id ∈ rd, id < s.nx)))
def StepP (P : Program) (s : S) (op : Op) (v : V) (ws rd : List Nat) : Prop :=
  ∃ c f g first cap, op = .call c ∧ c.callee = .value f ∧ s.ev f = .func (.func g) first cap ∧
    ((∃ ds x, toDs s.o (first ++ c.args.toList.map s.ev ++ cap) = some ds ∧ PCt P g ds (.pan x) ∧ x.flat = true ∧ v = .d x ∧ rd = opR s op ∧ ws = []) ∨
     (∃ x Δ, HCt P g (first ++ c.args.toList.map s.ev ++ cap) rd s.o (.pan x) Δ ∧ v = .d x ∧ ws = Δ.map (·.1) ∧ ∀ id ∈ rd, id < s.nx))
def guardIs (s : S) (gd : Option (Nat × Bool)) (b : Bool) : Prop :=
  match gd with
  | none => b = true
  | some (d, want) => match s.env d with
    | .d (.bool c) => b = (c == want)
    | .tup [] => b = false
    | _ => False
def OkA (P : Program) (s : S) (fr : Nat) (o : IOp) (x : ActR) : Prop :=
  match x with
  | .skip => guardIs s o.gd false
  | .val v Δ rd => guardIs s o.gd true ∧ StepA P s fr o.op v Δ rd
  | .pan v ws rd => guardIs s o.gd true ∧ StepP P s o.op v ws rd
  | .blk => True
def stF (oc : Nat → IOp) (ac : Nat → ActR) (E : Nat → Bool) (s : S) : Nat → S
  | 0 => s
  | k + 1 => if E k then apA (oc k).dst (ac k) (stF oc ac E s k) else stF oc ac E s k
structure Compat (oc : Nat → IOp) (ac : Nat → ActR) (R : Nat → List Nat) (i j : Nat) : Prop where
  di : ∀ d, (oc i).dst = some d → d ∉ touches (oc j)
  dj : ∀ d, (oc j).dst = some d → d ∉ touches (oc i)
  wi : ∀ id ∈ actW (ac i), id ∉ R j ∧ id ∉ actW (ac j)
  wj : ∀ id ∈ actW (ac j), id ∉ R i
section
variable {P : Program} {oc : Nat → IOp} {ac : Nat → ActR} {s : S} {n : Nat} {E : Nat → Bool} {R : Nat → List Nat} {pr : Nat → Nat → Prop}
theorem putE_other {env : Nat → V} {dst : Option Tmp} {v : V} {t : Nat} (h : ∀ d, dst = some d → d ≠ t) : putE env dst v t = env t := by
  cases dst with
  | none => rfl
  | some d => simp only [putE, upd_apply]; rw [if_neg (fun e => h d rfl e.symm)]
theorem put_other {o : Nat → Obj'} : ∀ {Δ : List (Nat × Obj')} {id : Nat}, id ∉ Δ.map (·.1) → put o Δ id = o id
  | [], _, _ => rfl
  | x :: Δ, id, h => by
    simp only [List.map_cons, List.mem_cons, not_or] at h
    have := put_other (o := upd o x.1 x.2) (Δ := Δ) h.2
    simp only [put, List.foldl_cons] at this ⊢
    rw [this]; simp [h.1]
theorem put_in {o o' : Nat → Obj'} : ∀ {Δ : List (Nat × Obj')} {id : Nat}, id ∈ Δ.map (·.1) ∨ o id = o' id → put o Δ id = put o' Δ id
  | [], _, h => by rcases h with h | h; · simp at h
                   · exact h
  | x :: Δ, id, h => by
    simp only [put, List.foldl_cons]
    refine put_in (Δ := Δ) (o := upd o x.1 x.2) (o' := upd o' x.1 x.2) ?_
    simp only [List.map_cons, List.mem_cons] at h
    simp only [upd_apply]
    by_cases e : id = x.1
    · right; simp [e]
    · rcases h with (h | h) | h
      · exact absurd h e
      · exact .inl h
      · right; simp [e, h]
theorem apA_env_other {dst : Option Tmp} {x : ActR} {t : Nat} (h : ∀ d, dst = some d → d ≠ t) : (apA dst x s).env t = s.env t := by
  cases x <;> exact putE_other h
theorem apA_o_other {dst : Option Tmp} {x : ActR} {id : Nat} (h : id ∉ actW x) : (apA dst x s).o id = s.o id := by
  cases x with
  | val v Δ rd => exact put_other h
  | _ => rfl
theorem apA_env_same {dst : Option Tmp} {x : ActR} {s' : S} {t : Nat} (h : s.env t = s'.env t) : (apA dst x s).env t = (apA dst x s').env t := by
  cases x <;> cases dst <;> simp only [apA, putE, upd_apply] <;> first | exact h | (split <;> first | rfl | exact h)
theorem apA_o_same {dst : Option Tmp} {x : ActR} {s' : S} {id : Nat} (h : s.o id = s'.o id) : (apA dst x s).o id = (apA dst x s').o id := by
  cases x with
  | val v Δ rd => exact put_in (.inr h)
  | _ => exact h
theorem put_comm {o : Nat → Obj'} {Δ Δ' : List (Nat × Obj')} (h : ∀ id ∈ Δ.map (·.1), id ∉ Δ'.map (·.1)) : put (put o Δ) Δ' = put (put o Δ') Δ := by
  funext id
  by_cases h1 : id ∈ Δ.map (·.1)
  · rw [put_other (h id h1)]
    exact put_in (.inl h1)
  · rw [put_other (Δ := Δ) h1]
    by_cases h2 : id ∈ Δ'.map (·.1)
    · exact put_in (.inl h2)
    · rw [put_other h2, put_other h2, put_other h1]
theorem putE_comm {env : Nat → V} {d d' : Option Tmp} {v v' : V} (h : ∀ t, d = some t → d' ≠ some t) : putE (putE env d v) d' v' = putE (putE env d' v') d v := by
  cases d with
  | none => rfl
  | some t =>
    cases d' with
    | none => rfl
    | some t' =>
      have hne : t' ≠ t := fun e => h t rfl (by rw [e])
      funext i
      simp only [putE, upd_apply]
      by_cases e1 : i = t <;> by_cases e2 : i = t'
      · exact absurd (e2.symm.trans e1) hne
      all_goals simp [e1, e2]
      · intro e; exact absurd e.symm hne
      · intro e; exact absurd e hne
theorem apA_comm {d d' : Option Tmp} {x x' : ActR} (hd : ∀ t, d = some t → d' ≠ some t) (hw : ∀ id ∈ actW x, id ∉ actW x') : apA d x (apA d' x' s) = apA d' x' (apA d x s) := by
  cases x <;> cases x' <;> simp only [apA] <;> first
    | rw [putE_comm hd, put_comm hw]
    | rw [putE_comm hd]
def Closed (n : Nat) (pr : Nat → Nat → Prop) (E : Nat → Bool) : Prop := ∀ k, k < n → E k = true → ∀ j, pr k j → E j = true
theorem agree (_ : ∀ k, k < n → ∀ j, pr k j → j < k) (hc : ∀ i j, i < j → j < n → ¬ pr j i → Compat oc ac R i j) (hE : Closed n pr E) {i : Nat} (hi : i < n) (hni : E i = false) (hpi : ∀ j, pr i j → E j = true) :
    (∀ t ∈ touches (oc i), (stF oc ac E s n).env t = (stF oc ac (fun _ => true) s i).env t) ∧ (∀ id ∈ R i, (stF oc ac E s n).o id = (stF oc ac (fun _ => true) s i).o id) := by
  have a : ∀ k, k ≤ i → (∀ t ∈ touches (oc i), (stF oc ac E s k).env t = (stF oc ac (fun _ => true) s k).env t) ∧ (∀ id ∈ R i, (stF oc ac E s k).o id = (stF oc ac (fun _ => true) s k).o id) := by
    intro k
    induction k with
    | zero => intro _; exact ⟨fun _ _ => rfl, fun _ _ => rfl⟩
    | succ k ih =>
      intro hk
      obtain ⟨h1, h2⟩ := ih (by omega)
      simp only [stF, if_true]
      by_cases hek : E k = true
      · simp only [hek, if_true]
        exact ⟨fun t ht => apA_env_same (h1 t ht), fun id hid => apA_o_same (h2 id hid)⟩
      · have hnp : ¬ pr i k := fun hm => hek (hpi k hm)
        have c := hc k i (by omega) hi hnp
        simp only [hek]
        refine ⟨fun t ht => ?_, fun id hid => ?_⟩
        · rw [apA_env_other fun d hd e => c.di d hd (e ▸ ht)]; exact h1 t ht
        · rw [apA_o_other fun hm => (c.wi id hm).1 hid]; exact h2 id hid
  have b : ∀ k, i ≤ k → k ≤ n → (∀ t ∈ touches (oc i), (stF oc ac E s k).env t = (stF oc ac (fun _ => true) s i).env t) ∧ (∀ id ∈ R i, (stF oc ac E s k).o id = (stF oc ac (fun _ => true) s i).o id) := by
    intro k hik
    induction hik with
    | refl => intro _; exact a i (Nat.le_refl _)
    | @step k hik ih =>
      intro hk
      have hik : i ≤ k := hik
      obtain ⟨h1, h2⟩ := ih (by omega)
      simp only [stF]
      by_cases hek : E k = true
      · have hne : i ≠ k := fun e => by rw [e, hek] at hni; cases hni
        have hnp : ¬ pr k i := fun hm => by have := hE k (by omega) hek i hm; rw [hni] at this; cases this
        have c := hc i k (by omega) (by omega) hnp
        simp only [hek, if_true]
        refine ⟨fun t ht => ?_, fun id hid => ?_⟩
        · rw [apA_env_other fun d hd e => c.dj d hd (e ▸ ht)]; exact h1 t ht
        · rw [apA_o_other fun hm => c.wj id hm hid]; exact h2 id hid
      · simp only [hek]; exact ⟨h1, h2⟩
  exact b n (by omega) (Nat.le_refl _)
theorem insert (hc : ∀ i j, i < j → j < n → ¬ pr j i → Compat oc ac R i j) (hE : Closed n pr E) {i : Nat} (hi : i < n) (hni : E i = false) {E' : Nat → Bool} (hE' : ∀ k, E' k = (E k || k == i)) :
    stF oc ac E' s n = apA (oc i).dst (ac i) (stF oc ac E s n) := by
  have a : ∀ k, k ≤ i → stF oc ac E' s k = stF oc ac E s k := by
    intro k
    induction k with
    | zero => intro _; rfl
    | succ k ih =>
      intro hk
      have : E' k = E k := by rw [hE' k]; have : (k == i) = false := by simp; omega
                              simp [this]
      simp only [stF, this, ih (by omega)]
  have b : ∀ k, i + 1 ≤ k → k ≤ n → stF oc ac E' s k = apA (oc i).dst (ac i) (stF oc ac E s k) := by
    intro k hik
    induction hik with
    | refl =>
      intro _
      have h1 : E' i = true := by rw [hE' i]; simp
      simp only [stF, h1, hni, if_true, a i (Nat.le_refl _)]
      rfl
    | @step k hik ih =>
      intro hk
      have hik : i + 1 ≤ k := hik
      have h1 : E' k = E k := by rw [hE' k]; have : (k == i) = false := by simp; omega
                                 simp [this]
      simp only [stF, h1, ih (by omega)]
      by_cases hek : E k = true
      · have hnp : ¬ pr k i := fun hm => by have := hE k (by omega) hek i hm; rw [hni] at this; cases this
        have c := hc i k (by omega) (by omega) hnp
        simp only [hek, if_true]
        refine apA_comm (fun t ht he => ?_) (fun id hid hm => (c.wi id hm).2 hid)
        exact c.di t he (by simp [touches, ht])
      · simp only [hek]; rfl
  exact b n (by omega) (Nat.le_refl _)
end
end Go.Proofs.YtealblliddhgiaaGreat
