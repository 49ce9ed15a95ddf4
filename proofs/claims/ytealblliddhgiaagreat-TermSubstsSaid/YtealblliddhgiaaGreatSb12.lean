/-
  A PART OF THE PROOF. Conditions: none.
-/
import Derived.Test.YtealblliddhgiaaGreatSb11
set_option linter.unusedSimpArgs false
set_option linter.unusedVariables false
namespace Go.Proofs.YtealblliddhgiaaGreat
@[go_sem] theorem envJ_zero (v : V) (l : List V) : envJ (v :: l) 0 = v := rfl
@[go_sem] theorem envJ_succ (v : V) (l : List V) (i : Nat) : envJ (v :: l) (i + 1) = envJ l i := rfl
@[go_sem] theorem envJ_nil (i : Nat) : envJ [] i = .junk := by simp [envJ]
def lookR : List (Nat × Option Nat) -> Nat -> Option Nat
 | [], id => some id
 | (i, r) :: R, id => if i = id then r else lookR R id
def injR (R : List (Nat × Option Nat)) : List Nat -> Bool
 | [] => true
 | i :: l => l.all (fun j => i == j || lookR R i == none || lookR R i != lookR R j) && injR R l
def envLe (ρ : Nat -> Option Nat) (o' o : Nat -> Obj') (nx : Nat) (env : Nat -> V) : List V -> Nat -> Prop
 | [], _ => True
 | v :: l, i => vle ρ o' o nx v (env i) /\ envLe ρ o' o nx env l (i + 1)
def objsLe (ρ : Nat -> Option Nat) (o' o : Nat -> Obj') (nx : Nat) : List Nat -> Prop
 | [] => True
 | i :: l => objLe ρ o' o nx i /\ objsLe ρ o' o nx l
def epLe : Option Nat -> Option Nat -> Prop
 | none, _ => True
 | some _, none => False
 | some a, some b => b <= a
def epsLe (b : Nat) (o' o : Nat -> Obj') : List Nat -> Prop
 | [] => True
 | i :: l => (i < b -> epLe (o' i).epoch (o i).epoch) /\ epsLe b o' o l
theorem put_out {o : Nat -> Obj'} : ∀ (Δ : List (Nat × Obj')) (id : Nat), id ∉ Δ.map (·.1) -> put o Δ id = o id := by
 intro Δ
 induction Δ generalizing o with
 | nil => intro id _; rfl
 | cons p Δ ih =>
   intro id h
   simp only [List.map_cons, List.mem_cons, not_or] at h
   rw [put_cons', ih id h.2]
   simp [h.1]
theorem SLe.to {b : Nat} {s : S} (l : List V) (Δ : List (Nat × Obj')) (nx : Nat) (R : List (Nat × Option Nat)) (h1 : decide (b <= nx) = true) (h2 : (Δ.map (·.1)).all (· < nx) = true) (h3 : injR R (Δ.map (·.1)) = true) (h4 : R.all (fun r => decide (b <= r.1)) = true)
 (h5 : epsLe b (put (fun _ => .no) Δ) s.o (Δ.map (·.1))) (h6 : objsLe (lookR R) (put (fun _ => .no) Δ) s.o nx (Δ.map (·.1))) (h7 : envLe (lookR R) (put (fun _ => .no) Δ) s.o nx s.env l 0) :
 SLe b s ⟨envJ l, put (fun _ => .no) Δ, nx⟩ := by
 have hin : ∀ id, id ∈ Δ.map (·.1) \/ put (fun _ => Obj'.no) Δ id = .no := fun id => by
  by_cases h : id ∈ Δ.map (·.1)
  ·exact .inl h
  ·exact .inr (put_out Δ id h)
 have hobj : ∀ (ids : List Nat), objsLe (lookR R) (put (fun _ => .no) Δ) s.o nx ids -> ∀ id ∈ ids, objLe (lookR R) (put (fun _ => .no) Δ) s.o nx id := by
  intro ids
  induction ids with
  | nil => intro _ id h; cases h
  | cons i ids ih =>
    intro h id hid
    rcases List.mem_cons.1 hid with rfl | hid
    ·exact h.1
    ·exact ih h.2 id hid
 have heps : ∀ (ids : List Nat), epsLe b (put (fun _ => .no) Δ) s.o ids -> ∀ id ∈ ids, id < b -> epLe (put (fun _ => Obj'.no) Δ id).epoch (s.o id).epoch := by
  intro ids
  induction ids with
  | nil => intro _ id h; cases h
  | cons i ids ih =>
    intro h id hid
    rcases List.mem_cons.1 hid with rfl | hid
    ·exact h.1
    ·exact ih h.2 id hid
 have henv : ∀ (l : List V) (i : Nat), envLe (lookR R) (put (fun _ => .no) Δ) s.o nx s.env l i -> ∀ j, vle (lookR R) (put (fun _ => .no) Δ) s.o nx (envJ l j) (s.env (i + j)) := by
  intro l
  induction l with
  | nil => intro i _ j; rw [envJ_nil]; simp [vle]
  | cons v l ih =>
    intro i h j
    cases j with
    | zero => exact h.1
    | succ j =>
      rw [envJ_succ]
      have := ih (i + 1) h.2 j
      rwa [show i + 1 + j = i + (j + 1) by omega] at this
 have hinj : ∀ (ids : List Nat), injR R ids = true -> ∀ i ∈ ids, ∀ j ∈ ids, ∀ k, lookR R i = some k -> lookR R j = some k -> i = j := by
  intro ids
  induction ids with
  | nil => intro _ i h; cases h
  | cons x ids ih =>
    intro h i hi j hj k h1 h2
    simp only [injR, Bool.and_eq_true, List.all_eq_true] at h
    rcases List.mem_cons.1 hi with hi2 | hi2 <;> rcases List.mem_cons.1 hj with hj2 | hj2
    ·exact hi2.trans hj2.symm
    ·subst hi2
     have := h.1 j hj2
     simp only [Bool.or_eq_true, beq_iff_eq, bne_iff_ne, ne_eq] at this
     rcases this with (e | e) | e
     ·exact e
     ·rw [h1] at e; cases e
     ·exact absurd (h1.trans h2.symm) e
    ·subst hj2
     have := h.1 i hi2
     simp only [Bool.or_eq_true, beq_iff_eq, bne_iff_ne, ne_eq] at this
     rcases this with (e | e) | e
     ·exact e.symm
     ·rw [h2] at e; cases e
     ·exact absurd (h2.trans h1.symm) e
    ·exact ih h.2 i hi2 j hj2 k h1 h2
 have hlook : ∀ (R : List (Nat × Option Nat)), R.all (fun r => decide (b <= r.1)) = true -> ∀ id, id < b -> lookR R id = some id := by
  intro R
  induction R with
  | nil => intro _ id _; rfl
  | cons r R ih =>
    intro h id hid
    obtain ⟨i, r⟩ := r
    simp only [List.all_cons, Bool.and_eq_true, decide_eq_true_eq] at h
    unfold lookR
    rw [if_neg (by omega)]
    exact ih h.2 id hid
 have hnl : ∀ id, (put (fun _ => Obj'.no) Δ id).live = true -> id ∈ Δ.map (·.1) := fun id h => by
  rcases hin id with h' | h'
  ·exact h'
  ·rw [h'] at h; cases h
 refine SLe.of_map (lookR R) (by simpa using h1) (fun id => ?_) (fun id hid => ?_) (fun i j k g1 g2 g3 g4 => hinj _ h3 i (hnl i g1) j (hnl j g2) k g3 g4) (fun id hid => ⟨hlook R h4 id hid, fun e' he => ?_⟩) (fun i => by simpa using henv l 0 h7 i)
 ·rcases hin id with h | h
  ·exact hobj _ h6 id h
  ·unfold objLe; simp only [h]
 ·rcases hin id with h | h
  ·have := List.all_eq_true.1 h2 id h
   simp only [decide_eq_true_eq] at this
   simp only at hid
   omega
  ·exact h
 ·rcases hin id with h | h
  ·have := heps _ h5 id h hid
   simp only at he
   rw [he] at this
   cases hs : (s.o id).epoch with
   | none => rw [hs] at this; exact this.elim
   | some e => rw [hs] at this; exact ⟨e, rfl, this⟩
  ·simp only [h] at he; cases he
@[go_sem] theorem nonneg_cast (k : Nat) : (0 <= (k : Int)) = True := by simp
attribute [go_sem] List.getElem?_map List.length_map Int.toNat_natCast
attribute [go_sem] listV List.flatMap_cons List.flatMap_nil
attribute [go_sem] isConst cmpF notV mapNil ptrNil nilF sliceF bndF ptrRow rslRow copyF fieldF indexF assertF
attribute [go_sem] opR V.refs V.refss
attribute [go_sem] envLe objsLe epsLe epLe vle vles objLe lookR froD List.all_nil List.all_cons Option.some.injEq D.int.injEq D.bool.injEq Nat.zero_add Nat.add_zero
theorem wrap64 {n : Int} (h1 : -9223372036854775808 <= n) (h2 : n <= 9223372036854775807) : IntKind.i64.wrap n = n := by
 unfold IntKind.wrap
 have e1 : ((2:Int) ^ IntKind.i64.bits) = 18446744073709551616 := by decide
 have e2 : ((2:Int) ^ (IntKind.i64.bits - 1)) = 9223372036854775808 := by decide
 have e3 : IntKind.i64.signed = true := rfl
 simp only [e1, e2, e3, Bool.true_and, decide_eq_true_eq]
 split <;> omega
end Go.Proofs.YtealblliddhgiaaGreat
namespace Go.Proofs.YtealblliddhgiaaGreat
structure Good (o : Nat -> Obj') (nx : Nat) : Prop where
 fresh : ∀ id, nx <= id -> o id = .no
 refs : ∀ id, ∀ r ∈ (o id).refs, r < nx
theorem Good.nil {nx : Nat} : Good (fun _ => .no) nx := ⟨fun _ _ => rfl, fun id r h => by cases h⟩
theorem Good.upd {o : Nat -> Obj'} {nx i : Nat} {x : Obj'} (h : Good o nx) (hi : i < nx) (hx : x.refs.all (fun r => decide (r < nx)) = true) : Good (upd o i x) nx := by
 refine ⟨fun id hid => ?_, fun id r hr => ?_⟩
 ·rw [upd_ne _ _ _ _ (by omega)]; exact h.fresh id hid
 ·by_cases e : id = i
  ·subst e
   rw [upd_same] at hr
   simpa using List.all_eq_true.1 hx r hr
  ·rw [upd_ne _ _ _ _ e] at hr
   exact h.refs id r hr
theorem Good.mono {o : Nat -> Obj'} {nx m : Nat} (h : Good o nx) (hm : nx <= m) : Good o m := ⟨fun id hid => h.fresh id (by omega), fun id r hr => Nat.lt_of_lt_of_le (h.refs id r hr) hm⟩
theorem Good.lt {o : Nat -> Obj'} {nx id : Nat} (h : Good o nx) (hn : o id ≠ .no) : id < nx := by
 rcases Nat.lt_or_ge id nx with hl | hl
 ·exact hl
 ·exact absurd (h.fresh id hl) hn
theorem V.refss_get : ∀ (l : List V) (i : Nat), ∀ r ∈ (envJ l i).refs, r ∈ V.refss l
 | [], i, r, h => by rw [envJ_nil] at h; cases h
 | v :: l, 0, r, h => by rw [envJ_zero] at h; simp only [V.refss, List.mem_append]; exact .inl h
 | v :: l, i + 1, r, h => by rw [envJ_succ] at h; simp only [V.refss, List.mem_append]; exact .inr (V.refss_get l i r h)
theorem SLe.back {b : Nat} {s : S} {env : Nat -> V} {o : Nat -> Obj'} {nx : Nat} (hb : b <= nx) (hn : nx <= s.nx) (hg : Good o nx) (ho : ∀ id, id < nx -> s.o id = o id)
 (he : ∀ i, env i = .junk \/ (env i = s.env i /\ ∀ r ∈ (env i).refs, r < nx)) : SLe b s ⟨env, o, nx⟩ := by
 intro M φ w tm hH hd
 have hlive : ∀ k, liveB φ (hp o nx) k -> liveB φ s.H k := by
  rintro k ⟨id, h1, h2⟩
  have hid : id < nx := hg.lt (fun e => by simp only [hp] at h1; rw [e] at h1; cases h1)
  exact ⟨id, by simp only [S.H]; rw [ho id hid]; exact h1, h2⟩
 have hB : ∀ k, ¬ mutB M φ s.H k -> ¬ mutB M φ (hp o nx) k := fun k h h' => h (h'.imp id (hlive k))
 have hval : ∀ (v : V) (val : Value), (∀ r ∈ v.refs, r < nx) -> V.den (mutB M φ s.H) φ s.H w v val -> V.den (mutB M φ (hp o nx)) φ (hp o nx) w v val := fun v val hr h =>
  V.den_refs (H := s.H) (H' := hp o nx) hB v val (fun id hid => ⟨(ho id (hr id hid)).symm, rfl, hr id hid⟩) h
 have hvals : ∀ (v : List V) (val : List Value), (∀ r ∈ V.refss v, r < nx) -> V.dens (mutB M φ s.H) φ s.H w v val -> V.dens (mutB M φ (hp o nx)) φ (hp o nx) w v val := fun v val hr h =>
  V.dens_refs (H := s.H) (H' := hp o nx) hB v val (fun id hid => ⟨(ho id (hr id hid)).symm, rfl, hr id hid⟩) h
 refine ⟨φ, ⟨fun id => ?_, fun id hu => hg.fresh id (by simpa [S.H] using hu), fun i j k h1 h2 h3 h4 => ?_, fun k hk => hH.ours k (hlive k hk), hH.old⟩, fun i => ?_, hlive, hb, fun id hid hr => ?_, fun id e' hid he' => ?_⟩
 ·have hall := hH.ok id
  have hrefs := hg.refs id
  unfold ObjOk at hall ⊢
  by_cases hid : id < nx
  ·have e : s.H.o id = o id := ho id hid
   rw [e] at hall
   simp only [S.H] at hall ⊢
   cases hx : o id with
   | no => trivial
   | row cs =>
     simp only [hx] at hall hrefs ⊢
     obtain ⟨b, carr, ty, k1, k2, k3, k4⟩ := hall
     exact ⟨b, carr, ty, k1, k2, hvals _ _ hrefs k3, k4⟩
   | arr ep ty sz es =>
     simp only [hx] at hall ⊢
     obtain ⟨k1, xs, k2, evs, k3, k4, k5⟩ := hall
     exact ⟨k1, xs, k2, evs, k3, k4, D.dens_mono (fun b _ hn => ⟨rfl, hB b hn⟩) _ _ k5⟩
   | fro ep es =>
     simp only [hx] at hall ⊢
     exact D.den_mono (fun b _ hn => ⟨rfl, hB b hn⟩) _ _ hall
   | map kt vt es =>
     simp only [hx] at hall ⊢
     obtain ⟨b, es', clock, k1, k2, k4, k3⟩ := hall
     exact ⟨b, es', clock, k1, k2, k4, EntsDen.mono (fun b _ hn => ⟨rfl, hB b hn⟩) _ _ k3⟩
   | mfro l =>
     simp only [hx] at hall ⊢
     exact D.den_mono (fun b _ hn => ⟨rfl, hB b hn⟩) _ _ hall
   | mit l last =>
     simp only [hx] at hall ⊢
     obtain ⟨b, k1, k2⟩ := hall
     exact ⟨b, k1, k2.mono (fun b _ hn => ⟨rfl, hB b hn⟩) rfl⟩
   | sit s pos =>
     simp only [hx] at hall ⊢
     exact hall
   | loop nf n env ps a b st pd =>
     simp only [hx] at hall hrefs ⊢
     obtain ⟨b, r, k1, k2, k3, k4, k5, k6, k7, k8, k9, k10⟩ := hall
     exact ⟨b, r, k1, k2, k3, k4, k5, k6, k7, k8, k9, fun i => hval _ _ (fun r hr => hrefs r (V.refss_get _ _ r hr)) (k10 i)⟩
  ·simp only [S.H]
   rw [hg.fresh id (by omega)]
   trivial
 ·have hi : i < nx := hg.lt (fun e => by simp only [S.H] at h1; rw [e] at h1; cases h1)
  have hj : j < nx := hg.lt (fun e => by simp only [S.H] at h2; rw [e] at h2; cases h2)
  exact hH.apart i j k (by simp only [S.H]; rw [ho i hi]; exact h1) (by simp only [S.H]; rw [ho j hj]; exact h2) h3 h4
 ·rcases he i with h | ⟨h1, h2⟩
  ·simp only [h]; trivial
  ·have := hd i
   rw [<- h1] at this
   exact hval _ _ h2 this
 ·have hlt : id < nx := by omega
  exact ⟨by rw [ho id hlt]; exact hr, rfl⟩
 ·have hlt : id < nx := by omega
  exact ⟨e', by rw [ho id hlt]; exact he', Nat.le_refl _, fun _ => rfl⟩
def backE (nx : Nat) (env : Nat -> V) : List V -> Nat -> Prop
 | [], _ => True
 | v :: l, i => (v = .junk \/ (v = env i /\ ∀ r ∈ v.refs, r < nx)) /\ backE nx env l (i + 1)
theorem SLe.backL {b : Nat} {e : Nat -> V} {so : Nat -> Obj'} {m : Nat} (l : List V) {o : Nat -> Obj'} {nx : Nat} (hb : b <= nx) (hn : nx <= m) (hg : Good o nx) (ho : ∀ id, id < nx -> so id = o id) (he : backE nx e l 0) : SLe b ⟨e, so, m⟩ ⟨envJ l, o, nx⟩ := by
 refine SLe.back hb hn hg ho ?_
 have key : ∀ (l : List V) (i : Nat), backE nx e l i -> ∀ j, envJ l j = .junk \/ (envJ l j = e (i + j) /\ ∀ r ∈ (envJ l j).refs, r < nx) := by
  intro l
  induction l with
  | nil => intro i _ j; rw [envJ_nil]; exact .inl rfl
  | cons v l ih =>
    intro i h j
    cases j with
    | zero => rw [envJ_zero]; exact h.1
    | succ j =>
      rw [envJ_succ]
      have := ih (i + 1) h.2 j
      rwa [show i + 1 + j = i + (j + 1) by omega] at this
 intro i
 have := key l 0 he i
 rwa [Nat.zero_add] at this
theorem backE_nil {nx : Nat} {env : Nat -> V} {i : Nat} : backE nx env [] i := trivial
theorem backE_junk {nx : Nat} {env : Nat -> V} {l : List V} {i : Nat} (h : backE nx env l (i + 1)) : backE nx env (.junk :: l) i := ⟨.inl rfl, h⟩
theorem backE_d {nx : Nat} {env : Nat -> V} {l : List V} {i : Nat} {x : D} (he : env i = .d x) (h : backE nx env l (i + 1)) : backE nx env (.d x :: l) i := ⟨.inr ⟨he.symm, fun r hr => by simp [V.refs] at hr⟩, h⟩
theorem backE_v {nx : Nat} {env : Nat -> V} {l : List V} {i : Nat} {v : V} (he : env i = v) (hr : ∀ r ∈ v.refs, r < nx) (h : backE nx env l (i + 1)) : backE nx env (v :: l) i := ⟨.inr ⟨he.symm, hr⟩, h⟩
theorem SLe.d0 {e : Nat -> V} {so : Nat -> Obj'} {m : Nat} (l : List V) (he : backE 0 e l 0) : SLe 0 ⟨e, so, m⟩ ⟨envJ l, fun _ => .no, 0⟩ := SLe.backL l (Nat.le_refl 0) (Nat.zero_le _) Good.nil (fun _ h => absurd h (Nat.not_lt_zero _)) he
theorem wrapN {k : Nat} (h : (k : Int) + 1 <= 9223372036854775807) : IntKind.i64.wrap ((k : Int) + 1) = ((k + 1 : Nat) : Int) := by rw [wrap64 (by omega) h]; rfl
theorem d_int {k : IntKind} {a b : Int} (h : a = b) : V.d (D.int k a) = V.d (D.int k b) := by rw [h]
end Go.Proofs.YtealblliddhgiaaGreat
namespace Go.Proofs.YtealblliddhgiaaGreat
abbrev D.i (n : Int) : D := .int .i64 n
structure TNm where
 name : List UInt8
 args : Int
structure TSig where
 cons : List TNm
 funs : List TNm
inductive Tm where
 | mk (op n : Int) (kids : List Tm)
 deriving Inhabited
structure TB where
 var : Int
 term : Tm
def Tm.op : Tm -> Int | .mk op _ _ => op
def Tm.n : Tm -> Int | .mk _ n _ => n
def Tm.kids : Tm -> List Tm | .mk _ _ l => l
theorem Tm.eta (t : Tm) : Tm.mk t.op t.n t.kids = t := by cases t; rfl
theorem Tm.ind {P : Tm -> Prop} (h : ∀ op n kids, (∀ k ∈ kids, P k) -> P (.mk op n kids)) : ∀ t, P t :=
 fun t => Tm.rec (motive_1 := P) (motive_2 := fun l => ∀ k ∈ l, P k) (fun op n kids ih => h op n kids ih) (fun _ h => by cases h)
  (fun x l hx hl k hk => (List.mem_cons.1 hk).elim (fun e => e ▸ hx) (hl k)) t
mutual
def Tm.d : Tm -> D
 | .mk op n kids => .agg [.i op, .i n, .sl (Tm.ds kids)]
def Tm.ds : List Tm -> List D
 | [] => []
 | t :: l => t.d :: Tm.ds l
end
theorem Tm.ds_map : ∀ l : List Tm, Tm.ds l = l.map Tm.d
 | [] => rfl
 | t :: l => by simp [Tm.ds, Tm.ds_map l]
theorem Tm.d_eq (t : Tm) : t.d = .agg [.i t.op, .i t.n, .sl (t.kids.map Tm.d)] := by cases t; simp [Tm.d, Tm.ds_map, Tm.op, Tm.n, Tm.kids]
@[go_sem] theorem Tm.d_fold (t : Tm) : D.agg [.i t.op, .i t.n, .sl (t.kids.map Tm.d)] = t.d := (Tm.d_eq t).symm
@[go_sem] theorem Tm.d_cells (t : Tm) : D.cells t.d = [.i t.op, .i t.n, .sl (t.kids.map Tm.d)] := by rw [Tm.d_eq]; rfl
theorem Tm.ind' {P : Tm -> Prop} (h : ∀ t : Tm, (∀ k ∈ t.kids, P k) -> P t) : ∀ t, P t := Tm.ind fun op n kids ih => h (.mk op n kids) ih
theorem Tm.d_mk (op n : Int) (l : List Tm) : (Tm.mk op n l).d = .agg [.i op, .i n, .sl (l.map Tm.d)] := by simp [Tm.d, Tm.ds_map]
@[reducible] def TNm.d (x : TNm) : D := .agg [.str x.name, .i x.args]
@[reducible] def TSig.d (s : TSig) : D := .agg [.sl (s.cons.map TNm.d), .sl (s.funs.map TNm.d)]
@[reducible] def TB.d (b : TB) : D := .agg [.i b.var, .i b.term.op, .i b.term.n, .sl (b.term.kids.map Tm.d)]
mutual
def Tm.fits : Tm -> Prop
 | .mk _ _ kids => kids.length <= 9223372036854775807 /\ Tm.fitss kids
def Tm.fitss : List Tm -> Prop
 | [] => True
 | t :: l => t.fits /\ Tm.fitss l
end
theorem Tm.fitss_iff : ∀ l : List Tm, Tm.fitss l ↔ ∀ k ∈ l, k.fits
 | [] => by simp [Tm.fitss]
 | t :: l => by simp [Tm.fitss, Tm.fitss_iff l]
theorem Tm.fits_iff (t : Tm) : t.fits ↔ t.kids.length <= 9223372036854775807 /\ ∀ k ∈ t.kids, k.fits := by cases t; simp [Tm.fits, Tm.fitss_iff, Tm.kids]
mutual
def Tm.hgt : Tm -> Nat
 | .mk _ _ kids => 1 + Tm.hgts kids
def Tm.hgts : List Tm -> Nat
 | [] => 0
 | k :: l => Nat.max k.hgt (Tm.hgts l)
end
theorem Tm.hgts_mem : ∀ {l : List Tm} {k : Tm}, k ∈ l -> k.hgt <= Tm.hgts l
 | x :: l, k, h => by
   simp only [Tm.hgts]
   rcases List.mem_cons.1 h with rfl | h
   ·exact Nat.le_max_left _ _
   ·exact Nat.le_trans (Tm.hgts_mem h) (Nat.le_max_right _ _)
theorem Tm.hgt_kid {t k : Tm} (h : k ∈ t.kids) : k.hgt + 1 <= t.hgt := by
 cases t; simp only [Tm.kids] at h; simp only [Tm.hgt]; have := Tm.hgts_mem h; omega
mutual
def pre : Tm -> Int -> List (Tm × Int)
 | .mk op n kids, d => (.mk op n kids, d) :: pres kids (d + 1)
def pres : List Tm -> Int -> List (Tm × Int)
 | [], _ => []
 | k :: l, d => pre k d ++ pres l d
end
theorem pres_flat (l : List Tm) (d : Int) : pres l d = l.flatMap fun k => pre k d := by
 induction l with
 | nil => rfl
 | cons k l ih => simp [pres, ih]
theorem pre_eq (t : Tm) (d : Int) : pre t d = (t, d) :: t.kids.flatMap fun k => pre k (d + 1) := by cases t; simp [pre, pres_flat, Tm.kids]
def inB (n low high : Int) : Bool := decide (low <= n) && decide (n <= high)
def letterF (b : UInt8) : Bool := !((decide ((b.toNat : Int) < 97) || decide (122 < (b.toNat : Int))) && (decide ((b.toNat : Int) < 65) || decide (90 < (b.toNat : Int))))
def nameF (s : List UInt8) : Bool := s.all letterF && inB s.length 1 8
def namesF : List TNm -> List (List UInt8) -> Option (List (List UInt8))
 | [], before => some before
 | x :: l, before => if before.any (· == x.name) then none else if (!nameF x.name || !inB x.args 0 4) = true then none else namesF l (before ++ [x.name])
def fB : List UInt8 := [70, 97, 108, 115, 101]
def tB : List UInt8 := [84, 114, 117, 101]
def isNm (x : TNm) (s : List UInt8) : Bool := x.name == s && x.args == 0
def sigF (s : TSig) : Bool :=
 if (!inB s.cons.length 2 12 || decide (8 < (s.funs.length : Int))) = true then false else
 match s.cons with
 | a :: b :: _ => if (!isNm a fB || !isNm b tB) = true then false else
   match namesF s.cons [] with
   | none => false
   | some l => (namesF s.funs l).isSome
 | _ => false
mutual
def weigh : Tm -> Int -> Int -> Int
 | .mk _ _ kids, left, depth => if left < 1 \/ depth < 1 then -1 else weighs kids (left - 1) (depth - 1)
def weighs : List Tm -> Int -> Int -> Int
 | [], left, _ => left
 | k :: l, left, depth => if 0 <= left then weighs l (weigh k left depth) depth else left
end
def argsOf (l : List TNm) (n : Int) : Int := match l[n.toNat]? with | some x => x.args | none => 0
def nodeF (s : TSig) (t : Tm) : Bool :=
 let k : Int := t.kids.length
 if t.op = 1 then k == 0 && inB t.n 0 19
 else if t.op = 2 then k == 0 && inB t.n (-1000000) 1000000
 else if t.op = 3 then inB t.n 0 (s.cons.length - 1) && k == argsOf s.cons t.n
 else if t.op = 4 then inB t.n 0 (s.funs.length - 1) && k == argsOf s.funs t.n
 else if t.op = 5 then inB t.n 0 (s.funs.length - 1) && decide (k < argsOf s.funs t.n)
 else if t.op = 8 then k == 2 && inB t.n 0 19
 else if (inB t.op 6 15) = true then k == 2 && t.n == 0
 else false
mutual
def nodesF (s : TSig) : Tm -> Bool
 | .mk op n kids => nodeF s (.mk op n kids) && nodessF s kids
def nodessF (s : TSig) : List Tm -> Bool
 | [] => true
 | k :: l => nodesF s k && nodessF s l
end
def termF (s : TSig) (t : Tm) : Bool := decide (0 <= weigh t 40 12) && nodesF s t
mutual
def sameF : Tm -> Tm -> Bool
 | .mk op n kids, .mk op' n' kids' => op == op' && n == n' && kids.length == kids'.length && samesF kids kids'
def samesF : List Tm -> List Tm -> Bool
 | [], _ => true
 | k :: l, k' :: l' => sameF k k' && samesF l l'
 | _ :: _, [] => true
end
def smallF (t : Tm) : Bool := decide (0 <= weigh t 50 14)
def smallNm (l : List TNm) : Bool := l.all fun x => decide ((x.name.length : Int) <= 30)
def smallSigF (s : TSig) : Bool := !(decide (16 < (s.cons.length : Int)) || decide (12 < (s.funs.length : Int))) && smallNm s.cons && smallNm s.funs
end Go.Proofs.YtealblliddhgiaaGreat
namespace Go.Proofs.YtealblliddhgiaaGreat
def roundQ (id : Nat) (K X : V -> (Nat -> Obj') -> Nat -> Prop) (e : Xit) (s : S) : Prop :=
 match e with
 | .normal => ∃ nf m en p c d st pd, s.o id = .loop nf m en p c d st pd /\ K (.d (.bool true)) (upd s.o id (.loop nf m en p c d .ready none)) s.nx
 | .ret => ∃ nf m en p c d st pd, s.o id = .loop nf m en p c d st pd /\ K (.d (.bool false)) (upd s.o id (.loop nf m en p c d .done (some .ret))) s.nx
 | .exit j => ∃ nf m en p c d st pd, s.o id = .loop nf m en p c d st pd /\ K (.d (.bool false)) (upd s.o id (.loop nf m en p c d .done (some (.exit j)))) s.nx
 | .pan v => X v s.o s.nx
def beginQ (P : Program) (n b id : Nat) (icb : IC) (K X : V -> (Nat -> Obj') -> Nat -> Prop) (e : Xit) (s : S) : Prop :=
 match e with
 | .normal => ∃ nf m en p c d pd, s.o id = .loop nf m en p c d .ready pd /\ icW P n b true icb (roundQ id K X) ⟨s.env, upd s.o id (.loop nf m en p c d .busy pd), s.nx⟩
 | .pan v => X v s.o s.nx
 | _ => False
section
variable {P : Program} {M : Nat -> Prop} {φ φ0 : Place} {H0 : Hp} {w w0 : World} {n : Nat} {s : S} {a : Act} {cx : Cx}
theorem put_loop_us {id : Nat} {x : Obj'} {s : S} (hlt : id < s.nx) (j : Nat) (hu : (s.H.put [(id, x)]).us j) : j < s.nx := by
 simp only [put_one_us] at hu
 rcases hu with hu | hu
 ·exact hu
 ·subst hu; exact hlt
theorem params_den {B : Nat -> Prop} {H : Hp} {n : Nat} : ∀ (ps : List Nat) (vs : List V) (us : List Value) (env : Nat -> V) (tmps : Array Value), tmps.size = n -> ps.length = vs.length -> V.dens B φ H w vs us -> ps.all (fun t => decide (t < n)) = true -> (∀ i, V.den B φ H w (env i) (tmps.getD i undef)) ->
 ((ps.zip us).foldl (fun tmps p => tmps.setIfInBounds p.1 p.2) tmps).size = n /\ ∀ i, V.den B φ H w (setP env ps vs i) (((ps.zip us).foldl (fun tmps p => tmps.setIfInBounds p.1 p.2) tmps).getD i undef)
 | [], [], us, env, tmps, hsz, _, hd, _, he => by simp only [V.dens] at hd; subst hd; exact ⟨hsz, he⟩
 | [], v :: vs, us, env, tmps, _, h, _, _, _ => by simp at h
 | t :: ps, [], us, env, tmps, _, h, _, _, _ => by simp at h
 | t :: ps, v :: vs, us, env, tmps, hsz, hl, hd, hp, he => by
   obtain ⟨u, us, rfl, h1, h2⟩ := hd
   simp only [List.all_cons, Bool.and_eq_true, decide_eq_true_eq] at hp
   simp only [List.zip_cons_cons, List.foldl_cons, setP]
   refine params_den ps vs us (upd env t v) (tmps.setIfInBounds t u) (by simp [hsz]) (by simpa using hl) h2 hp.2 (fun i => ?_)
   simp only [upd_apply]
   by_cases hi : i = t
   ·subst hi
    have : (tmps.setIfInBounds i u).getD i undef = u := by simp [Array.getD, hsz, hp.1]
    rw [if_pos rfl, this]; exact h1
   ·have : (tmps.setIfInBounds t u).getD i undef = tmps.getD i undef := by
     simp only [Array.getD_eq_getD_getElem?]
     rw [Array.getElem?_setIfInBounds_ne (Ne.symm hi)]
    rw [if_neg hi, this]; exact he i
theorem RoundK.of_ic (hmix : P.follows .mixedOrders = true) {id : Nat} {args : List V} {o : Nat -> Obj'} {nx : Nat} {K X : V -> (Nat -> Obj') -> Nat -> Prop} {env : List V} {ps : List Nat} {ica icb : IC} {st : LoopState} {pd : Option Jmp}
 (ho : o id = .loop P.funcs.size n env ps ica icb st pd) (hlt : id < nx) (hps : ps.all (fun t => decide (t < n)) = true) (hl : args.length = ps.length)
 (h : icW P n nx true ica (beginQ P n nx id icb K X) ⟨setP (envJ env) ps args, o, nx⟩) : RoundK P id args o nx K X := by
 refine ⟨by rw [ho]; rfl, fun M φ w vals b hH hd hφ => ?_⟩
 have hok := hH.ok id
 simp only [ObjOk, hp, ho] at hok
 obtain ⟨b', r, h1, h2, h0, h3, h4, h5, h6, h7, h8, h9⟩ := hok
 rw [hφ] at h1; simp at h1; subst h1
 have hlen := V.dens_length _ _ hd
 have hsz : vals.size = r.params.size := by
  have : r.params.toList.length = ps.length := by rw [h5]
  simp at hlen this; omega
 let tm : Array Value := (ps.zip vals.toList).foldl (fun tmps p => tmps.setIfInBounds p.1 p.2) r.tmps
 have hfold : (r.params.zip vals).foldl (fun tmps (p : Tmp × Value) => tmps.setIfInBounds p.1 p.2) r.tmps = tm := by
  rw [<- Array.foldl_toList, Array.toList_zip, h5]
 obtain ⟨p1, p2⟩ := params_den (B := mutB M φ (hp o nx)) (H := hp o nx) (φ := φ) (w := w) ps args vals.toList (envJ env) r.tmps h6 hl.symm hd hps h9
 refine ⟨r.fn, tm, r.assign, r.body, ?_, fun k => ?_⟩
 ·simp only [Instr.yield, Sem.run_bind, run_getLoop h2, Result.andThen_ok, hsz, ne_eq, not_true_eq_false, if_false, Sem.run_pure]
  rw [<- hfold]
 ·
   let s0 : S := ⟨setP (envJ env) ps args, o, nx⟩
   let a0 : Act := { tmps := tm, defers := [] }
   have hs0 : SimC M φ (hp o nx) w n ⟨[], true⟩ φ s0 a0 w := ⟨hH, Trans.refl _ _ _, p1, ⟨[], rfl, List.nodup_nil, fun _ => rfl, fun r hr => by cases hr⟩, p2⟩
   have nodef : ∀ {φ' s' a' w'}, SimC M φ (hp o nx) w n ⟨[], true⟩ φ' s' a' w' -> a'.defers = [] := by
    intro φ' s' a' w' hs
    obtain ⟨ms, g1, _, g3, _⟩ := hs.defers
    rw [g3 rfl] at g1; exact g1
   have recd : ∀ {φ' s' a' w'} {nf m : Nat} {en : List V} {p : List Nat} {c d : IC} {st : LoopState} {pd : Option Jmp} (st' : LoopState) (pd' : Option Jmp), SimC M φ (hp o nx) w n ⟨[], true⟩ φ' s' a' w' -> s'.o id = .loop nf m en p c d st pd ->
    ∃ r', w'.heap[b]? = some (.loop r') /\ r'.state = st /\ r'.pending = pd.map Jmp.code /\
     SimC M φ (hp o nx) w n ⟨[], true⟩ φ' ⟨s'.env, upd s'.o id (.loop nf m en p c d st' pd'), s'.nx⟩ a' { w' with heap := w'.heap.setIfInBounds b (.loop { r' with state := st', pending := pd'.map Jmp.code }) } := by
    intro φ' s' a' w' nf m en p c d st pd st' pd' hs hso
    have hφ' : φ' id = .pointer (some ⟨b, 0, none⟩) := by
     have := (hs.tr.rel.row id hlt (by show (s'.o id).isRow = true; rw [hso]; rfl)).2
     rw [this]; exact hφ
    have hlt' : id < s'.nx := hs.tr.rel.us id hlt
    obtain ⟨r', r1, r2, r3, r4, r5⟩ := turn_loop (st' := st') (pd' := pd') hs.heap hlt' (show s'.H.o id = _ from hso) hφ'
    exact ⟨r', r1, r2, r3, sim_heap hs r4 r5 rfl (put_loop_us hlt')⟩
   have ha := icW_codeW (P := P) (n := n) (b := nx) (rd := true) hmix r.assign _ _ s0 (fun _ _ h => h) (by rw [h7]; exact h)
   refine roundIn_of_wpV h0 (wpV_mono (code_sound (P := P) (H0 := hp o nx) (b := nx) (cx := ⟨[], true⟩) (ro := some b) (fun id hu => hu) (fun h => by cases h) r.assign _ s0 φ a0 w ha hs0) ?_)
   rintro e a1 w1 ⟨x, s1, φ1, hq, hs1, hm⟩
   cases e <;> cases x <;> first | (exact hm.elim) | skip
   ·
     obtain ⟨nf, m, en, p, c, d, pd1, q1, q2⟩ := hq
     obtain ⟨r', r1, r2, r3, hs2⟩ := recd .busy pd1 hs1 q1
     have hbegin : (Instr.beginRound b).run P w1 = .ok () { w1 with heap := w1.heap.setIfInBounds b (.loop { r' with state := .busy, pending := pd1.map Jmp.code }) } := by
      have e1 : ({ r' with state := .busy } : Loop) = { r' with state := .busy, pending := pd1.map Jmp.code } := by rw [<- r3]
      simp only [Instr.beginRound, Sem.run_bind, run_getLoop r1, Result.andThen_ok, run_setObj_loop _ r1, r2, Sem.run_pure, e1]
     refine ⟨_, hbegin, ?_⟩
     have hrec := hs2.heap.ok id
     simp only [ObjOk, S.H, upd_apply, if_true] at hrec
     obtain ⟨b2, r2', _, _, _, _, _, _, _, _, _, _⟩ := hrec
     have hb := icW_codeW (P := P) (n := n) (b := nx) (rd := true) hmix r.body _ _ _ (fun _ _ h => h) (by rw [h8]; exact q2)
     refine wpV_mono (code_sound (P := P) (H0 := hp o nx) (b := nx) (cx := ⟨[], true⟩) (ro := some b) (fun id hu => hu) (fun h => by cases h) r.body _ _ φ1 a1 _ hb hs2) ?_
     rintro e a2 w2 ⟨x, s2, φ2, hq2, hs3, hm2⟩
     have fin : ∀ {nf m : Nat} {en : List V} {p : List Nat} {c d : IC} {st : LoopState} {pd : Option Jmp} (jump : Option Jmp) (t : Bool) (st' : LoopState), t = jump.isNone -> st' = (if jump.isNone then .ready else .done) -> s2.o id = .loop nf m en p c d st pd -> K (.d (.bool t)) (upd s2.o id (.loop nf m en p c d st' jump)) s2.nx ->
      ∃ v w', (Instr.endRound b (jump.map Jmp.code)).run P w2 = .ok v w' /\ EndK M φ (hp o nx) w K X (.returned v) w' := by
      intro nf m en p c d st pd jump t st' ht hst ho2 hK
      obtain ⟨r3', g1, g2, g3, hs4⟩ := recd st' jump hs3 ho2
      refine ⟨.bool t, _, ?_, φ2, _, _, _, hs4.heap, hs4.tr, by simp only [V.den, D.den], hK⟩
      subst ht; subst hst
      simp only [Instr.endRound, Sem.run_bind, run_getLoop g1, Result.andThen_ok, run_setObj_loop _ g1, Sem.run_pure, Option.isNone_map]
     cases e <;> cases x <;> first | (exact hm2.elim) | skip
     ·obtain ⟨nf, m, en, p, c, d, st, pd, k1, k2⟩ := hq2
      exact fin none true .ready rfl rfl k1 k2
     ·rename_i j
      subst hm2
      obtain ⟨nf, m, en, p, c, d, st, pd, k1, k2⟩ := hq2
      exact fin (some (.exit _)) false .done rfl rfl k1 k2
     ·obtain ⟨nf, m, en, p, c, d, st, pd, k1, k2⟩ := hq2
      exact fin (some .ret) false .done rfl rfl k1 k2
     ·obtain ⟨val, rfl, k2⟩ := hm2
      exact ⟨nodef hs3, φ2, _, _, _, hs3.heap, hs3.tr, val, rfl, k2, hq2⟩
   ·exact hq.elim
   ·exact hq.elim
   ·obtain ⟨val, rfl, k2⟩ := hm
    exact ⟨nodef hs1, φ1, _, _, _, hs1.heap, hs1.tr, val, rfl, k2, hq⟩
end
end Go.Proofs.YtealblliddhgiaaGreat
namespace Go.Proofs.YtealblliddhgiaaGreat
def RecOps (ops : Array Oper) (t t1 : Nat) : Prop :=
 (∃ o1 o2, ops = #[o1, o2] /\ o1.op = .call ⟨.builtin .recover, #[], #[]⟩ /\ o1.dst = some t /\ o1.guard = none /\ o2.op = .assign (.tmp t) /\ o2.dst = some t1 /\ o2.guard = none) \/
 (∃ o1, ops = #[o1] /\ t1 = t /\ o1.op = .call ⟨.builtin .recover, #[], #[]⟩ /\ o1.dst = some t /\ o1.guard = none)
structure RecIs (P : Program) (g : FuncId) (n t t1 : Nat) (ic : IC) : Prop where
 get : ∃ fn id ops c, P.funcs[g]? = some fn /\ (fn.name == "runtime.NumGoroutine") = false /\ fn.ntmps = n /\ fn.results = #[] /\ fn.body = some (.seq (.region id ops false) c) /\
  RecOps ops t t1 /\ t < n /\ t1 < n /\ low n c = ic
structure DefIs (P : Program) (f : FuncId) (n : Nat) (ica icb : IC) (g : FuncId) (t : Nat) (caps : List Operand) (rs : List ResultVar) : Prop where
 get : ∃ fn id o1 o2 a b, P.funcs[f]? = some fn /\ (fn.name == "runtime.NumGoroutine") = false /\ fn.ntmps = n /\ fn.results.toList = rs /\ fn.body = some (.seq a (.seq (.region id #[o1, o2] false) b)) /\
  o1.op = .makeFunc (.func g) #[] caps.toArray /\ o1.dst = some t /\ o1.guard = none /\ o2.op = .defer ⟨.value (.tmp t), #[], #[]⟩ /\ o2.dst = none /\ o2.guard = none /\ t < n /\ low n a = ica /\ low n b = icb
def recQ (K : (Nat -> Obj') -> Nat -> Prop) (e : Xit) (s : S) : Prop := match e with | .normal | .ret => K s.o s.nx | _ => False
def recW (P : Program) (n t t1 : Nat) (ic : IC) (caps : List V) (u : V) (o : Nat -> Obj') (nx : Nat) (K : (Nat -> Obj') -> Nat -> Prop) : Prop :=
 caps.length <= n /\ icW P n nx true ic (recQ K) ⟨upd (upd (argsEnv caps) t u) t1 u, o, nx⟩
def defEnd (P : Program) (n t t1 : Nat) (ic : IC) (caps : List V) (rs : List ResultVar) (K X : V -> (Nat -> Obj') -> Nat -> Prop) (e : Xit) (s : S) : Prop :=
 match e with
 | .normal | .ret => recW P n t t1 ic caps (.d .nili) s.o s.nx fun o nx => endK P rs K X .ret ⟨s.env, o, nx⟩
 | .pan v => recW P n t t1 ic caps v s.o s.nx fun o nx => endK P rs K X .ret ⟨s.env, o, nx⟩
 | .exit _ => False
def defBegin (P : Program) (n t : Nat) (icb : IC) (capo : List Operand) (g : FuncId) (D : List V -> Xit -> S -> Prop) (e : Xit) (s : S) : Prop :=
 match e with
 | .normal => icW P n s.nx false icb (D (capo.map s.ev)) ⟨upd s.env t (.func (.func g) [] (capo.map s.ev)), s.o, s.nx⟩
 | _ => False
section
variable {P : Program} {M : Nat -> Prop} {φ φ0 : Place} {H H0 : Hp} {w w0 : World} {n : Nat} {s : S} {a : Act} {cx : Cx} {k : Nat}
theorem rec_calls (hmix : P.follows .mixedOrders = true) {g : FuncId} {t t1 : Nat} {ic : IC} (hg : RecIs P g n t t1 ic) {caps : List V} {u : V} {o : Nat -> Obj'} {nx : Nat} {K : (Nat -> Obj') -> Nat -> Prop} (h : recW P n t t1 ic caps u o nx K)
 {vals : Array Value} {val : Value} {m : FrameMode} (hH : HeapOk M φ (hp o nx) w) (hd : V.dens (mutB M φ (hp o nx)) φ (hp o nx) w caps vals.toList) (hv : V.den (mutB M φ (hp o nx)) φ (hp o nx) w u val)
 (hm : (m = .returning /\ val = .nilIface) \/ m = .panicking [{ v := val, recovered := false }]) :
 CallsDIn (FWr none) k P g vals m w fun e u' w' => ∃ v φ' o' nx', e = .returned v /\ settle u' = .returning /\ HeapOk M φ' (hp o' nx') w' /\ Trans φ (hp o nx) w φ' (hp o' nx') w' /\ K o' nx' := by
 obtain ⟨fn, id, ops, c, hf, hname, hnt, hres, hbody, hops, ht, ht1, hlow⟩ := hg.get
 have hlt : g < P.funcs.size := (Array.getElem?_eq_some_iff.1 hf).1
 obtain ⟨hcl, h⟩ := h
 have hlen := V.dens_length _ _ hd
 refine ⟨trivial, fun c₀ cs hmode hroom => ?_⟩
 let b : Frame := { (default : Frame) with fn := g, kind := .deferred, roundOf := none }
 let tm0 : Array Value := vals ++ Array.replicate (fn.ntmps - vals.size) undef
 have hsz0 : tm0.size = n := by simp only [tm0, Array.size_append, Array.size_replicate]; simp at hlen; omega
 have henter : Frame.enter P g vals .deferred = b.atR { tmps := tm0, defers := [] } [.code (.seq (.region id ops false) c)] := by
  simp [Frame.enter, Frame.atR, hf, hbody, b, tm0]
 obtain ⟨m', hm', hrec⟩ : ∃ m', settle m' = .returning /\ ((recoverD (c₀ :: cs) = none /\ m' = m /\ val = .nilIface) \/ recoverD (c₀ :: cs) = some (val, { c₀ with mode := m' } :: cs)) := by
  rcases hm with ⟨rfl, rfl⟩ | rfl
  ·exact ⟨.returning, rfl, .inl ⟨by simp [recoverD, hmode], rfl, rfl⟩⟩
  ·exact ⟨.panicking [{ v := val, recovered := true }], rfl, .inr (by simp [recoverD, hmode])⟩
 have hc0 : ({ c₀ with mode := m } : Frame) = c₀ := by subst hmode; rfl
 let a1 : Act := { tmps := (tm0.setIfInBounds t val).setIfInBounds t1 val, defers := [] }
 have hreg : (Code.region id ops false).wpSIn (FWr none) k P (fun e a' cs' w' => e = .normal /\ a' = a1 /\ cs' = { c₀ with mode := m' } :: cs /\ w' = w) { tmps := tm0, defers := [] } (c₀ :: cs) w := by
  rcases hops with ⟨o1, o2, rfl, e1, e2, e3, e4, e5, e6⟩ | ⟨o1, rfl, rfl, e1, e2, e3⟩
  ·refine wpSIn_region ?_
   have hr : List.range (#[o1, o2] : Array Oper).size = [0, 1] := rfl
   have g0 : (#[o1, o2] : Array Oper)[0]? = some o1 := rfl
   have g1 : (#[o1, o2] : Array Oper)[1]? = some o2 := rfl
   rw [hr]
   have x1 : ∀ (ρ : Operand -> Value) (w : World), (execOp ρ o1).run P w = .ok .recover w := by
    intro ρ w
    simp [execOp, e1, resolve, invoke, builtin]
   have x2 : ∀ (ρ : Operand -> Value) (w : World), (execOp ρ o2).run P w = .ok (.value (ρ (.tmp t))) w := by
    intro ρ w
    simp [execOp, e4]
   have last : ∀ cs', cs' = { c₀ with mode := m' } :: cs -> wpOpsSIn (FWr none) k P #[o1, o2] (fun e a' cs' w' => e = .normal /\ a' = a1 /\ cs' = { c₀ with mode := m' } :: cs /\ w' = w) [1] (({ tmps := tm0, defers := [] } : Act).put (some t) val) cs' w := by
    rintro cs' rfl
    have hw : Region.wanted o2 (yielded #[o1, o2] (({ tmps := tm0, defers := [] } : Act).put (some t) val).tmps) = true := by simp [Region.wanted, e6]
    have hev : (({ tmps := tm0, defers := [] } : Act).put (some t) val).eval (.tmp t) = val := by
     have : t < tm0.size := by omega
     simp [Act.put, Act.eval, Array.getD, this]
    simp only [wpOpsSIn, g1, hw, if_true, x2, hev, e5]
    refine ⟨fun _ _ => trivial, ?_⟩
    simp [a1, Act.put]
   have hw : Region.wanted o1 (yielded #[o1, o2] tm0) = true := by simp [Region.wanted, e3]
   rw [wpOpsSIn, g0]
   refine ⟨fun _ _ => trivial, ?_⟩
   simp only [hw, if_true, x1, e2]
   rcases hrec with ⟨hr, rfl, rfl⟩ | hr
   ·simp only [hr]
    exact last _ (by rw [hc0])
   ·simp only [hr]
    exact last _ rfl
  ·refine wpSIn_region ?_
   have hr : List.range (#[o1] : Array Oper).size = [0] := rfl
   have g0 : (#[o1] : Array Oper)[0]? = some o1 := rfl
   rw [hr]
   have x1 : ∀ (ρ : Operand -> Value) (w : World), (execOp ρ o1).run P w = .ok .recover w := by
    intro ρ w
    simp [execOp, e1, resolve, invoke, builtin]
   have same : a1 = ({ tmps := tm0, defers := [] } : Act).put (some t1) val := by
    simp only [a1, Act.put]
    congr 1
    apply Array.ext_getElem?
    intro j
    simp only [Array.getElem?_setIfInBounds]
    by_cases hj : t1 = j
    ·subst hj; simp
    ·simp [hj]
   have last : ∀ cs', cs' = { c₀ with mode := m' } :: cs -> wpOpsSIn (FWr none) k P #[o1] (fun e a' cs' w' => e = .normal /\ a' = a1 /\ cs' = { c₀ with mode := m' } :: cs /\ w' = w) [] (({ tmps := tm0, defers := [] } : Act).put (some t1) val) cs' w := by
    rintro cs' rfl
    simp only [wpOpsSIn]
    exact ⟨trivial, same.symm, trivial, trivial⟩
   have hw : Region.wanted o1 (yielded #[o1] tm0) = true := by simp [Region.wanted, e3]
   rw [wpOpsSIn, g0]
   refine ⟨fun _ _ => trivial, ?_⟩
   simp only [hw, if_true, x1, e2]
   rcases hrec with ⟨hr, rfl, rfl⟩ | hr
   ·simp only [hr]
    exact last _ (by rw [hc0])
   ·simp only [hr]
    exact last _ rfl
 obtain ⟨er, ar, csr, wr, hl, ⟨rfl, rfl, rfl, hwr⟩, harr⟩ := hreg b [.code c] rfl rfl trivial (fun d hd => by simp [FWr] at hd)
 rw [hwr] at harr
 let s0 : S := ⟨upd (upd (argsEnv caps) t u) t1 u, o, nx⟩
 have hs0 : SimC M φ (hp o nx) w n ⟨[], true⟩ φ s0 a1 w := by
  refine ⟨hH, Trans.refl _ _ _, by simp [a1, hsz0], ⟨[], rfl, List.nodup_nil, fun _ => rfl, fun r hr => by cases hr⟩, fun i => ?_⟩
  have henv := env_args (m := fn.ntmps - vals.size) hd i
  simp only [s0, a1, upd_apply]
  have ht0 : t < tm0.size := by omega
  have ht10 : t1 < tm0.size := by omega
  by_cases h1 : i = t1
  ·subst h1
   simp only [if_true]
   have : ((tm0.setIfInBounds t val).setIfInBounds i val).getD i undef = val := by simp [Array.getD, ht10]
   rw [this]; exact hv
  ·simp only [h1, if_false]
   have e1 : ((tm0.setIfInBounds t val).setIfInBounds t1 val).getD i undef = (tm0.setIfInBounds t val).getD i undef := by
    simp only [Array.getD_eq_getD_getElem?]
    rw [Array.getElem?_setIfInBounds_ne (Ne.symm h1)]
   rw [e1]
   by_cases h2 : i = t
   ·subst h2
    simp only [if_true]
    have : (tm0.setIfInBounds i val).getD i undef = val := by simp [Array.getD, ht0]
    rw [this]; exact hv
   ·simp only [h2, if_false]
    have e1 : (tm0.setIfInBounds t val).getD i undef = tm0.getD i undef := by
     simp only [Array.getD_eq_getD_getElem?]
     rw [Array.getElem?_setIfInBounds_ne (Ne.symm h2)]
    rw [e1]; exact henv
 have hcw := icW_codeW (P := P) (n := n) (b := nx) (rd := true) hmix c _ _ s0 (fun _ _ h => h) (by rw [hlow]; exact h)
 obtain ⟨e, a', w', ⟨x, s', φ', hq, hs', hx⟩, harr2⟩ := code_sound (P := P) (H0 := hp o nx) (b := nx) (cx := ⟨[], true⟩) (ro := none) (fun id hu => hu) (fun h => by cases h) c _ s0 φ a1 w hcw hs0 b [] ({ c₀ with mode := m' } :: cs) rfl hlt
 have i0 : (lone (b.atR { tmps := tm0, defers := [] } [.code (.seq (.region id ops false) c)]) (c₀ :: cs) w).fenced P (FWr none) := fenced_calm (n := 0) trivial fw_room rfl
 have harr0 : StepsIn (Machine.fenced P (FWr none)) P (lone (b.atR { tmps := tm0, defers := [] } [.code (.seq (.region id ops false) c)]) (c₀ :: cs) w) (lone (b.atR a1 [.code c]) ({ c₀ with mode := m' } :: cs) w) := .head i0 stepR_seq harr
 have nodef : a'.defers = [] := by
  obtain ⟨ms, g1, _, g3, _⟩ := hs'.defers
  rw [g3 rfl] at g1; exact g1
 have hresr : ∀ tm : Array Value, ∃ v, (results fn tm).run P w' = .ok v w' := by
  intro tm
  refine ⟨_, run_results (vals := []) ?_⟩
  rw [hres]; rfl
 rw [henter]
 obtain ⟨v, hv'⟩ := hresr a'.tmps
 cases e <;> cases x <;> first | (exact hx.elim) | (exact hq.elim) | skip
 ·exact ⟨.returned v, m', w', _, ⟨v, φ', s'.o, s'.nx, rfl, hm', hs'.heap, hs'.tr, hq⟩, StepsIn.trans harr0 (StepsIn.trans harr2 (.one (fenced_calm (n := 0) (fr := b.atR a' []) trivial fw_room rfl) (stepR_end rfl))), rfl, rfl, rfl, nodef, fn, hf, hv'⟩
 ·obtain ⟨todo, hs⟩ := harr2.1 rfl
  exact ⟨.returned v, m', w', _, ⟨v, φ', s'.o, s'.nx, rfl, hm', hs'.heap, hs'.tr, hq⟩, StepsIn.trans harr0 hs, rfl, rfl, rfl, nodef, fn, hf, hv'⟩
theorem CtK.of_defer (hmix : P.follows .mixedOrders = true) {f g : FuncId} {ica icb icg : IC} {t m r r1 : Nat} {capo : List Operand} {rs : List ResultVar} (hf : DefIs P f n ica icb g t capo rs) (hg : RecIs P g m r r1 icg)
 {args : List V} {o : Nat -> Obj'} {nx : Nat} {K X : V -> (Nat -> Obj') -> Nat -> Prop} (hl : args.length <= n)
 (h : icW P n nx true ica (defBegin P n t icb capo g fun caps => defEnd P m r r1 icg caps rs K X) ⟨argsEnv args, o, nx⟩) : CtK P f args o nx K X := by
 obtain ⟨fn, id, o1, o2, ca, cb, hfn, hname, hnt, hres, hbody, e1, e2, e3, e4, e5, e6, ht, hla, hlb⟩ := hf.get
 obtain ⟨gn, _, _, gc, hgn, hgname, _, _, hgbody, _⟩ := hg.get
 refine ⟨⟨fn, hfn, hname, by rw [hbody]; rfl⟩, fun M φ w vals hH hd => ?_⟩
 have hlen := V.dens_length _ _ hd
 let s0 : S := ⟨argsEnv args, o, nx⟩
 let a0 : Act := { tmps := vals ++ Array.replicate (fn.ntmps - vals.size) undef, defers := [] }
 have hs0 : SimC M φ (hp o nx) w n ⟨[], true⟩ φ s0 a0 w := by
  refine ⟨hH, Trans.refl _ _ _, ?_, ⟨[], rfl, List.nodup_nil, fun _ => rfl, fun r hr => by cases hr⟩, env_args hd⟩
  simp only [a0, Array.size_append, Array.size_replicate]; simp at hlen; omega
 have ha := icW_codeW (P := P) (n := n) (b := nx) (rd := true) hmix ca _ _ s0 (fun _ _ h => h) (by rw [hla]; exact h)
 refine calls_fw (ro := none) (k := 0) (callsIn_of_wpV hfn hbody (wpV_seq (wpV_mono (code_sound (P := P) (H0 := hp o nx) (b := nx) (cx := ⟨[], true⟩) (ro := none) (fun id hu => hu) (fun h => by cases h) ca _ s0 φ a0 w ha hs0) ?_)))
 rintro e a1 w1 ⟨x, s1, φ1, hq, hs1, hm⟩
 cases e <;> cases x <;> first | (exact hm.elim) | (exact hq.elim) | skip
 have nodef : a1.defers = [] := by
  obtain ⟨ms, g1, _, g3, _⟩ := hs1.defers
  rw [g3 rfl] at g1; exact g1
 let cv : Array Value := (capo.map a1.eval).toArray
 let fv : Value := .func (.func g) #[] cv
 let dd : Deferred := { target := .fn (.func g) cv, args := #[] }
 let a2 : Act := { tmps := a1.tmps.setIfInBounds t fv, defers := [dd] }
 have hcaps : V.dens (mutB M φ1 s1.H) φ1 s1.H w1 (capo.map s1.ev) cv.toList := by
  simpa [cv] using evs_den (M := M) (φ := φ1) (H := s1.H) (w := w1) s1 a1 hs1.env capo
 refine wpV_seq (wpV_mono (Q := fun e a w => e = .normal /\ a = a2 /\ w = w1) (wpV_in (k := 0) (wpIn_region_list ?_)) ?_)
 ·have y1 : Region.wanted o1 (yielded #[o1, o2] a1.tmps) = true := by simp [Region.wanted, e3]
  have y2 : ∀ tm, Region.wanted o2 (yielded #[o1, o2] tm) = true := by intro tm; simp [Region.wanted, e6]
  have hev : (a1.put (some t) fv).eval (.tmp t) = fv := by
   have : t < a1.tmps.size := by rw [hs1.size]; exact ht
   simp [Act.put, Act.eval, Array.getD, this]
  show wpListIn (FWr none) 0 P #[o1, o2] _ [o1, o2] a1 w1
  unfold wpListIn
  rw [if_pos y1]
  have x1 : (execOp a1.eval o1).run P w1 = .ok (.value fv) w1 := by simp [execOp, e1, fv, cv, Instr.makeFunc]
  refine wpIn_fw (fun c hc => by rw [e1] at hc; cases hc) ?_
  rw [x1]
  show wpListIn (FWr none) 0 P #[o1, o2] _ [o2] (a1.put o1.dst fv) w1
  rw [e2]
  unfold wpListIn
  rw [if_pos (y2 _)]
  have x2 : (execOp (a1.put (some t) fv).eval o2).run P w1 = .ok (.defer dd) w1 := by
   simp [execOp, e4, resolve, hev, Deferred.ofValue, fv, dd]
  refine ⟨fun _ _ => trivial, ?_⟩
  have : (o2.semAt (FWr none).round (a1.put (some t) fv).eval) = execOp (a1.put (some t) fv).eval o2 := rfl
  rw [this, x2]
  unfold Oper.uponIn
  simp only [e5, wpListIn, Act.put, nodef, a2, and_self]
 rintro e a w2 ⟨rfl, rfl, rfl⟩
 have ht1 : t < a1.tmps.size := by rw [hs1.size]; exact ht
 let s2 : S := ⟨upd s1.env t (.func (.func g) [] (capo.map s1.ev)), s1.o, s1.nx⟩
 have hs2 : SimC M φ1 s1.H w2 n ⟨[dd], false⟩ φ1 s2 a2 w2 := by
  refine ⟨hs1.heap, Trans.refl _ _ _, by simp [a2, hs1.size], ⟨[], rfl, List.nodup_nil, fun _ => rfl, fun r hr => by cases hr⟩, fun i => ?_⟩
  simp only [s2, a2, upd_apply]
  by_cases h1 : i = t
  ·subst h1
   have : (a1.tmps.setIfInBounds i fv).getD i undef = fv := by simp [Array.getD, ht1]
   simp only [if_true]; rw [this]
   exact ⟨#[], cv, rfl, rfl, hcaps⟩
  ·have : (a1.tmps.setIfInBounds t fv).getD i undef = a1.tmps.getD i undef := by
    simp only [Array.getD_eq_getD_getElem?]
    rw [Array.getElem?_setIfInBounds_ne (Ne.symm h1)]
   simp only [h1, if_false]; rw [this]
   exact hs1.env i
 have hb := icW_codeW (P := P) (n := n) (b := s1.nx) (rd := false) hmix cb _ _ s2 (fun _ _ h => h) (by rw [hlb]; exact hq)
 refine wpV_mono (code_sound (P := P) (H0 := s1.H) (b := s1.nx) (cx := ⟨[dd], false⟩) (ro := none) (fun id hu => hu) (fun _ => rfl) cb _ s2 φ1 a2 w2 hb hs2) ?_
 rintro e a3 w3 ⟨x, s3, φ3, hq3, hs3, hm3⟩
 obtain ⟨ms, g1, g2, _, g4⟩ := hs3.defers
 have hinv : (invoke dd.target dd.args).run P = fun w => .ok (.enter g cv) w := by
  funext w
  have := run_enter (w := w) ⟨gn, hgn, hgname, by rw [hgbody]; rfl⟩ cv
  simpa [dd, invoke] using this
 have last : ∀ {w4 : World} {tm : Array Value} {u : V} {val : Value} {m0 : FrameMode}, m0 ≠ .run -> SimB M φ1 s1.H w2 φ3 s3 a3.tmps w4 -> V.den (mutB M φ3 s3.H) φ3 s3.H w4 u val ->
  ((m0 = .returning /\ val = .nilIface) \/ m0 = .panicking [{ v := val, recovered := false }]) ->
  (recW P m r r1 icg (capo.map s1.ev) u s3.o s3.nx fun o nx => endK P rs K X .ret ⟨s3.env, o, nx⟩) ->
  LeavesInM (FWr none) 0 P fn a3.tmps (EndK M φ (hp o nx) w K X) [dd] m0 w4 := by
  intro w4 tm u val m0 hrun hB hdv hm0 hrec
  have hcaps4 := V.dens_mono hB.tr _ _ hcaps
  refine ⟨hrun, .inr ⟨fun h => by simp [FWr] at h, .func g, cv, g, cv, rfl, by rw [hinv], fun _ _ => trivial, CallsDIn.mono (rec_calls (k := 0 - 1) hmix hg hrec (m := m0) hB.heap hcaps4 hdv hm0) ?_⟩⟩
  rintro e u' w5 ⟨v, φ5, o5, nx5, rfl, hset, k1, k2, k3⟩
  show LeavesInM (FWr none) 0 P fn a3.tmps (EndK M φ (hp o nx) w K X) [] (settle u') w5
  rw [hset]
  obtain ⟨vs, h1, h2⟩ := endK_ret k3
  rw [<- hres] at h1
  have henv5 : ∀ i, V.den (mutB M φ5 (hp o5 nx5)) φ5 (hp o5 nx5) w5 (s3.env i) (a3.tmps.getD i undef) := fun i => V.den_mono k2 _ _ (hB.env i)
  obtain ⟨vals5, h3, h4⟩ := res_run (P := P) (s := ⟨s3.env, o5, nx5⟩) (a := a3) k1 henv5 _ _ h1
  exact ⟨_, run_results h3, φ5, o5, nx5, _, k1, hs1.tr.trans (hB.tr.trans k2), tupV_den h4, h2⟩
 have done : recW P m r r1 icg (capo.map s1.ev) (.d .nili) s3.o s3.nx (fun o nx => endK P rs K X .ret ⟨s3.env, o, nx⟩) -> LeavesInM (FWr none) 0 P fn a3.tmps (EndK M φ (hp o nx) w K X) a3.defers .returning w3 := by
  intro hrec
  rw [g1]
  exact leaves_marks (P := P) (k := 0) (fn := fn) (R := EndK M φ (hp o nx) w K X) (u := .returning) (by simp) (ds := [dd]) (fun w4 hB => last (tm := a3.tmps) (by simp) hB (u := .d .nili) (val := .nilIface) (by simp [V.den, D.den]) (.inl ⟨rfl, rfl⟩) hrec) ms w3 g2 g4 hs3.toB
 cases e <;> cases x <;> first | (exact hm3.elim) | skip
 ·exact done hq3
 ·exact hq3.elim
 ·exact done hq3
 ·rename_i v
  obtain ⟨val, rfl, hd'⟩ := hm3
  show LeavesInM (FWr none) 0 P fn a3.tmps (EndK M φ (hp o nx) w K X) a3.defers _ w3
  rw [g1]
  let env1 : Nat -> V := fun i => match i with | 0 => v | i + 1 => s3.env i
  have get0 : (#[val] ++ a3.tmps).getD 0 undef = val := by simp [Array.getD]
  have gets : ∀ i, (#[val] ++ a3.tmps).getD (i + 1) undef = a3.tmps.getD i undef := by
   intro i
   simp only [Array.getD_eq_getD_getElem?]
   rw [Array.getElem?_append_right (by simp)]
   simp
  have hb0 : SimB M φ1 s1.H w2 φ3 ⟨env1, s3.o, s3.nx⟩ (#[val] ++ a3.tmps) w3 := ⟨hs3.heap, hs3.tr, fun i => by
   cases i with
   | zero => rw [get0]; exact hd'
   | succ i => rw [gets]; exact hs3.env i⟩
  have hlast : ∀ w4, SimB M φ1 s1.H w2 φ3 ⟨env1, s3.o, s3.nx⟩ (#[val] ++ a3.tmps) w4 -> LeavesInM (FWr none) 0 P fn a3.tmps (EndK M φ (hp o nx) w K X) [dd] (.panicking [{ v := val, recovered := false }]) w4 := by
   intro w4 hB
   have hv4 := hB.env 0
   rw [get0] at hv4
   refine last (tm := a3.tmps) (by simp) ⟨hB.heap, hB.tr, fun i => ?_⟩ hv4 (.inr rfl) hq3
   have hs := hB.env (i + 1)
   rw [gets] at hs
   exact hs
  exact leaves_marks (P := P) (k := 0) (fn := fn) (R := EndK M φ (hp o nx) w K X) (u := .panicking [{ v := val, recovered := false }]) (by simp) (ds := [dd]) hlast ms w3 g2 g4 hb0
end
end Go.Proofs.YtealblliddhgiaaGreat
