/-
  CODE MADE SHORT ('IC'), to be reckoned by simp; what is shown of it holds of the code ('low'). Conditions: none.
-/
import Derived.Test.YtaafchgfibbmhaaCoreK2
namespace Go.Proofs.Ytaafchgfibbmhaa

def callP (P : Program) (g : FuncId) (ds : List D) (o o1 : Nat → Obj') (K : V → (Nat → Obj') → Prop) (X : V → (Nat → Obj') → Prop) : Prop :=
  ∃ out, PCt P g ds out ∧ ((match out with | .ret rs => K (retV rs) o1 | .pan x => X (.d x) o1) ∨ (out.flat = true ∧ match out with | .ret rs => K (retV rs) o | .pan x => X (.d x) o))
def callH (P : Program) (g : FuncId) (args : List V) (o : Nat → Obj') (nx : Nat) (K : V → (Nat → Obj') → Nat → Prop) (X : V → (Nat → Obj') → Nat → Prop) : Prop := heapW P g args o nx K X
theorem heapW.mono {P : Program} {g : FuncId} {args : List V} {o : Nat → Obj'} {nx : Nat} {K X K' X' : V → (Nat → Obj') → Nat → Prop} (hK : ∀ v o n, K v o n → K' v o n) (hX : ∀ v o n, X v o n → X' v o n) (h : heapW P g args o nx K X) : heapW P g args o nx K' X' :=
  h.imp (CtK.mono hK hX) (CtK.mono hK hX)
@[congr] theorem callP_congr {P : Program} {g g' : FuncId} {ds ds' : List D} {o o1 : Nat → Obj'} {K X} (h : g = g') (h' : ds = ds') : callP P g ds o o1 K X = callP P g' ds' o o1 K X := by subst h; subst h'; rfl
@[congr] theorem callH_congr {P : Program} {g g' : FuncId} {as as' : List V} {o : Nat → Obj'} {nx : Nat} {K X} (h : g = g') (h' : as = as') : callH P g as o nx K X = callH P g' as' o nx K X := by subst h; subst h'; rfl

def opI (P : Program) (s : S) (o : IOp) (X : V → S → Prop) (K : S → Prop) : Prop :=
  match o.op with
  | .call c => match c.callee with
    | .value f => match s.ev f with
      | .func (.func g) first cap => match toDs s.o (first ++ c.args.toList.map s.ev ++ cap) with
        | some ds => callP P g ds s.o (put s.o (frz s.o (V.idss (first ++ c.args.toList.map s.ev ++ cap)))) (fun v o' => K ⟨putE s.env o.dst v, o', s.nx + 1⟩) (fun v o' => X v ⟨s.env, o', s.nx + 1⟩) ∨
            callH P g (first ++ c.args.toList.map s.ev ++ cap) s.o s.nx (fun v o' nx' => K ⟨putE s.env o.dst v, o', nx'⟩) (fun v o' nx' => X v ⟨s.env, o', nx'⟩)
        | none => callH P g (first ++ c.args.toList.map s.ev ++ cap) s.o s.nx (fun v o' nx' => K ⟨putE s.env o.dst v, o', nx'⟩) (fun v o' nx' => X v ⟨s.env, o', nx'⟩)
      | .yld id => RoundK P id (c.args.toList.map s.ev) s.o s.nx (fun v o' nx' => K ⟨putE s.env o.dst v, o', nx'⟩) (fun v o' nx' => X v ⟨s.env, o', nx'⟩)
      | _ => False
    | _ => match sopF P s s.nx o.op with
      | some (v, Δ, _) => K ⟨putE s.env o.dst v, put s.o Δ, s.nx + 1⟩
      | none => False
  | .panic x => match s.ev x with
    | .d (.iface t y) => X (.d (.iface t y)) s
    | .iface t y => X (.iface t y) s
    | _ => False
  | op => match sopF P s s.nx op with
    | some (v, Δ, _) => K ⟨putE s.env o.dst v, put s.o Δ, s.nx + 1⟩
    | none => False
def regI (P : Program) (X : V → S → Prop) (K : S → Prop) : List IOp → S → Prop
  | [], s => K s
  | o :: l, s => match o.gd with
    | none => opI P s o X (regI P X K l)
    | some (d, want) => match s.env d with
      | .d (.bool b) => if b = want then opI P s o X (regI P X K l) else regI P X K l ⟨putE s.env o.dst (.tup []), s.o, s.nx + 1⟩
      | .tup [] => regI P X K l ⟨putE s.env o.dst (.tup []), s.o, s.nx + 1⟩
      | _ => False
def loopI (b : Nat) (body : (Xit → S → Prop) → S → Prop) (Q : Xit → S → Prop) (s : S) : Prop :=
  ∃ (J : Nat → S → Prop), (∃ m s1, SLe b s s1 ∧ J m s1) ∧ ∀ m s0, J m s0 → body (fun e s => match e with | .normal => ∃ m' s1, m' < m ∧ SLe b s s1 ∧ J m' s1 | e => Q e s) s0
@[congr] theorem loopI_congr {b : Nat} {body Q} {s s' : S} (h : s = s') : loopI b body Q s = loopI b body Q s' := by subst h; rfl
def condI (t : Bool) (A B : Prop) : Prop := (t = true → A) ∧ (t = false → B)
@[congr] theorem condI_congr {t t' : Bool} {A B : Prop} (h : t = t') : condI t A B = condI t' A B := by subst h; rfl
@[simp] theorem condI_true (A B : Prop) : condI true A B = A := by simp [condI]
@[simp] theorem condI_false (A B : Prop) : condI false A B = B := by simp [condI]

section
variable {P : Program} {n b : Nat}

theorem opI_opW {s : S} {o : IOp} {o' : Oper} {X X' : V → S → Prop} {K K' : S → Prop} (hop : o'.op = o.op) (hdst : o'.dst = o.dst) (hd : dstOk n o'.dst) (hK : ∀ s, K s → K' s) (hX : ∀ v s, X v s → X' v s) (h : opI P s o X K) : opW P n s o' X' K' := by
  refine ⟨hd, ?_⟩
  rw [hdst, hop]
  unfold opI at h
  have hs : ∀ {op : Op}, (match sopF P s s.nx op with | some (v, Δ, _) => K ⟨putE s.env o.dst v, put s.o Δ, s.nx + 1⟩ | none => False) → sop P s s.nx op fun v Δ _ => K' ⟨putE s.env o.dst v, put s.o Δ, s.nx + 1⟩ := by
    intro op h
    split at h
    · rename_i v Δ rd he; exact sopF_sop he (hK _ h)
    · exact h.elim
  split at h
  · rename_i c hc
    split at h
    · rename_i f hcal
      simp only [hc, hcal]
      split at h
      · rename_i g first cap hf
        unfold callW
        simp only [hf]
        split at h
        · rename_i ds hds
          rcases h with ⟨out, hP, h | ⟨hfl, h⟩⟩ | h
          · refine .inl ⟨ds, out, hds, hP, ?_⟩
            cases out <;> first | exact hK _ h | exact hX _ _ h
          · refine .inr (.inl ⟨ds, out, hds, hP, hfl, ?_⟩)
            cases out <;> first | exact hK _ h | exact hX _ _ h
          · exact .inr (.inr (heapW.mono (fun v o n h => hK _ h) (fun v o n h => hX _ _ h) h))
        · exact .inr (.inr (heapW.mono (fun v o n h => hK _ h) (fun v o n h => hX _ _ h) h))
      · rename_i id hf
        unfold callW
        simp only [hf]
        exact RoundK.mono (fun v o n h => hK _ h) (fun v o n h => hX _ _ h) h
      · exact h.elim
    · rename_i hcal
      rw [hc] at h ⊢
      obtain ⟨cal, args, ts⟩ := c
      cases cal with
      | value f => exact absurd rfl (hcal f)
      | _ => exact hs h
  · rename_i x hx
    simp only [hx]
    split at h
    · rename_i hv; simp only [hv]; exact hX _ _ h
    · rename_i hv; simp only [hv]; exact hX _ _ h
    · exact h.elim
  · rename_i hc hp
    have h2 := hs h
    cases hh : o.op <;> first
      | exact absurd hh (hc _)
      | exact absurd hh (hp _)
      | (rw [hh] at h2; exact h2)

theorem regI_regW {ops : Array Oper} {X X' : V → S → Prop} {K K' : S → Prop} (hK : ∀ s, K s → K' s) (hX : ∀ v s, X v s → X' v s) : ∀ (l : List Oper) (l' : List IOp) (s : S), lowL n ops l = some l' → regI P X K l' s → regW P n ops X' K' l s
  | [], l', s, h, hr => by simp [lowL] at h; subst h; exact hK _ hr
  | o :: l, l', s, h, hr => by
    simp only [lowL] at h
    split at h
    · rename_i x xs hx hxs
      injection h with h; subst h
      unfold lowO at hx
      split at hx
      · rename_i hd
        have hdst : dstOk n o.dst := by
          unfold dstOkB at hd; unfold dstOk
          split at hd <;> simp_all
        simp only [regW, guardW]
        cases hg : o.guard with
        | none =>
          simp only [hg] at hx
          injection hx with hx; subst hx
          exact opI_opW rfl rfl hdst (fun s hs => regI_regW hK hX l xs s hxs hs) hX hr
        | some p =>
          obtain ⟨j, want⟩ := p
          simp only [hg] at hx
          cases hdj : dstAt ops j with
          | none => simp [hdj] at hx
          | some d =>
            simp only [hdj] at hx
            injection hx with hx; subst hx
            simp only
            simp only [regI] at hr
            split at hr
            · rename_i t ht
              simp only [hdj, ht]
              split at hr
              · rename_i e
                exact ⟨fun _ => opI_opW rfl rfl hdst (fun s hs => regI_regW hK hX l xs s hxs hs) hX hr, fun h => absurd e h⟩
              · rename_i e
                exact ⟨fun h => absurd h e, fun _ => ⟨hdst, regI_regW hK hX l xs _ hxs hr⟩⟩
            · rename_i ht
              simp only [hdj, ht]
              exact ⟨hdst, regI_regW hK hX l xs _ hxs hr⟩
            · exact hr.elim
      · cases hx
    · cases h

end
end Go.Proofs.Ytaafchgfibbmhaa
