/-
  A PART OF THE PROOF. Conditions: none.
-/
import Derived.Test.YtealblliddhgiaaGreatSb6
set_option linter.unusedSimpArgs false
set_option linter.unusedVariables false
namespace Go
def Code.wpV (P : Program) (ro : Option Nat) (c : Code) (Q : Exit -> Act -> World -> Prop) (a : Act) (w : World) : Prop :=
 ∀ (b : Frame) (k : List Item) (cs : List Frame), b.roundOf = ro -> b.fn < P.funcs.size ->
  ∃ e a' w', Q e a' w' /\ ArrivesIn (Machine.fenced P (Proofs.YtealblliddhgiaaGreat.FWr ro)) P (lone (b.atR a (.code c :: k)) cs w) b k cs e a' w'
end Go
namespace Go.Proofs.YtealblliddhgiaaGreat
instance : LawfulMonad Sem := LawfulMonad.mk' Sem (id_map := fun x => Sem.bind_pure' x) (pure_bind := fun _ _ => rfl) (bind_assoc := fun x f g => Sem.bind_assoc' x f g)
section
variable {P : Program} {M : Nat -> Prop} {φ : Place} {H : Hp} {w w' : World} {φ0 : Place} {H0 : Hp} {w0 : World} {n b : Nat} {s : S} {a : Act} {cx : Cx} {ro : Option Nat} {k : Nat}
theorem guardW_sound (hs : SimC M φ0 H0 w0 n cx φ s a w) {ops : Array Oper} {o : Oper} {A B : Prop} (h : guardW s ops o.guard A B) :
 (Region.wanted o (yielded ops a.tmps) = true -> A) /\ (Region.wanted o (yielded ops a.tmps) = false -> B) := by
 unfold guardW at h
 unfold Region.wanted
 split at h
 ·rename_i hg; simp only [hg]; exact ⟨fun _ => h, fun h => by cases h⟩
 ·rename_i j want hg
  simp only [hg]
  unfold dstAt at h
  unfold yielded
  split at h
  ·rename_i d hd
   simp only [hd, Option.bind_some]
   have henv := hs.env d
   split at h
   ·rename_i c hv
    rw [hv] at henv
    simp only [V.den, D.den] at henv
    have : a.tmps[d]? = some (.bool c) := by
     rw [Array.getD_eq_getD_getElem?] at henv
     cases hx : a.tmps[d]? with
     | none => rw [hx] at henv; simp [undef] at henv
     | some x => rw [hx] at henv; simp at henv; rw [henv]
    simp only [this]
    by_cases hc : c = want
    ·subst hc; exact ⟨fun _ => h.1 rfl, fun h => by simp at h⟩
    ·exact ⟨fun h' => absurd (by simpa using h') hc, fun _ => h.2 hc⟩
   ·rename_i hv
    rw [hv] at henv
    obtain ⟨arr, harr, hn⟩ := henv
    simp only [V.dens] at hn
    have : ∀ c, a.tmps[d]? ≠ some (.bool c) := by
     intro c hx
     rw [Array.getD_eq_getD_getElem?, hx] at harr
     simp at harr
    cases hx : a.tmps[d]? with
    | none => exact ⟨fun h => by simp at h, fun _ => h⟩
    | some x => cases x <;> first | (exact absurd hx (this _)) | (exact ⟨fun h => by simp at h, fun _ => h⟩)
   ·exact h.elim
  ·rename_i hd
   simp only [hd, Option.bind_none]
   exact ⟨fun h => by simp at h, fun _ => h⟩
theorem sim_skip (hs : SimC M φ0 H0 w0 n cx φ s a w) {dst : Option Tmp} (hdst : dstOk n dst) : SimC M φ0 H0 w0 n cx φ ⟨putE s.env dst (.tup []), s.o, s.nx + 1⟩ (a.put dst undef) w :=
 sim_put (v := .tup []) (val := undef) hs hs.heap (Trans.refl _ _ _) ⟨#[], rfl, rfl⟩ hdst rfl fun _ hu => Nat.lt_succ_of_lt hu
theorem regW_sound {ops : Array Oper} {X : V -> S -> Prop} {K : S -> Prop} {Q : Exit -> Act -> World -> Prop}
 (hK : ∀ s φ a w, K s -> SimC M φ0 H0 w0 n cx φ s a w -> Q .normal a w)
 (hQ : ∀ v s' φ' a w' val, X v s' -> SimC M φ0 H0 w0 n cx φ' s' a w' -> V.den (mutB M φ' s'.H) φ' s'.H w' v val -> Q (.panic [{ v := val, recovered := false }]) a w') :
 ∀ (l : List Oper) (s : S) (φ : Place) (a : Act) (w : World), regW P n ops X K l s -> SimC M φ0 H0 w0 n cx φ s a w -> wpListIn (FWr ro) k P ops Q l a w
 | [], s, φ, a, w, h, hs => hK s φ a w h hs
 | o :: l, s, φ, a, w, h, hs => by
   obtain ⟨h1, h2⟩ := guardW_sound hs h
   unfold wpListIn
   split
   ·rename_i hw
    exact opW_sound hs (h1 hw) (fun s' φ' a' w' hk hs' => regW_sound hK hQ l s' φ' a' w' hk hs') (fun v s' φ' w' val hx hs' hd => hQ v s' φ' a w' val hx hs' hd)
   ·rename_i hw
    obtain ⟨hdst, h3⟩ := h2 (by simpa using hw)
    exact ⟨fun _ _ => trivial, regW_sound hK hQ l _ _ _ _ h3 (sim_skip hs hdst)⟩
def PostC (M : Nat -> Prop) (φ0 : Place) (H0 : Hp) (w0 : World) (n : Nat) (cx : Cx) (Q : Xit -> S -> Prop) (e : Exit) (a : Act) (w : World) : Prop :=
 ∃ x s φ, Q x s /\ SimC M φ0 H0 w0 n cx φ s a w /\ match e, x with
  | .normal, .normal => True
  | .exit i, .exit j => i = j
  | .ret, .ret => True
  | .panic ch, .pan v => ∃ val, ch = [{ v := val, recovered := false }] /\ V.den (mutB M φ s.H) φ s.H w v val
  | _, _ => False
section
variable {Q : Exit -> Act -> World -> Prop}
theorem fw_room {m : Nat} : (FWr ro).room m := fun d hd => by simp [FWr] at hd
theorem wpV_in {c : Code} (h : c.wpIn (FWr ro) k P Q a w) : c.wpV P ro Q a w := fun b k cs hro _ => h b k cs hro trivial fw_room
theorem wpV_mono {c : Code} {Q' : Exit -> Act -> World -> Prop} (h : c.wpV P ro Q a w) (hq : ∀ e a w, Q e a w -> Q' e a w) : c.wpV P ro Q' a w :=
 fun b k cs hro hb => let ⟨e, a', w', q, r⟩ := h b k cs hro hb; ⟨e, a', w', hq _ _ _ q, r⟩
theorem wpV_ret (h : Q .ret a w) : Code.ret.wpV P ro Q a w := wpV_in (k := 0) (wpIn_ret h)
theorem wpV_exit {id : Nat} (h : Q (.exit id) a w) : (Code.exit id).wpV P ro Q a w := wpV_in (k := 0) (wpIn_exit h)
theorem wpV_seq {x y : Code} (h : x.wpV P ro (Exit.then (y.wpV P ro Q) Q) a w) : (Code.seq x y).wpV P ro Q a w := by
 intro b k cs hro hb
 have h0 : (lone (b.atR a (.code (.seq x y) :: k)) cs w).fenced P (FWr ro) := fenced_calm (n := 0) trivial fw_room rfl
 obtain ⟨e, a₁, w₁, hq, harr⟩ := h b (.code y :: k) cs hro hb
 cases e with
 | normal =>
   obtain ⟨e₂, a₂, w₂, hq₂, harr₂⟩ := hq b k cs hro hb
   exact ⟨e₂, a₂, w₂, hq₂, .of_steps (.head h0 stepR_seq harr) harr₂⟩
 | exit id => exact ⟨_, a₁, w₁, hq, .of_steps (.one h0 stepR_seq) (.pass (x := .code y) rfl (fun _ _ => .inl (by simp)) harr)⟩
 | goto l => exact ⟨_, a₁, w₁, hq, .of_steps (.one h0 stepR_seq) (.pass (x := .code y) rfl (fun _ _ => .inl (by simp)) harr)⟩
 | ret => exact ⟨_, a₁, w₁, hq, .of_steps (.one h0 stepR_seq) (.pass (x := .code y) rfl (fun _ _ => .inl (by simp)) harr)⟩
 | panic ch => exact ⟨_, a₁, w₁, hq, .of_steps (.one h0 stepR_seq) (.pass (x := .code y) rfl (fun _ _ => .inl (by simp)) harr)⟩
 | outgrown => exact ⟨_, a₁, w₁, hq, .of_steps (.one h0 stepR_seq) (.pass (x := .code y) rfl (fun _ _ => .inl (by simp)) harr)⟩
theorem wpV_cond {c : Operand} {x y : Code} {t : Bool} (hc : a.eval c = .bool t) (h : (if t then x else y).wpV P ro Q a w) : (Code.cond c x y).wpV P ro Q a w :=
 fun b k cs hro hb => let ⟨e, a', w', q, r⟩ := h b k cs hro hb; ⟨e, a', w', q, .of_steps (.one (fenced_calm (n := 0) trivial fw_room rfl) (stepR_cond hc)) r⟩
theorem wpV_block {id : Nat} {c : Code} (h : c.wpV P ro (Exit.inBlock id Q) a w) : (Code.block id c).wpV P ro Q a w := by
 intro b k cs hro hb
 have h0 : (lone (b.atR a (.code (.block id c) :: k)) cs w).fenced P (FWr ro) := fenced_calm (n := 0) trivial fw_room rfl
 obtain ⟨e, a₁, w₁, hq, harr⟩ := h b (.inBlock id :: k) cs hro hb
 cases e with
 | normal => exact ⟨.normal, a₁, w₁, hq, .head h0 stepR_block (StepsIn.trans harr (.one (fenced_calm (n := 0) trivial fw_room rfl) stepR_inBlock))⟩
 | exit id' =>
   by_cases hid : id' = id
   ·simp only [Exit.inBlock, hid, if_true] at hq
    exact ⟨.normal, a₁, w₁, hq, .head h0 stepR_block (harr.1 k (by simp [exitTo, hid]))⟩
   ·simp only [Exit.inBlock, hid, if_false] at hq
    have this : (id == id') = false := by simp; exact fun h => hid h.symm
    have hx : exitTo id' (.inBlock id :: k) = exitTo id' k := by simp [exitTo, this]
    exact ⟨.exit id', a₁, w₁, hq, fun k' hk => .head h0 stepR_block (harr.1 k' (by rw [hx]; exact hk)),
     fun hr' hk => let ⟨k₁, h1, h2⟩ := harr.2 hr' (by rw [hx]; exact hk); ⟨k₁, h1, .head h0 stepR_block h2⟩⟩
 | goto l =>
   have hx : gotoIn l (.inBlock id :: k) = gotoIn l k := by simp [gotoIn]
   exact ⟨_, a₁, w₁, hq, fun k' hk => .head h0 stepR_block (harr.1 k' (by rw [hx]; exact hk)),
    fun hr' hk => let ⟨k₁, h1, h2⟩ := harr.2 hr' (by rw [hx]; exact hk); ⟨k₁, h1, .head h0 stepR_block h2⟩⟩
 | ret => exact ⟨_, a₁, w₁, hq, .of_steps (.one h0 stepR_block) harr⟩
 | panic ch => exact ⟨_, a₁, w₁, hq, .of_steps (.one h0 stepR_block) harr⟩
 | outgrown => exact ⟨_, a₁, w₁, hq, .of_steps (.one h0 stepR_block) harr⟩
theorem stepR_scope {b : Frame} {k : List Item} {cs : List Frame} {c : Code} : step P (lone (b.atR a (.code (.scope c) :: k)) cs w) = .next (lone (b.atR a (.code c :: .inScope c :: k)) cs w) :=
 step_lone_go (by simp [stepG, stepG.exec, Frame.atR])
theorem stepR_inScope {b : Frame} {k : List Item} {cs : List Frame} {c : Code} : step P (lone (b.atR a (.inScope c :: k)) cs w) = .next (lone (b.atR a k) cs w) :=
 step_lone_go (by simp [stepG, stepG.exec, Frame.atR])
theorem wpV_scope {c : Code} (h : c.wpV P ro Q a w) (hg : ∀ l a w, ¬ Q (.goto l) a w) : (Code.scope c).wpV P ro Q a w := by
 intro b k cs hro hb
 have h0 : (lone (b.atR a (.code (.scope c) :: k)) cs w).fenced P (FWr ro) := fenced_calm (n := 0) trivial fw_room rfl
 obtain ⟨e, a₁, w₁, hq, harr⟩ := h b (.inScope c :: k) cs hro hb
 cases e with
 | normal => exact ⟨.normal, a₁, w₁, hq, .head h0 stepR_scope (StepsIn.trans harr (.one (fenced_calm (n := 0) trivial fw_room rfl) stepR_inScope))⟩
 | exit id' =>
   have hx : exitTo id' (.inScope c :: k) = exitTo id' k := by simp [exitTo]
   exact ⟨.exit id', a₁, w₁, hq, fun k' hk => .head h0 stepR_scope (harr.1 k' (by rw [hx]; exact hk)),
    fun hr' hk => let ⟨k₁, h1, h2⟩ := harr.2 hr' (by rw [hx]; exact hk); ⟨k₁, h1, .head h0 stepR_scope h2⟩⟩
 | goto l => exact (hg _ _ _ hq).elim
 | ret => exact ⟨_, a₁, w₁, hq, .of_steps (.one h0 stepR_scope) harr⟩
 | panic ch => exact ⟨_, a₁, w₁, hq, .of_steps (.one h0 stepR_scope) harr⟩
 | outgrown => exact ⟨_, a₁, w₁, hq, .of_steps (.one h0 stepR_scope) harr⟩
def rangePostV (P : Program) (l : Nat) (Q : Exit -> Act -> World -> Prop) (a' : Act) : Ending -> World -> Prop
 | .returned _, w₃ => ∃ jump w₄, (Instr.endLoop l).run P w₃ = .ok jump w₄ /\ (match jump with | none => Q .normal a' w₄ | some c => c.wpV P none Q a' w₄)
 | .panicked chain, w₃ => Q (.panic chain) a' w₃
 | .outgrown, _ => LetsOut Q
theorem wpV_rangeFunc {g : Operand} {ps : Array Tmp} {assign body : Code}
 (h : ∀ fn, fn < P.funcs.size -> ∃ (l : Nat) (mark : List Deferred) (w₁ : World) (d : Deferred) (w₁' : World) (f : FuncId) (args : Array Value) (w₂ : World),
  (Instr.enterLoop fn a.tmps ps assign body (FWr none).round).run P w = .ok (l, mark) w₁ /\ (resolve a.eval (rangeCall g l) 0).run P w₁ = .ok d w₁' /\
  (invoke d.target d.args).run P w₁' = .ok (.enter f args) w₂ /\ CallsIn (FWr none) 0 P f args w₂ (rangePostV P l Q { a with defers := mark ++ a.defers })) :
 (Code.rangeFunc g ps assign body).wpV P none Q a w := by
 intro b k cs hro hb
 obtain ⟨l, mark, w₁, d, w₁', f, args, w₂, he, hres, hinv, hF, hcall⟩ := h b.fn hb
 rw [show (FWr none).round = b.roundOf from hro.symm] at he
 have calm : ∀ (m : Machine), m.fenced P (FWr none) ↔ m.fenced P Fence.wide := fun m => Iff.rfl
 have h0 : (lone (b.atR a (.code (.rangeFunc g ps assign body) :: k)) cs w).fenced P (FWr none) := (calm _).2 (fenced_wide P _)
 have henter := stepR_rangeFunc (P := P) (b := b) (a := a) (k := k) (cs := cs) (w := w) he hres hinv
 obtain ⟨e, w₃, fr, hR, hsteps, hfn, hleave⟩ := hcall (b.atR { a with defers := mark ++ a.defers } (.inRangeFunc l :: k) :: cs) fw_room
 cases e with
 | outgrown =>
   obtain ⟨a₀, w₀, hq⟩ := hR
   exact ⟨.outgrown, a₀, w₀, hq, .inr (Outgrown.of_steps (.one henter) hsteps)⟩
 | returned v =>
   obtain ⟨jump, w₄, hend, hj⟩ := hR
   have sback : StepsIn (Machine.fenced P (FWr none)) P (lone (b.atR a (.code (.rangeFunc g ps assign body) :: k)) cs w) (lone (b.atR { a with defers := mark ++ a.defers } ((jump.map Item.code).toList ++ k)) cs w₄) := by
    refine .head h0 henter (StepsIn.trans hsteps (.head ((calm _).2 (fenced_wide P _)) ?_ (.one ((calm _).2 (fenced_wide P _)) (stepR_endRangeFunc hend))))
    rw [<- finish_atR_inRangeFunc l v]; exact step_leave_returned hleave
   cases jump with
   | none => exact ⟨.normal, _, w₄, hj, sback⟩
   | some c =>
     obtain ⟨e', a'', w₅, hq, harr⟩ := hj b k cs hro hb
     exact ⟨e', a'', w₅, hq, .of_steps sback harr⟩
 | panicked chain =>
   refine ⟨.panic chain, _, w₃, hR, .inRangeFunc l :: k, .head h0 henter (StepsIn.trans hsteps (.one ((calm _).2 (fenced_wide P _)) ?_))⟩
   rw [<- Frame.raise_atR]; exact step_leave_panicked hleave
end
theorem turn_loop (hH : HeapOk M φ H w) {id l : Nat} (hus : H.us id) {nf m : Nat} {env : List V} {ps : List Nat} {ica icb : IC} {st st' : LoopState} {pd pd' : Option Jmp} (ho : H.o id = .loop nf m env ps ica icb st pd) (hφ : φ id = .pointer (some ⟨l, 0, none⟩)) :
 ∃ r, w.heap[l]? = some (.loop r) /\ r.state = st /\ r.pending = pd.map Jmp.code /\
  HeapOk M φ (H.put [(id, .loop nf m env ps ica icb st' pd')]) { w with heap := w.heap.setIfInBounds l (.loop { r with state := st', pending := pd'.map Jmp.code }) } /\
  Trans φ H w φ (H.put [(id, .loop nf m env ps ica icb st' pd')]) { w with heap := w.heap.setIfInBounds l (.loop { r with state := st', pending := pd'.map Jmp.code }) } := by
 have hok := hH.ok id
 simp only [ObjOk, ho] at hok
 obtain ⟨b, r, h1, h2, h0, h3, h4, h5, h6, h7, h8, h9⟩ := hok
 rw [hφ] at h1; simp at h1; subst h1
 refine ⟨r, h2, h3, h4, ?_⟩
 have hkp : Keep (· = l) w { w with heap := w.heap.setIfInBounds l (.loop { r with state := st', pending := pd'.map Jmp.code }) } :=
  ⟨rfl, rfl, rfl, by simp, fun j _ hj => (MapKept.heap_set h2).2 j hj⟩
 have hl1 : (H.o id).live = true := by rw [ho]; rfl
 have hb1 : blk (φ id) = some l := by rw [hφ]; rfl
 have ht := trans_turn (w := w) (w' := { w with heap := w.heap.setIfInBounds l (.loop { r with state := st', pending := pd'.map Jmp.code }) }) hus hl1 hb1 hkp (.loop nf m env ps ica icb st' pd') (by rw [ho]; rfl) (by rw [ho]; rfl)
 refine ⟨heap_turn hH hus hl1 hb1 hkp _ (by rw [ho]; rfl) (by rw [ho]; rfl) ?_, ht⟩
 unfold ObjOk
 simp only [put_one_o, upd_apply, if_true]
 exact ⟨l, _, hφ, (MapKept.heap_set h2).1, h0, rfl, rfl, h5, h6, h7, h8, fun i => V.den_mono ht _ _ (h9 i)⟩
theorem run_setObj_loop {l : Nat} {r : Loop} (o : Obj) (hb : w.heap[l]? = some (.loop r)) : (setObj l o).run P w = .ok () { w with heap := w.heap.setIfInBounds l o } := by
 simp [setObj, Sem.run, hb]
theorem run_getLoop {l : Nat} {r : Loop} (hb : w.heap[l]? = some (.loop r)) : (Instr.getLoop l).run P w = .ok r w := by
 simp [Instr.getLoop, getObj, Sem.run, hb, Result.andThen]
end
def jmpQ (Q : Xit -> S -> Prop) (pd : Option Jmp) (s : S) : Prop :=
 match pd with
 | none => Q .normal s
 | some .ret => Q .ret s
 | some (.exit id) => Q (.exit id) s
def rngW (P : Program) (n : Nat) (g : V) (ps : List Nat) (ica icb : IC) (Q : Xit -> S -> Prop) (s : S) : Prop :=
 ∃ env, (∀ i, envJ env i = .junk \/ envJ env i = s.env i) /\
  match g with
  | .func (.func f) first cap => heapW P f (first ++ [.yld s.nx] ++ cap) (upd s.o s.nx (.loop P.funcs.size n env ps ica icb .ready none)) (s.nx + 1)
    (fun _ o' nx' => ∃ nf m e p c d st pd, o' s.nx = .loop nf m e p c d st pd /\ st ≠ .busy /\ jmpQ Q pd ⟨s.env, upd o' s.nx (.loop nf m e p c d .exhausted pd), nx'⟩)
    (fun v o' nx' => Q (.pan v) ⟨s.env, o', nx'⟩)
  | _ => False
def codeW (P : Program) (n b : Nat) (rd : Bool) : Code -> (Xit -> S -> Prop) -> S -> Prop
 | .skip, Q, s => Q .normal s
 | .label _, Q, s => Q .normal s
 | .scope x, Q, s => codeW P n b rd x Q s
 | .region _ ops false, Q, s => regW P n ops (fun v s => Q (.pan v) s) (Q .normal) ops.toList s
 | .region id ops true, Q, s => ∀ M φ0 H0 w0 cx φ a w ro k, SimC M φ0 H0 w0 n cx φ s a w -> (Code.region id ops true).wpIn (FWr ro) k P (PostC M φ0 H0 w0 n cx Q) a w
 | .seq x y, Q, s => codeW P n b rd x (thenQ (codeW P n b rd y Q) Q) s
 | .cond c x y, Q, s => match s.ev c with
   | .d (.bool t) => (t = true -> codeW P n b rd x Q s) /\ (t = false -> codeW P n b rd y Q s)
   | .anyb => codeW P n b rd x Q s /\ codeW P n b rd y Q s
   | _ => False
 | .block id x, Q, s => codeW P n b rd x (blockQ id Q) s
 | .loop x, Q, s => ∃ (J : Nat -> S -> Prop), (∃ m s1, SLe b s s1 /\ J m s1) /\ ∀ m s0, J m s0 -> codeW P n b rd x (fun e s => match e with | .normal => ∃ m' s1, m' < m /\ SLe b s s1 /\ J m' s1 | e => Q e s) s0
 | .exit id, Q, s => Q (.exit id) s
 | .ret, Q, s => Q .ret s
 | .rangeFunc g ps x y, Q, s => rd = false /\ rngW P n (s.ev g) ps.toList (low n x) (low n y) Q s
 | _, _, _ => False
section
variable {P : Program} {M : Nat -> Prop} {φ : Place} {H : Hp} {w w' : World} {φ0 : Place} {H0 : Hp} {w0 : World} {n b : Nat} {s : S} {a : Act} {cx : Cx} {ro : Option Nat} {k : Nat}
theorem sim_le (hb : ∀ id, H0.us id -> id < b) (hs : SimC M φ0 H0 w0 n cx φ s a w) {s' : S} (h : SLe b s s') : ∃ φ', SimC M φ0 H0 w0 n cx φ' s' a w := by
 obtain ⟨φ', h1, h2, h3, h4, h5, h6⟩ := h M φ w (fun i => a.tmps.getD i undef) hs.heap hs.env
 refine ⟨φ', h1, ⟨hs.tr.keep, fun k hk => hs.tr.grow k (h3 k hk), ⟨fun id hu => Nat.lt_of_lt_of_le (hb id hu) h4, fun id hu hr => ?_, fun id e' hu he => ?_⟩⟩, hs.size, ?_, h2⟩
 ·obtain ⟨g1, g2⟩ := h5 id (hb id hu) hr
  obtain ⟨g3, g4⟩ := hs.tr.rel.row id hu g1
  exact ⟨g3, g2.trans g4⟩
 ·obtain ⟨e, g1, g2, g3⟩ := h6 id e' (hb id hu) he
  obtain ⟨e0, k1, k2, k3⟩ := hs.tr.rel.ep id e hu g1
  refine ⟨e0, k1, Nat.le_trans k2 g2, fun heq => ?_⟩
  have a1 : e0 = e := by omega
  have a2 : e = e' := by omega
  exact (g3 a2).trans (k3 a1)
 ·obtain ⟨ms, g1, g2, g3, g4⟩ := hs.defers
  exact ⟨ms, g1, g2, g3, fun r hr => ⟨(g4 r hr).1, (g4 r hr).2.1, fun hl => (g4 r hr).2.2 (h3 r hl)⟩⟩
theorem wp_loop_down {c : Code} {Q : Exit -> Act -> World -> Prop} (J : Nat -> Act -> World -> Prop) (round : ∀ m a w, J m a w -> c.wpV P ro (Exit.then (fun a' w' => ∃ m', m' < m /\ J m' a' w') Q) a w) :
 ∀ m a w, J m a w -> (Code.loop c).wpV P ro Q a w := by
 intro m a w h0 fr kk cs hro hb
 have hr : (FWr ro).room (cs.length + 1 + 0) := fun d hd => by simp [FWr] at hd
 have key : ∀ m a w, J m a w -> ∃ e a' w', Q e a' w' /\ ArrivesIn (Machine.fenced P (FWr ro)) P (lone (fr.atR a (.code c :: .inLoop c :: kk)) cs w) fr kk cs e a' w' := by
  intro m
  induction m using Nat.strongRecOn with
  | _ m ih =>
    intro a w hJ
    obtain ⟨e, a1, w1, hq, harr⟩ := round m a w hJ fr (.inLoop c :: kk) cs hro hb
    cases e with
    | normal =>
      obtain ⟨m', hlt, hJ'⟩ := hq
      obtain ⟨e2, a2, w2, hq2, harr2⟩ := ih m' hlt a1 w1 hJ'
      exact ⟨e2, a2, w2, hq2, .of_steps (StepsIn.trans harr (.one (fenced_calm trivial hr rfl) stepR_inLoop)) harr2⟩
    | _ => exact ⟨_, a1, w1, hq, .pass (x := .inLoop c) rfl (fun _ _ => .inl (by simp)) harr⟩
 obtain ⟨e, a', w', hq, harr⟩ := key m a w h0
 exact ⟨e, a', w', hq, .of_steps (.one (fenced_calm trivial hr rfl) stepR_loop) harr⟩
theorem rng_sound (hs : SimC M φ0 H0 w0 n cx φ s a w) (hrd : cx.rd = false) (hro : ro = none) {g : Operand} {ps : Array Tmp} {x y : Code} {Q : Xit -> S -> Prop} (h : rngW P n (s.ev g) ps.toList (low n x) (low n y) Q s) :
 (Code.rangeFunc g ps x y).wpV P ro (PostC M φ0 H0 w0 n cx Q) a w := by
 subst hro
 obtain ⟨env, henv, h⟩ := h
 refine wpV_rangeFunc fun fn hfn => ?_
 let rec0 : Loop := { state := .ready, pending := none, fn := fn, tmps := a.tmps, params := ps, assign := x, body := y, defers := w.heap.size }
 let w1 : World := (w.alloc (.deferred (some []))).alloc (.loop rec0)
 let l : Nat := w.heap.size + 1
 have henter : (Instr.enterLoop fn a.tmps ps x y (FWr none).round).run P w = .ok (l, [mark w.heap.size]) w1 := by
  simp [Instr.enterLoop, FWr, mark, w1, l, rec0]
 have hk1 : Keep (fun _ => False) w w1 := by
  have k1 := keep_alloc w (.deferred (some []))
  have k2 := keep_alloc (w.alloc (.deferred (some []))) (.loop rec0)
  exact ⟨k2.os.trans k1.os, k2.tape.trans k1.tape, k2.output.trans k1.output, Nat.le_trans k1.size k2.size, fun j hj hm => (k2.block j (Nat.lt_of_lt_of_le hj k1.size) hm).trans (k1.block j hj hm)⟩
 let φ1 := upd φ s.nx (.pointer (some ⟨l, 0, none⟩))
 let s1 : S := ⟨s.env, upd s.o s.nx (.loop P.funcs.size n env ps.toList (low n x) (low n y) .ready none), s.nx + 1⟩
 have hfr : ¬ s.H.us s.nx := by simp [S.H]
 have hval : ∀ b, blk (.pointer (some ⟨l, 0, none⟩)) = some b -> w.heap.size <= b /\ b < w1.heap.size := by
  intro b hb; simp [blk] at hb; subst hb; simp [l, w1]
 have ht1 := trans_new (φ := φ) (H := s.H) hk1 hfr (.loop P.funcs.size n env ps.toList (low n x) (low n y) .ready none) (.pointer (some ⟨l, 0, none⟩)) fun b hb => (hval b hb).1
 have hsz1 : (w.alloc (.deferred (some []))).heap.size = w.heap.size + 1 := by simp
 have hl1 : w1.heap[l]? = some (.loop rec0) := by
  have := heap_alloc_new (w.alloc (.deferred (some []))) (.loop rec0)
  rwa [hsz1] at this
 have hH1 := heap_new hs.heap hk1 hfr (.loop P.funcs.size n env ps.toList (low n x) (low n y) .ready none) (.pointer (some ⟨l, 0, none⟩)) hval (by
  unfold ObjOk
  simp only [put_one_o, upd_apply, if_true]
  refine ⟨l, rec0, rfl, hl1, hfn, rfl, rfl, rfl, hs.size, rfl, rfl, fun i => ?_⟩
  rcases henv i with e | e
  ·rw [e]; trivial
  ·rw [e]; exact V.den_mono ht1 _ _ (hs.env i))
 have hs1 : SimC M φ0 H0 w0 n cx φ1 s1 { a with defers := mark w.heap.size :: a.defers } w1 := by
  have base := sim_heap hs hH1 ht1 (o' := upd s.o s.nx (.loop P.funcs.size n env ps.toList (low n x) (low n y) .ready none)) (nx' := s.nx + 1) rfl (put_us fun id hid => by simp at hid; exact .inr hid)
  refine ⟨base.heap, base.tr, base.size, ?_, base.env⟩
  obtain ⟨ms, g1, g2, g3, g4⟩ := base.defers
  obtain ⟨ms', q1, q2, q3, q4⟩ := hs.defers
  have hmm : ms.map mark = ms'.map mark := by
   have : ms.map mark ++ cx.base = ms'.map mark ++ cx.base := g1.symm.trans q1
   exact List.append_cancel_right this
  have hinj : ms = ms' := by
   have hm : ∀ a b, mark a = mark b -> a = b := fun a b h => by simpa [mark] using h
   exact List.map_inj_right hm |>.1 hmm
  refine ⟨w.heap.size :: ms, by rw [g1]; rfl, List.nodup_cons.2 ⟨fun hm => ?_, g2⟩, (fun h => by rw [hrd] at h; cases h), fun r hr => ?_⟩
  ·have := (q4 w.heap.size (hinj ▸ hm)).2.1
   rw [Array.getElem?_eq_none (Nat.le_refl _)] at this; cases this
  ·rcases List.mem_cons.1 hr with rfl | hr
   ·refine ⟨hs.tr.keep.size, (RowKit.Below.heap_alloc (w.alloc (.deferred (some []))) (.loop rec0) w.heap.size (by rw [hsz1]; omega)).trans (heap_alloc_new w _), ?_⟩
    rintro ⟨id, i1, i2⟩
    by_cases e : id = s.nx
    ·subst e; simp [φ1, blk, l] at i2
    ·have i1' : (s.H.o id).live = true := by simpa [s1, S.H, e] using i1
     have i2' : blk (φ id) = some w.heap.size := by simpa [φ1, e] using i2
     have := (hs.heap.ours _ ⟨id, i1', i2'⟩).2
     omega
   ·exact g4 r hr
 have hyld : V.den (mutB M φ1 s1.H) φ1 s1.H w1 (.yld s.nx) (.func (.yield l) #[] #[]) :=
  ⟨rfl, by simp [s1, S.H], fun _ => ⟨l, by simp [φ1], rfl⟩⟩
 have hg := ev_den (M := M) (φ := φ1) (H := s1.H) (w := w1) s1 { a with defers := mark w.heap.size :: a.defers } hs1.env g
 have hev1 : s1.ev g = s.ev g := by cases g <;> rfl
 rw [hev1] at hg
 have hae : ({ a with defers := mark w.heap.size :: a.defers } : Act).eval g = a.eval g := rfl
 rw [hae] at hg
 split at h
 ·rename_i f first cap hgv
  rw [hgv] at hg
  obtain ⟨fa, ca, hfe, hfa, hca⟩ := hg
  have fin : ∀ (all : List V) (o2 : Nat -> Obj') (s2 : S), s2 = ⟨s.env, o2, s.nx + 1⟩ -> SimC M φ0 H0 w0 n cx φ1 s2 { a with defers := mark w.heap.size :: a.defers } w1 -> V.dens (mutB M φ1 s2.H) φ1 s2.H w1 all (fa ++ #[Value.func (.yield l) #[] #[]] ++ ca).toList -> (o2 s.nx).isRow = true ->
   CtK P f all o2 (s.nx + 1) (fun _ o' nx' => ∃ nf m e p c d st pd, o' s.nx = .loop nf m e p c d st pd /\ st ≠ .busy /\ jmpQ Q pd ⟨s.env, upd o' s.nx (.loop nf m e p c d .exhausted pd), nx'⟩) (fun v o' nx' => Q (.pan v) ⟨s.env, o', nx'⟩) ->
   ∃ (l : Nat) (mark : List Deferred) (w₁ : World) (d : Deferred) (w₁' : World) (f : FuncId) (args : Array Value) (w₂ : World),
    (Instr.enterLoop fn a.tmps ps x y (FWr none).round).run P w = .ok (l, mark) w₁ /\ (resolve a.eval (rangeCall g l) 0).run P w₁ = .ok d w₁' /\
    (invoke d.target d.args).run P w₁' = .ok (.enter f args) w₂ /\ CallsIn (FWr none) 0 P f args w₂ (rangePostV P l (PostC M φ0 H0 w0 n cx Q) { a with defers := mark ++ a.defers }) := by
   intro all o2 s2 hs2e hs2 hall hrow hC
   subst hs2e
   have hcall := hC.2 M φ1 w1 _ hs2.heap hall
   refine ⟨l, [mark w.heap.size], w1, { target := .fn (.func f) ca, args := fa ++ #[Value.func (.yield l) #[] #[]] }, w1, f, fa ++ #[Value.func (.yield l) #[] #[]] ++ ca, w1, henter, ?_, ?_, callsIn_fw (hcall.mono fun e w' ⟨φ', o', nx', v, k1, k2, k3⟩ => ?_)⟩
   ·simp only [resolve, hfe, Deferred.ofValue, List.map_toArray, List.map_cons, List.map_nil, Sem.run_pure]
    rfl
   ·simp [invoke, run_enter hC.1]
   ·cases e with
    | returned val =>
      obtain ⟨k4, nf, m, e, p, c, d, st, pd, k5, k6, k7⟩ := k3
      have hs3 : SimC M φ0 H0 w0 n cx φ' ⟨s.env, o', nx'⟩ { a with defers := mark w.heap.size :: a.defers } w' := sim_heap hs2 k1 k2 rfl fun id hu => hu
      have hφ' : φ' s.nx = .pointer (some ⟨l, 0, none⟩) := by
       have := (k2.rel.row s.nx (show s.nx < s.nx + 1 by omega) (by show (o' s.nx).isRow = true; rw [k5]; rfl)).2
       rw [this]; simp [φ1]
      have hlt : s.nx < nx' := k2.rel.us s.nx (show s.nx < s.nx + 1 by omega)
      obtain ⟨r, r1, r2, r3, r4, r5⟩ := turn_loop (st' := .exhausted) (pd' := pd) k1 hlt (show (hp o' nx').o s.nx = _ from k5) hφ'
      have hend : (Instr.endLoop l).run P w' = .ok (pd.map Jmp.code) { w' with heap := w'.heap.setIfInBounds l (.loop { r with state := .exhausted, pending := pd.map Jmp.code }) } := by
       have e1 : ({ r with state := .exhausted } : Loop) = { r with state := .exhausted, pending := pd.map Jmp.code } := by rw [<- r3]
       have hnb : (r.state == LoopState.busy) = false := by rw [r2]; cases st <;> first | rfl | exact absurd rfl k6
       simp only [Instr.endLoop, Sem.run_bind, run_getLoop r1, Result.andThen_ok, hnb, Bool.false_eq_true, if_false, Sem.run_pure]
       rw [run_setObj_loop _ r1, e1]
       simp [r3]
      have hs4 := sim_heap hs3 r4 r5 (o' := upd o' s.nx (.loop nf m e p c d .exhausted pd)) (nx' := nx') rfl fun id hu => by
       simp only [put_one_us] at hu
       rcases hu with hu | hu
       ·exact hu
       ·subst hu; exact hlt
      refine ⟨pd.map Jmp.code, _, hend, ?_⟩
      cases pd with
      | none => exact ⟨.normal, _, _, k7, hs4, trivial⟩
      | some j =>
        cases j with
        | ret => exact wpV_ret ⟨.ret, _, _, k7, hs4, trivial⟩
        | exit id => exact wpV_exit ⟨.exit id, _, _, k7, hs4, rfl⟩
    | panicked ch =>
      obtain ⟨val, rfl, k4, k5⟩ := k3
      have hs3 : SimC M φ0 H0 w0 n cx φ' ⟨s.env, o', nx'⟩ { a with defers := mark w.heap.size :: a.defers } w' := sim_heap hs2 k1 k2 rfl fun id hu => hu
      exact ⟨.pan v, _, _, k5, hs3, val, rfl, k4⟩
    | outgrown => exact k3.elim
  have hall1 : V.dens (mutB M φ1 s1.H) φ1 s1.H w1 (first ++ [V.yld s.nx] ++ cap) (fa ++ #[Value.func (.yield l) #[] #[]] ++ ca).toList := by
   rw [Array.toList_append, Array.toList_append]
   exact V.dens_append3 hfa ⟨_, [], rfl, hyld, rfl⟩ hca
  rcases h with hC | hC
  ·exact fin _ _ s1 rfl hs1 hall1 (by simp; rfl) hC
  ·have hso : s1.o = upd s.o s.nx (.loop P.funcs.size n env ps.toList (low n x) (low n y) .ready none) := rfl
   obtain ⟨f1, f2, f3, f4, f5⟩ := freezes hs1.heap (lendIds s1.o (first ++ [V.yld s.nx] ++ cap)) (lendIds_used _ _ s1.o hall1)
   have hput : s1.H.put (frz s1.H.o (lendIds s1.o (first ++ [V.yld s.nx] ++ cap))) = hp (put s1.o (frz s1.o (lendIds s1.o (first ++ [V.yld s.nx] ++ cap)))) s1.nx := put_used (by rw [frz_ids]; exact lendIds_used _ _ s1.o hall1)
   have hall2 := lends f1 _ _ f3 (V.dens_mono f2 _ _ hall1)
   have hrow2 : ((s1.H.put (frz s1.H.o (lendIds s1.o (first ++ [V.yld s.nx] ++ cap)))).o s.nx).isRow = true := by
    by_cases hm : s.nx ∈ lendIds s1.o (first ++ [V.yld s.nx] ++ cap)
    ·rw [f3 _ hm]; simp [s1, S.H, Obj'.fz, Obj'.isRow]
    ·rw [f4 _ hm]; simp [s1, S.H, Obj'.isRow]
   rw [hput] at f1 f2 hall2 hrow2
   exact fin _ (put s1.o (frz s1.o (lendIds s1.o (first ++ [V.yld s.nx] ++ cap)))) ⟨s.env, _, s.nx + 1⟩ rfl (sim_heap hs1 f1 f2 rfl fun id hu => hu) hall2 hrow2 hC
 ·exact h.elim
end
end Go.Proofs.YtealblliddhgiaaGreat
namespace Go.Proofs.YtealblliddhgiaaGreat
section
variable {P : Program} {M : Nat -> Prop} {φ : Place} {H : Hp} {w w' : World} {φ0 : Place} {H0 : Hp} {w0 : World} {n b : Nat} {s : S} {a : Act} {cx : Cx} {ro : Option Nat} {k : Nat}
theorem code_sound (hb : ∀ id, H0.us id -> id < b) (hro : cx.rd = false -> ro = none) : ∀ (c : Code) (Q : Xit -> S -> Prop) (s : S) (φ : Place) (a : Act) (w : World), codeW P n b cx.rd c Q s -> SimC M φ0 H0 w0 n cx φ s a w -> c.wpV P ro (PostC M φ0 H0 w0 n cx Q) a w := by
 intro c
 induction c with
 | skip => exact fun Q s φ a w h hs => wpV_in (k := 0) (wpIn_skip ⟨.normal, s, φ, h, hs, trivial⟩)
 | scope x ih => exact fun Q s φ a w h hs => wpV_scope (ih Q s φ a w h hs) (fun l a w ⟨xx, s', φ', hq, hs', hm⟩ => by cases xx <;> exact hm)
 | label l => exact fun Q s φ a w h hs => wpV_in (k := 0) (wpIn_label ⟨.normal, s, φ, h, hs, trivial⟩)
 | exit id => exact fun Q s φ a w h hs => wpV_exit ⟨.exit id, s, φ, h, hs, rfl⟩
 | ret => exact fun Q s φ a w h hs => wpV_ret ⟨.ret, s, φ, h, hs, trivial⟩
 | goto l => exact fun Q s φ a w h hs => h.elim
 | refuse y => exact fun Q s φ a w h hs => h.elim
 | rangeFunc g ps x y => exact fun Q s φ a w h hs => rng_sound hs h.1 (hro h.1) h.2
 | region id ops draw =>
   intro Q s φ a w h hs
   cases draw with
   | true => exact wpV_in (h M φ0 H0 w0 cx φ a w ro 0 hs)
   | false =>
     refine wpV_in (k := 0) (wpIn_region_list (regW_sound (K := Q .normal) (X := fun v s => Q (.pan v) s) (fun s φ a w hk hs => ⟨.normal, s, φ, hk, hs, trivial⟩) (fun v s φ a w val hx hs hd => ⟨.pan v, s, φ, hx, hs, val, rfl, hd⟩) _ s φ a w h hs))
 | seq x y ihx ihy =>
   intro Q s φ a w h hs
   refine wpV_seq (wpV_mono (ihx _ s φ a w h hs) ?_)
   rintro e a' w' ⟨xx, s', φ', hq, hs', hm⟩
   cases e <;> cases xx <;> first | (exact hm.elim) | skip
   ·exact ihy Q s' φ' a' w' hq hs'
   ·subst hm; exact ⟨_, s', φ', hq, hs', rfl⟩
   ·exact ⟨.ret, s', φ', hq, hs', trivial⟩
   ·exact ⟨.pan _, s', φ', hq, hs', hm⟩
 | cond c x y ihx ihy =>
   intro Q s φ a w h hs
   simp only [codeW] at h
   have hc := ev_den (M := M) (φ := φ) (H := s.H) (w := w) s a hs.env c
   split at h
   ·rename_i t hv
    rw [hv] at hc
    simp only [V.den, D.den] at hc
    cases t with
    | true => exact wpV_cond hc (ihx Q s φ a w (h.1 rfl) hs)
    | false => exact wpV_cond hc (ihy Q s φ a w (h.2 rfl) hs)
   ·rename_i hv
    rw [hv] at hc
    obtain ⟨t, hc⟩ := hc
    cases t with
    | true => exact wpV_cond hc (ihx Q s φ a w h.1 hs)
    | false => exact wpV_cond hc (ihy Q s φ a w h.2 hs)
   ·exact h.elim
 | block id x ih =>
   intro Q s φ a w h hs
   refine wpV_block (wpV_mono (ih _ s φ a w h hs) ?_)
   rintro e a' w' ⟨xx, s', φ', hq, hs', hm⟩
   cases e <;> cases xx <;> first | (exact hm.elim) | skip
   ·exact ⟨.normal, s', φ', hq, hs', trivial⟩
   ·subst hm
    simp only [Exit.inBlock]
    simp only [blockQ] at hq
    split
    ·rename_i he; rw [if_pos he] at hq; exact ⟨.normal, s', φ', hq, hs', trivial⟩
    ·rename_i he; rw [if_neg he] at hq; exact ⟨.exit _, s', φ', hq, hs', rfl⟩
   ·exact ⟨.ret, s', φ', hq, hs', trivial⟩
   ·exact ⟨.pan _, s', φ', hq, hs', hm⟩
 | loop x ih =>
   intro Q s φ a w h hs
   obtain ⟨J, ⟨m0, s1, hle, hI⟩, hround⟩ := h
   obtain ⟨φ1, hs1⟩ := sim_le hb hs hle
   refine wp_loop_down (fun m a w => ∃ s φ, J m s /\ SimC M φ0 H0 w0 n cx φ s a w) ?_ m0 a w ⟨s1, φ1, hI, hs1⟩
   rintro m a w ⟨s, φ, hI, hs⟩
   refine wpV_mono (ih _ s φ a w (hround m s hI) hs) ?_
   rintro e a' w' ⟨xx, s', φ', hq, hs', hm⟩
   cases e <;> cases xx <;> first | (exact hm.elim) | skip
   ·obtain ⟨m2, s2, hlt, hle2, hI2⟩ := hq
    obtain ⟨φ2, hs2⟩ := sim_le hb hs' hle2
    exact ⟨m2, hlt, s2, φ2, hI2, hs2⟩
   ·subst hm; exact ⟨_, s', φ', hq, hs', rfl⟩
   ·exact ⟨.ret, s', φ', hq, hs', trivial⟩
   ·exact ⟨.pan _, s', φ', hq, hs', hm⟩
def rget (tmps : Array Value) (r : ResultVar) : Sem Value :=
 match r with
 | .tmp t => pure (tmps.getD t undef)
 | .cell p t => do loadVar t (<- asAddr (tmps.getD p undef))
theorem res_run (hheap : HeapOk M φ s.H w) (henv : ∀ i, V.den (mutB M φ s.H) φ s.H w (s.env i) (a.tmps.getD i undef)) : ∀ (rs : List ResultVar) (vs : List V), resV P s rs = some vs ->
 ∃ vals, (rs.mapM (rget a.tmps)).run P w = .ok vals w /\ V.dens (mutB M φ s.H) φ s.H w vs vals
 | [], vs, h => by simp [resV] at h; subst h; exact ⟨[], by simp, rfl⟩
 | .tmp t :: rs, vs, h => by
   simp only [resV, Option.map_eq_some_iff] at h
   obtain ⟨us, h1, rfl⟩ := h
   obtain ⟨vals, h2, h3⟩ := res_run hheap henv rs us h1
   exact ⟨a.tmps.getD t undef :: vals, by simp only [List.mapM_cons, rget, Sem.run_bind, Sem.run_pure, Result.andThen_ok, h2], _, _, rfl, henv t, h3⟩
 | .cell p t :: rs, vs, h => by
   simp only [resV] at h
   split at h
   ·rename_i id off hv
    split at h
    ·rename_i cs ho
     simp only [Option.bind_eq_some_iff, Option.map_eq_some_iff] at h
     obtain ⟨v, h0, us, h1, rfl⟩ := h
     obtain ⟨vals, h2, h3⟩ := res_run hheap henv rs us h1
     have hx := henv p
     rw [hv] at hx
     obtain ⟨_, hu, hp⟩ := hx
     obtain ⟨k, hφ, hval⟩ := hp (by show (s.o id).isRow = true; rw [ho]; rfl)
     have hok := hheap.ok id
     have ho' : s.H.o id = .row cs := ho
     simp only [ObjOk, ho'] at hok
     obtain ⟨b', carr, ty, g1, g2, g3, g4⟩ := hok
     rw [hφ] at g1; simp at g1; subst g1
     obtain ⟨val, h4, h5⟩ := load_row (P := P) h0 ⟨k, 0, none⟩ carr.toList g3 g4 (fun j u hj => row_cell g2 j u (by simpa using hj)) rfl
     rw [add_plain, Nat.zero_add] at h4
     have h6 : (loadVar t ⟨k, off, none⟩).run P w = .ok val w := by simpa [Instr.loadAt, Instr.sureAddr] using h4
     exact ⟨val :: vals, by simp only [List.mapM_cons, rget, hval, asAddr, Sem.run_bind, Sem.run_pure, Result.andThen_ok, h6, h2], val, vals, rfl, h5, h3⟩
    ·cases h
   ·cases h
theorem run_results {fn : Func} {tmps : Array Value} {vals : List Value}
 (h : (fn.results.toList.mapM (rget tmps)).run P w = .ok vals w) :
 (results fn tmps).run P w = .ok (if h : vals.toArray.size = 1 then vals.toArray[0] else .tuple vals.toArray) w := by
 have e : results fn tmps = (do let vs <- fn.results.mapM (rget tmps); pure (if h : vs.size = 1 then vs[0] else .tuple vs)) := by
  unfold results
  congr 2
 rw [e, Array.mapM_eq_mapM_toList]
 simp only [Sem.run_bind, Sem.run_map, h, Result.andThen_ok, Sem.run_pure]
theorem emptyHeap {us : Nat -> Prop} (φ : Place) (hM : ∀ k, M k -> k < w.heap.size) : HeapOk M φ ⟨fun _ => .no, us⟩ w where
 ok id := by simp [ObjOk]
 fresh _ _ := rfl
 apart i j k hi := by simp [Obj'.live] at hi
 ours k := by rintro ⟨id, h, _⟩; simp [Obj'.live] at h
 old := hM
theorem getD_args {vals : Array Value} {m i : Nat} : (vals ++ Array.replicate m undef).getD i undef = (vals[i]?).getD undef := by
 simp only [Array.getD_eq_getD_getElem?, Array.getElem?_append]
 split
 ·rfl
 ·rw [Array.getElem?_eq_none (xs := vals) (by omega)]
  simp only [Array.getElem?_replicate]
  split <;> rfl
structure SimB (M : Nat -> Prop) (φ0 : Place) (H0 : Hp) (w0 : World) (φ : Place) (s : S) (tmps : Array Value) (w : World) : Prop where
 heap : HeapOk M φ s.H w
 tr : Trans φ0 H0 w0 φ s.H w
 env : ∀ i, V.den (mutB M φ s.H) φ s.H w (s.env i) (tmps.getD i undef)
theorem simB_shut {tmps : Array Value} (hs : SimB M φ0 H0 w0 φ s tmps w) {r : Nat} (h1 : w0.heap.size <= r) (h2 : w.heap[r]? = some (.deferred (some []))) (h3 : ¬ liveB φ s.H r) :
 SimB M φ0 H0 w0 φ s tmps { w with heap := w.heap.setIfInBounds r (.deferred none) } := by
 have hne : ∀ b, b ≠ r -> (w.heap.setIfInBounds r (.deferred none))[b]? = w.heap[b]? := fun b hb => (MapKept.heap_set h2).2 b hb
 have hbl : ∀ b, Cellish w b -> ¬ mutB M φ s.H b -> (w.heap.setIfInBounds r (.deferred none))[b]? = w.heap[b]? /\ ¬ mutB M φ s.H b := by
  intro b hc hn
  refine ⟨hne b fun e => ?_, hn⟩
  subst e
  rcases hc with ⟨cs, ty, fz, hc⟩ | ⟨es, clock, hc⟩
  ·rw [h2] at hc; cases hc
  ·rw [h2] at hc; cases hc
 refine ⟨⟨fun id => ?_, hs.heap.fresh, hs.heap.apart, fun b hb => ⟨(hs.heap.ours b hb).1, by simpa using (hs.heap.ours b hb).2⟩, fun b hb => by simpa using hs.heap.old b hb⟩, ⟨⟨hs.tr.keep.os, hs.tr.keep.tape, hs.tr.keep.output, by simpa using hs.tr.keep.size, fun j hj hm => ?_⟩, hs.tr.grow, hs.tr.rel⟩, fun i => V.den_mono' hbl (StepRel.refl _ _) _ _ (hs.env i)⟩
 ·exact ObjOk.mono' hbl (StepRel.refl _ _) rfl rfl (fun hl b hb => hne b fun e => h3 ⟨id, hl, e ▸ hb⟩) (hs.heap.ok id)
 ·rw [hne j (by omega)]; exact hs.tr.keep.block j hj hm
theorem leaves_marks {fn : Func} {R : Ending -> World -> Prop} {u : FrameMode} (hu : u ≠ .run) {tmps tb : Array Value} {ds : List Deferred} (hR : ∀ w, SimB M φ0 H0 w0 φ s tb w -> LeavesInM (FWr none) k P fn tmps R ds u w) :
 ∀ (ms : List Nat) (w : World), ms.Nodup -> (∀ r ∈ ms, w0.heap.size <= r /\ w.heap[r]? = some (.deferred (some [])) /\ ¬ liveB φ s.H r) -> SimB M φ0 H0 w0 φ s tb w -> LeavesInM (FWr none) k P fn tmps R (ms.map mark ++ ds) u w
 | [], w, _, _, hs => hR w hs
 | r :: ms, w, hn, hm, hs => by
   obtain ⟨h1, h2, h3⟩ := hm r (by simp)
   obtain ⟨hn1, hn2⟩ := List.nodup_cons.1 hn
   refine ⟨hu, .inl ⟨r, { w with heap := w.heap.setIfInBounds r (.deferred none) }, rfl, ?_, leaves_marks hu hR ms _ hn2 (fun r' hr' => ?_) (simB_shut hs h1 h2 h3)⟩⟩
   ·simp [Instr.takeDeferred, getObj, setObj, Sem.run, h2, Result.andThen]
   ·obtain ⟨g1, g2, g3⟩ := hm r' (by simp [hr'])
    exact ⟨g1, ((MapKept.heap_set h2).2 r' (fun e => hn1 (e ▸ hr'))).trans g2, g3⟩
theorem SimC.toB (hs : SimC M φ0 H0 w0 n cx φ s a w) : SimB M φ0 H0 w0 φ s a.tmps w := ⟨hs.heap, hs.tr, hs.env⟩
def endK (P : Program) (rs : List ResultVar) (K X : V -> (Nat -> Obj') -> Nat -> Prop) (e : Xit) (s : S) : Prop :=
 match e with
 | .normal | .ret => match resV P s rs with
   | some [v] => K v s.o s.nx
   | some vs => K (.tup vs) s.o s.nx
   | none => False
 | .pan v => X v s.o s.nx
 | .exit _ => False
theorem endK_ret {P : Program} {rs : List ResultVar} {K X : V -> (Nat -> Obj') -> Nat -> Prop} {s : S} (h : endK P rs K X .ret s) : ∃ vs, resV P s rs = some vs /\ K (match vs with | [v] => v | vs => .tup vs) s.o s.nx := by
 unfold endK at h
 simp only at h
 split at h
 ·rename_i v h1; exact ⟨[v], h1, h⟩
 ·rename_i vs h1 h2
  refine ⟨vs, h2, ?_⟩
  split
  ·exact absurd rfl (h1 _)
  ·exact h
 ·exact h.elim
theorem tupV_den : ∀ {vs : List V} {vals : List Value}, V.dens (mutB M φ H) φ H w vs vals -> V.den (mutB M φ H) φ H w (match vs with | [v] => v | vs => .tup vs) (if h : vals.toArray.size = 1 then vals.toArray[0] else .tuple vals.toArray)
 | [], vals, h => by simp only [V.dens] at h; subst h; exact ⟨#[], rfl, rfl⟩
 | [v], vals, h => by obtain ⟨u, us, rfl, h1, h2⟩ := h; simp only [V.dens] at h2; subst h2; exact h1
 | v :: y :: l, vals, h => by
   have h' := h
   obtain ⟨u, us, rfl, h1, u2, us2, rfl, h2⟩ := h
   exact ⟨(u :: u2 :: us2).toArray, by simp, by simpa using h'⟩
theorem env_args {vals : Array Value} {m : Nat} {vs : List V} (hd : V.dens (mutB M φ H) φ H w vs vals.toList) (i : Nat) : V.den (mutB M φ H) φ H w (argsEnv vs i) ((vals ++ Array.replicate m undef).getD i undef) := by
 have hlen := V.dens_length _ _ hd
 simp only [argsEnv, getD_args]
 cases hx : vs[i]? with
 | none =>
   have : vals[i]? = none := by
    rw [List.getElem?_eq_none_iff] at hx
    apply Array.getElem?_eq_none
    simp at hlen; omega
   simp only [List.getD_eq_getElem?_getD, hx, this]
   exact ⟨#[], rfl, rfl⟩
 | some v =>
   obtain ⟨u, hu, hdu⟩ := V.dens_get _ _ _ _ hd hx
   have hu' : vals[i]? = some u := by simpa using hu
   simp only [List.getD_eq_getElem?_getD, hx, hu', Option.getD_some]
   exact hdu
theorem callsIn_of_wpV {f : FuncId} {fn : Func} {c : Code} {args : Array Value} {w : World} {R : Ending -> World -> Prop} (hf : P.funcs[f]? = some fn) (hb : fn.body = some c)
 (h : c.wpV P none (bodyPostM (FWr none) k P fn R) { tmps := args ++ Array.replicate (fn.ntmps - args.size) undef, defers := [] } w) : CallsIn (FWr none) k P f args w R := by
 have hlt : f < P.funcs.size := (Array.getElem?_eq_some_iff.1 hf).1
 refine ⟨trivial, fun cs hr => ?_⟩
 let b : Frame := { (default : Frame) with fn := f, kind := .normal, roundOf := none }
 have henter : Frame.enter P f args .normal = b.atR { tmps := args ++ Array.replicate (fn.ntmps - args.size) undef, defers := [] } [.code c] := by
  simp [Frame.enter, Frame.atR, hf, hb, b]
 obtain ⟨e, a', w', hq, harr⟩ := h b [] cs rfl hlt
 rw [<- henter] at harr
 cases e with
 | normal =>
   obtain ⟨e', w'', fr', hR, hs, hfn, hl⟩ := leaves_stepsInM a'.defers .returning w' { b.atR a' [] with mode := .returning } cs rfl rfl rfl hf rfl (trivial : (FWr none).fn f) hr hq
   exact ⟨e', w'', fr', hR, ComesIn.of_steps (StepsIn.trans harr (.one (fenced_calm (n := 0) (fr := b.atR a' []) trivial fw_room rfl) (stepR_end rfl))) hs, hfn, hl⟩
 | ret =>
   obtain ⟨todo, hs₀⟩ := harr.1 rfl
   obtain ⟨e', w'', fr', hR, hs, hfn, hl⟩ := leaves_stepsInM a'.defers .returning w' { b.atR a' todo with mode := .returning } cs rfl rfl rfl hf rfl (trivial : (FWr none).fn f) hr hq
   exact ⟨e', w'', fr', hR, ComesIn.of_steps hs₀ hs, hfn, hl⟩
 | panic chain =>
   obtain ⟨todo, hs₀⟩ := harr
   obtain ⟨e', w'', fr', hR, hs, hfn, hl⟩ := leaves_stepsInM a'.defers (.panicking chain) w' { b.atR a' todo with mode := .panicking chain } cs rfl rfl rfl hf rfl (trivial : (FWr none).fn f) hr hq
   exact ⟨e', w'', fr', hR, ComesIn.of_steps hs₀ hs, hfn, hl⟩
 | exit id => exact hq.elim
 | goto l => exact hq.elim
 | outgrown => exact ⟨.outgrown, w', b, hq, harr.resolve_left (by simp [b]), rfl, trivial⟩
def roundPostV (P : Program) (l : Nat) (R : Ending -> World -> Prop) : Exit -> Act -> World -> Prop
 | .normal, _, w => ∃ v w', (Instr.endRound l none).run P w = .ok v w' /\ R (.returned v) w'
 | .ret, _, w => ∃ v w', (Instr.endRound l (some .ret)).run P w = .ok v w' /\ R (.returned v) w'
 | .exit id, _, w => ∃ v w', (Instr.endRound l (some (.exit id))).run P w = .ok v w' /\ R (.returned v) w'
 | .goto _, _, _ => False
 | .panic chain, a, w => a.defers = [] /\ R (.panicked chain) w
 | .outgrown, _, _ => False
theorem roundIn_of_wpV {l : Nat} {f : FuncId} {tmps : Array Value} {assign body : Code} {w : World} {R : Ending -> World -> Prop} (hf : f < P.funcs.size)
 (h : assign.wpV P (some l) (Exit.then (fun a₁ w₁ => ∃ w₂, (Instr.beginRound l).run P w₁ = .ok () w₂ /\ body.wpV P (some l) (roundPostV P l R) a₁ w₂) (fun e a w => match e with | .panic chain => a.defers = [] /\ R (.panicked chain) w | _ => False))
  { tmps := tmps, defers := [] } w) :
 RoundIn Fence.wide n P l f tmps assign body w R := by
 refine ⟨trivial, fun c cs hr => ?_⟩
 let b : Frame := { (default : Frame) with fn := f, kind := .normal, roundOf := some l }
 have hb0 : Frame.round l f tmps assign body .normal = b.atR { tmps := tmps, defers := [] } [.code assign, .beginRound, .code body] := by
  simp [Frame.round, Frame.atR, b]
 have calm : ∀ (m : Machine), m.fenced P Fence.wide := fun m => fenced_wide P m
 have pan : ∀ {a : Act} {w : World} {todo : List Item} {chain : List PanicEntry}, a.defers = [] -> step P (lone { b.atR a todo with mode := .panicking chain } (c :: cs) w) = .next (lone (c.raise chain) cs w) := by
  intro a w todo chain hd
  exact step_leave_panicked (fr := { b.atR a todo with mode := .panicking chain }) ⟨rfl, hd, P.funcs[f], by show P.funcs[f]? = _; simp [hf]⟩
 obtain ⟨e, a₁, w₁, hq, harr⟩ := h b [.beginRound, .code body] (c :: cs) rfl hf
 rw [<- hb0] at harr
 cases e with
 | normal =>
   obtain ⟨w₂, hbr, hbody⟩ := hq
   have s1 : StepsIn (Machine.fenced P Fence.wide) P (lone (b.atR a₁ [.beginRound, .code body]) (c :: cs) w₁) (lone (b.atR a₁ [.code body]) (c :: cs) w₂) := .one (calm _) (stepR_beginRound rfl hbr)
   obtain ⟨e₂, a₂, w₃, hq₂, harr₂⟩ := hbody b [] (c :: cs) rfl hf
   have harr : StepsIn (Machine.fenced P Fence.wide) P _ _ := harr
   cases e₂ with
   | normal =>
     obtain ⟨v, w₄, hend, hR⟩ := hq₂
     have harr₂ : StepsIn (Machine.fenced P Fence.wide) P _ _ := harr₂
     exact ⟨.returned v, w₄, hR, (StepsIn.trans harr s1).trans (StepsIn.trans harr₂ (.one (calm _) (stepR_round_end rfl rfl hend)))⟩
   | ret =>
     obtain ⟨v, w₄, hend, hR⟩ := hq₂
     obtain ⟨k₁, hs⟩ := harr₂.2 rfl
     have hs : StepsIn (Machine.fenced P Fence.wide) P _ _ := hs
     exact ⟨.returned v, w₄, hR, (StepsIn.trans harr s1).trans (StepsIn.trans hs (.one (calm _) (stepR_round_ret rfl rfl hend)))⟩
   | exit id =>
     obtain ⟨v, w₄, hend, hR⟩ := hq₂
     obtain ⟨k₁, hk, hs⟩ := harr₂.2 rfl rfl
     have hs : StepsIn (Machine.fenced P Fence.wide) P _ _ := hs
     exact ⟨.returned v, w₄, hR, (StepsIn.trans harr s1).trans (StepsIn.trans hs (.one (calm _) (stepR_round_exit rfl rfl hk hend)))⟩
   | goto t => exact hq₂.elim
   | panic chain =>
     obtain ⟨todo, hs⟩ := harr₂
     have hs : StepsIn (Machine.fenced P Fence.wide) P _ _ := hs
     exact ⟨.panicked chain, w₃, hq₂.2, (StepsIn.trans harr s1).trans (StepsIn.trans hs (.one (calm _) (pan hq₂.1)))⟩
   | outgrown => exact hq₂.elim
 | exit id => exact hq.elim
 | goto t => exact hq.elim
 | ret => exact hq.elim
 | panic chain =>
   obtain ⟨todo, hs⟩ := harr
   have hs : StepsIn (Machine.fenced P Fence.wide) P _ _ := hs
   exact ⟨.panicked chain, w₁, hq.2, StepsIn.trans hs (.one (calm _) (pan hq.1))⟩
 | outgrown => exact hq.elim
theorem CtK.of_code {f : FuncId} {fn : Func} {c : Code} {args : List V} {o : Nat -> Obj'} {nx : Nat} {K X : V -> (Nat -> Obj') -> Nat -> Prop} (hf : P.funcs[f]? = some fn) (hn : (fn.name == "runtime.NumGoroutine") = false) (hbody : fn.body = some c) (hl : args.length <= fn.ntmps)
 (h : codeW P fn.ntmps nx false c (endK P fn.results.toList K X) ⟨argsEnv args, o, nx⟩) : CtK P f args o nx K X := by
 refine ⟨⟨fn, hf, hn, by rw [hbody]; rfl⟩, fun M φ w vals hH hd => ?_⟩
 have hlen := V.dens_length _ _ hd
 let s0 : S := ⟨argsEnv args, o, nx⟩
 let a0 : Act := { tmps := vals ++ Array.replicate (fn.ntmps - vals.size) undef, defers := [] }
 have hs0 : SimC M φ (hp o nx) w fn.ntmps ⟨[], false⟩ φ s0 a0 w := by
  refine ⟨hH, Trans.refl _ _ _, ?_, ⟨[], rfl, List.nodup_nil, fun _ => rfl, fun r hr => by cases hr⟩, env_args hd⟩
  simp only [a0, Array.size_append, Array.size_replicate]; simp at hlen; omega
 refine calls_fw (ro := none) (k := 0) (callsIn_of_wpV hf hbody (wpV_mono (code_sound (P := P) (H0 := hp o nx) (b := nx) (cx := ⟨[], false⟩) (ro := none) (fun id hu => hu) (fun _ => rfl) c _ s0 φ a0 w h hs0) ?_))
 rintro e a w' ⟨x, s, φ', hq, hs, hm⟩
 obtain ⟨ms, g1, g2, g3, g4⟩ := hs.defers
 rw [List.append_nil] at g1
 have done : (x = .normal \/ x = .ret) -> LeavesInM (FWr none) 0 P fn a.tmps (EndK M φ (hp o nx) w K X) a.defers .returning w' := by
  intro hx
  have hq' : endK P fn.results.toList K X .ret s := by rcases hx with rfl | rfl <;> exact hq
  obtain ⟨vs, h1, h2⟩ := endK_ret hq'
  rw [g1]
  have := leaves_marks (P := P) (k := 0) (fn := fn) (R := EndK M φ (hp o nx) w K X) (u := .returning) (by simp) (ds := []) (fun w2 hb => by
   obtain ⟨vals, h3, h4⟩ := res_run (P := P) (a := a) hb.heap hb.env _ _ h1
   exact ⟨_, run_results h3, φ', s.o, s.nx, _, hb.heap, hb.tr, tupV_den h4, h2⟩) ms w' g2 g4 hs.toB
  rwa [List.append_nil] at this
 cases e <;> cases x <;> first | (exact hm.elim) | skip
 ·exact done (.inl rfl)
 ·exact hq.elim
 ·exact done (.inr rfl)
 ·rename_i v
  obtain ⟨val, rfl, hd'⟩ := hm
  show LeavesInM (FWr none) 0 P fn a.tmps (EndK M φ (hp o nx) w K X) a.defers _ w'
  rw [g1]
  have hb0 : SimB M φ (hp o nx) w φ' ⟨fun i => if i = 0 then v else .junk, s.o, s.nx⟩ #[val] w' := ⟨hs.heap, hs.tr, fun i => by
   by_cases hi : i = 0
   ·subst hi; exact hd'
   ·simp only [hi, if_false]; trivial⟩
  have := leaves_marks (P := P) (k := 0) (fn := fn) (s := ⟨fun i => if i = 0 then v else .junk, s.o, s.nx⟩) (tmps := a.tmps) (tb := #[val]) (φ0 := φ) (H0 := hp o nx) (w0 := w) (R := EndK M φ (hp o nx) w K X) (u := .panicking [{ v := val, recovered := false }]) (by simp) (ds := []) (fun w2 hb => by
   have h0 := hb.env 0
   exact ⟨φ', s.o, s.nx, v, hb.heap, hb.tr, val, rfl, h0, hq⟩) ms w' g2 g4 hb0
  rwa [List.append_nil] at this
theorem PCt.of_ctk {f : FuncId} {ds : List D} {out : R} (h : CtK P f (ds.map .d) (fun _ => .no) 0 (fun v o _ => ∃ vs rs, v = (match vs with | [v] => v | vs => .tup vs) /\ toDs o vs = some rs /\ out = .ret rs) (fun v o _ => ∃ x, toD o v = some x /\ out = .pan x)) : PCt P f ds out := by
 refine ⟨h.1, fun M w vals hM hd => ?_⟩
 let φ0 : Place := fun _ => .nilFunc
 have hnl : ∀ b, ¬ liveB φ0 (hp (fun _ => .no) 0) b := by rintro b ⟨id, hl, _⟩; simp [hp, Obj'.live] at hl
 refine (h.2 M φ0 w vals (emptyHeap φ0 hM) ((V.dens_map_d _ _).2 (D.dens_mono (w := w) (w' := w) (B := M) (fun b _ hB => ⟨rfl, fun h => h.elim hB (hnl b)⟩) _ _ hd))).mono ?_
 rintro e w' ⟨φ', o', nx', v, k1, k2, k3⟩
 have hkeep : Keep (fun _ => False) w w' := ⟨k2.keep.os, k2.keep.tape, k2.keep.output, k2.keep.size, fun k hk _ => k2.keep.block k hk (hnl k)⟩
 have fin : ∀ (vs : List V) (xs : List D) (vals : List Value), toDs o' vs = some xs -> V.dens (mutB M φ' (hp o' nx')) φ' (hp o' nx') w' vs vals -> D.dens M w' xs vals := by
  intro vs xs vals h1 h2
  obtain ⟨f1, f2, f3, f4, f5⟩ := freezes k1 (V.idss vs) (idss_used vs _ h2)
  have h3 := toDs_den f1 vs xs vals f3 h1 (V.dens_mono f2 _ _ h2)
  exact D.dens_mono (w := w') (w' := w') (fun k _ hB => ⟨rfl, fun hM => hB (.inl hM)⟩) xs vals h3
 refine ⟨hkeep, ?_⟩
 cases e with
 | outgrown => exact k3.elim
 | panicked ch =>
   obtain ⟨val, rfl, g1, x, g2, rfl⟩ := k3
   have := fin [v] [x] [val] (by simp [toDs, g2]) ⟨val, [], rfl, g1, rfl⟩
   obtain ⟨u, us, he, h2, _⟩ := this
   simp at he; obtain ⟨rfl, rfl⟩ := he
   exact ⟨val, rfl, h2⟩
 | returned val =>
   obtain ⟨g1, vs, rs, rfl, g2, rfl⟩ := k3
   match vs, g1, g2 with
   | [], g1, g2 =>
     obtain ⟨arr, rfl, hv⟩ := g1
     simp only [toDs, Option.some.injEq] at g2; subst g2
     exact ⟨arr, rfl, hv⟩
   | [v], g1, g2 =>
     have := fin [v] rs [val] g2 ⟨val, [], rfl, g1, rfl⟩
     cases rs with
     | nil => cases this
     | cons x l =>
       obtain ⟨u, us, he, h2, h3⟩ := this
       simp at he; obtain ⟨rfl, rfl⟩ := he
       cases l with
       | nil => exact h2
       | cons y l => obtain ⟨_, _, h, _⟩ := h3; cases h
   | v :: v2 :: l, g1, g2 =>
     obtain ⟨arr, rfl, h⟩ := g1
     have := fin (v :: v2 :: l) rs arr.toList g2 h
     have hl := D.dens_length _ _ this
     have hl2 := V.dens_length _ _ h
     match rs, hl, this with
     | [], hl, _ => rw [hl2] at hl; simp at hl
     | [x], hl, _ => rw [hl2] at hl; simp at hl
     | x :: y :: l, _, this => exact ⟨arr, rfl, this⟩
theorem endW_endK {rs : List ResultVar} {out : R} (e : Xit) (s : S) (h : endW P rs out e s) :
 endK P rs (fun v o _ => ∃ vs rs, v = (match vs with | [v] => v | vs => .tup vs) /\ toDs o vs = some rs /\ out = .ret rs) (fun v o _ => ∃ x, toD o v = some x /\ out = .pan x) e s := by
 have ret : endW P rs out .ret s -> endK P rs (fun v o _ => ∃ vs rs, v = (match vs with | [v] => v | vs => .tup vs) /\ toDs o vs = some rs /\ out = .ret rs) (fun v o _ => ∃ x, toD o v = some x /\ out = .pan x) .ret s := by
  intro h
  obtain ⟨vs, xs, h1, h2, h3⟩ := endW_ret h
  simp only [endK, h1]
  match vs, h2 with
  | [], h2 => exact ⟨[], xs, rfl, h2, h3⟩
  | [v], h2 => exact ⟨[v], xs, rfl, h2, h3⟩
  | v :: v2 :: l, h2 => exact ⟨v :: v2 :: l, xs, rfl, h2, h3⟩
 cases e with
 | normal => exact ret h
 | ret => exact ret h
 | exit id => exact h.elim
 | pan v => exact endW_pan h
end
end Go.Proofs.YtealblliddhgiaaGreat
