/-
  A PART OF THE PROOF (put together by program): several texts, one behind the other. Conditions: none.
-/
import Derived.Test.YtealblliddhgiaaGreatOr19
set_option linter.unusedSimpArgs false
set_option linter.unusedVariables false
namespace Go.Proofs.YtealblliddhgiaaGreat
def roundQ (id : Nat) (K X : V → (Nat → Obj') → Nat → Prop) (e : Xit) (s : S) : Prop :=
  match e with
  | .normal => ∃ nf m en p c d st pd, s.o id = .loop nf m en p c d st pd ∧ K (.d (.bool true)) (upd s.o id (.loop nf m en p c d .ready none)) s.nx
  | .ret => ∃ nf m en p c d st pd, s.o id = .loop nf m en p c d st pd ∧ K (.d (.bool false)) (upd s.o id (.loop nf m en p c d .done (some .ret))) s.nx
  | .exit j => ∃ nf m en p c d st pd, s.o id = .loop nf m en p c d st pd ∧ K (.d (.bool false)) (upd s.o id (.loop nf m en p c d .done (some (.exit j)))) s.nx
  | .pan v => X v s.o s.nx
def beginQ (P : Program) (n b id : Nat) (icb : IC) (K X : V → (Nat → Obj') → Nat → Prop) (e : Xit) (s : S) : Prop :=
  match e with
  | .normal => ∃ nf m en p c d pd, s.o id = .loop nf m en p c d .ready pd ∧ icW P n b true icb (roundQ id K X) ⟨s.env, upd s.o id (.loop nf m en p c d .busy pd), s.nx⟩
  | .pan v => X v s.o s.nx
  | _ => False
section
variable {P : Program} {M : Nat → Prop} {φ φ0 : Place} {H0 : Hp} {w w0 : World} {n : Nat} {s : S} {a : Act} {cx : Cx}
theorem put_loop_us {id : Nat} {x : Obj'} {s : S} (hlt : id < s.nx) (j : Nat) (hu : (s.H.put [(id, x)]).us j) : j < s.nx := by
  simp only [put_one_us] at hu
  rcases hu with hu | hu
  · exact hu
  · subst hu; exact hlt
theorem params_den {B : Nat → Prop} {H : Hp} {n : Nat} : ∀ (ps : List Nat) (vs : List V) (us : List Value) (env : Nat → V) (tmps : Array Value), tmps.size = n → ps.length = vs.length → V.dens B φ H w vs us → ps.all (fun t => decide (t < n)) = true → (∀ i, V.den B φ H w (env i) (tmps.getD i undef)) →
    ((ps.zip us).foldl (fun tmps p => tmps.setIfInBounds p.1 p.2) tmps).size = n ∧ ∀ i, V.den B φ H w (setP env ps vs i) (((ps.zip us).foldl (fun tmps p => tmps.setIfInBounds p.1 p.2) tmps).getD i undef)
  | [], [], us, env, tmps, hsz, _, hd, _, he => by simp only [V.dens] at hd; subst hd; exact ⟨hsz, he⟩
  | [], v :: vs, us, env, tmps, _, h, _, _, _ => by simp at h
  | t :: ps, [], us, env, tmps, _, h, _, _, _ => by simp at h
  | t :: ps, v :: vs, us, env, tmps, hsz, hl, hd, hp, he => by
    obtain ⟨u, us, rfl, h1, h2⟩ := hd
    simp only [List.all_cons, Bool.and_eq_true, decide_eq_true_eq] at hp
    simp only [List.zip_cons_cons, List.foldl_cons, setP]
    refine params_den ps vs us (upd env t v) (tmps.setIfInBounds t u) (by simp [hsz]) (by simpa using hl) h2 hp.2 (fun i => ?_)
    simp only [upd_apply]
    by_cases hi : i = t
    · subst hi
      have : (tmps.setIfInBounds i u).getD i undef = u := by simp [Array.getD, hsz, hp.1]
      rw [if_pos rfl, this]; exact h1
    · have : (tmps.setIfInBounds t u).getD i undef = tmps.getD i undef := by
        simp only [Array.getD_eq_getD_getElem?]
        rw [Array.getElem?_setIfInBounds_ne (Ne.symm hi)]
      rw [if_neg hi, this]; exact he i
theorem RoundK.of_ic (hmix : P.follows .mixedOrders = true) {id : Nat} {args : List V} {o : Nat → Obj'} {nx : Nat} {K X : V → (Nat → Obj') → Nat → Prop} {env : List V} {ps : List Nat} {ica icb : IC} {st : LoopState} {pd : Option Jmp}
    (ho : o id = .loop P.funcs.size n env ps ica icb st pd) (hlt : id < nx) (hps : ps.all (fun t => decide (t < n)) = true) (hl : args.length = ps.length)
    (h : icW P n nx true ica (beginQ P n nx id icb K X) ⟨setP (envJ env) ps args, o, nx⟩) : RoundK P id args o nx K X := by
  refine ⟨by rw [ho]; rfl, fun M φ w vals b hH hd hφ => ?_⟩
  have hok := hH.ok id
  simp only [ObjOk, hp, ho] at hok
  obtain ⟨b', r, h1, h2, h0, h3, h4, h5, h6, h7, h8, h9⟩ := hok
  rw [hφ] at h1; simp at h1; subst h1
  have hlen := V.dens_length _ _ hd
  have hsz : vals.size = r.params.size := by
    have : r.params.toList.length = ps.length := by rw [h5]
    simp at hlen this; omega
  let tm : Array Value := (ps.zip vals.toList).foldl (fun tmps p => tmps.setIfInBounds p.1 p.2) r.tmps
  have hfold : (r.params.zip vals).foldl (fun tmps (p : Tmp × Value) => tmps.setIfInBounds p.1 p.2) r.tmps = tm := by
    rw [← Array.foldl_toList, Array.toList_zip, h5]
  obtain ⟨p1, p2⟩ := params_den (B := mutB M φ (hp o nx)) (H := hp o nx) (φ := φ) (w := w) ps args vals.toList (envJ env) r.tmps h6 hl.symm hd hps h9
  refine ⟨r.fn, tm, r.assign, r.body, ?_, fun k => ?_⟩
  · simp only [Instr.yield, Sem.run_bind, run_getLoop h2, Result.andThen_ok, hsz, ne_eq, not_true_eq_false, if_false, Sem.run_pure]
    rw [← hfold]
  · 
    let s0 : S := ⟨setP (envJ env) ps args, o, nx⟩
    let a0 : Act := { tmps := tm, defers := [] }
    have hs0 : SimC M φ (hp o nx) w n ⟨[], true⟩ φ s0 a0 w := ⟨hH, Trans.refl _ _ _, p1, ⟨[], rfl, List.nodup_nil, fun _ => rfl, fun r hr => by cases hr⟩, p2⟩
    have nodef : ∀ {φ' s' a' w'}, SimC M φ (hp o nx) w n ⟨[], true⟩ φ' s' a' w' → a'.defers = [] := by
      intro φ' s' a' w' hs
      obtain ⟨ms, g1, _, g3, _⟩ := hs.defers
      rw [g3 rfl] at g1; exact g1
    
    have recd : ∀ {φ' s' a' w'} {nf m : Nat} {en : List V} {p : List Nat} {c d : IC} {st : LoopState} {pd : Option Jmp} (st' : LoopState) (pd' : Option Jmp), SimC M φ (hp o nx) w n ⟨[], true⟩ φ' s' a' w' → s'.o id = .loop nf m en p c d st pd →
        ∃ r', w'.heap[b]? = some (.loop r') ∧ r'.state = st ∧ r'.pending = pd.map Jmp.code ∧
          SimC M φ (hp o nx) w n ⟨[], true⟩ φ' ⟨s'.env, upd s'.o id (.loop nf m en p c d st' pd'), s'.nx⟩ a' { w' with heap := w'.heap.setIfInBounds b (.loop { r' with state := st', pending := pd'.map Jmp.code }) } := by
      intro φ' s' a' w' nf m en p c d st pd st' pd' hs hso
      have hφ' : φ' id = .pointer (some ⟨b, 0, none⟩) := by
        have := (hs.tr.rel.row id hlt (by show (s'.o id).isRow = true; rw [hso]; rfl)).2
        rw [this]; exact hφ
      have hlt' : id < s'.nx := hs.tr.rel.us id hlt
      obtain ⟨r', r1, r2, r3, r4, r5⟩ := turn_loop (st' := st') (pd' := pd') hs.heap hlt' (show s'.H.o id = _ from hso) hφ'
      exact ⟨r', r1, r2, r3, sim_heap hs r4 r5 rfl (put_loop_us hlt')⟩
    have ha := icW_codeW (P := P) (n := n) (b := nx) (rd := true) hmix r.assign _ _ s0 (fun _ _ h => h) (by rw [h7]; exact h)
    refine roundIn_of_wpV h0 (wpV_mono (code_sound (P := P) (H0 := hp o nx) (b := nx) (cx := ⟨[], true⟩) (ro := some b) (fun id hu => hu) (fun h => by cases h) r.assign _ s0 φ a0 w ha hs0) ?_)
    rintro e a1 w1 ⟨x, s1, φ1, hq, hs1, hm⟩
    cases e <;> cases x <;> first | (exact hm.elim) | skip
    · 
      obtain ⟨nf, m, en, p, c, d, pd1, q1, q2⟩ := hq
      obtain ⟨r', r1, r2, r3, hs2⟩ := recd .busy pd1 hs1 q1
      have hbegin : (Instr.beginRound b).run P w1 = .ok () { w1 with heap := w1.heap.setIfInBounds b (.loop { r' with state := .busy, pending := pd1.map Jmp.code }) } := by
        have e1 : ({ r' with state := .busy } : Loop) = { r' with state := .busy, pending := pd1.map Jmp.code } := by rw [← r3]
        simp only [Instr.beginRound, Sem.run_bind, run_getLoop r1, Result.andThen_ok, run_setObj_loop _ r1, r2, Sem.run_pure, e1]
      refine ⟨_, hbegin, ?_⟩
      
      have hrec := hs2.heap.ok id
      simp only [ObjOk, S.H, upd_apply, if_true] at hrec
      obtain ⟨b2, r2', _, _, _, _, _, _, _, _, _, _⟩ := hrec
      have hb := icW_codeW (P := P) (n := n) (b := nx) (rd := true) hmix r.body _ _ _ (fun _ _ h => h) (by rw [h8]; exact q2)
      refine wpV_mono (code_sound (P := P) (H0 := hp o nx) (b := nx) (cx := ⟨[], true⟩) (ro := some b) (fun id hu => hu) (fun h => by cases h) r.body _ _ φ1 a1 _ hb hs2) ?_
      rintro e a2 w2 ⟨x, s2, φ2, hq2, hs3, hm2⟩
      have fin : ∀ {nf m : Nat} {en : List V} {p : List Nat} {c d : IC} {st : LoopState} {pd : Option Jmp} (jump : Option Jmp) (t : Bool) (st' : LoopState), t = jump.isNone → st' = (if jump.isNone then .ready else .done) → s2.o id = .loop nf m en p c d st pd → K (.d (.bool t)) (upd s2.o id (.loop nf m en p c d st' jump)) s2.nx →
          ∃ v w', (Instr.endRound b (jump.map Jmp.code)).run P w2 = .ok v w' ∧ EndK M φ (hp o nx) w K X (.returned v) w' := by
        intro nf m en p c d st pd jump t st' ht hst ho2 hK
        obtain ⟨r3', g1, g2, g3, hs4⟩ := recd st' jump hs3 ho2
        refine ⟨.bool t, _, ?_, φ2, _, _, _, hs4.heap, hs4.tr, by simp only [V.den, D.den], hK⟩
        subst ht; subst hst
        simp only [Instr.endRound, Sem.run_bind, run_getLoop g1, Result.andThen_ok, run_setObj_loop _ g1, Sem.run_pure, Option.isNone_map]
      cases e <;> cases x <;> first | (exact hm2.elim) | skip
      · obtain ⟨nf, m, en, p, c, d, st, pd, k1, k2⟩ := hq2
        exact fin none true .ready rfl rfl k1 k2
      · rename_i j
        subst hm2
        obtain ⟨nf, m, en, p, c, d, st, pd, k1, k2⟩ := hq2
        exact fin (some (.exit _)) false .done rfl rfl k1 k2
      · obtain ⟨nf, m, en, p, c, d, st, pd, k1, k2⟩ := hq2
        exact fin (some .ret) false .done rfl rfl k1 k2
      · obtain ⟨val, rfl, k2⟩ := hm2
        exact ⟨nodef hs3, φ2, _, _, _, hs3.heap, hs3.tr, val, rfl, k2, hq2⟩
    · exact hq.elim
    · exact hq.elim
    · obtain ⟨val, rfl, k2⟩ := hm
      exact ⟨nodef hs1, φ1, _, _, _, hs1.heap, hs1.tr, val, rfl, k2, hq⟩
end
end Go.Proofs.YtealblliddhgiaaGreat
namespace Go.Proofs.YtealblliddhgiaaGreat
def RecOps (ops : Array Oper) (t t1 : Nat) : Prop :=
  (∃ o1 o2, ops = #[o1, o2] ∧ o1.op = .call ⟨.builtin .recover, #[], #[]⟩ ∧ o1.dst = some t ∧ o1.guard = none ∧ o2.op = .assign (.tmp t) ∧ o2.dst = some t1 ∧ o2.guard = none) ∨
  (∃ o1, ops = #[o1] ∧ t1 = t ∧ o1.op = .call ⟨.builtin .recover, #[], #[]⟩ ∧ o1.dst = some t ∧ o1.guard = none)
structure RecIs (P : Program) (g : FuncId) (n t t1 : Nat) (ic : IC) : Prop where
  get : ∃ fn id ops c, P.funcs[g]? = some fn ∧ (fn.name == "runtime.NumGoroutine") = false ∧ fn.ntmps = n ∧ fn.results = #[] ∧ fn.body = some (.seq (.region id ops false) c) ∧
    RecOps ops t t1 ∧ t < n ∧ t1 < n ∧ low n c = ic
structure DefIs (P : Program) (f : FuncId) (n : Nat) (ica icb : IC) (g : FuncId) (t : Nat) (caps : List Operand) (rs : List ResultVar) : Prop where
  get : ∃ fn id o1 o2 a b, P.funcs[f]? = some fn ∧ (fn.name == "runtime.NumGoroutine") = false ∧ fn.ntmps = n ∧ fn.results.toList = rs ∧ fn.body = some (.seq a (.seq (.region id #[o1, o2] false) b)) ∧
    o1.op = .makeFunc (.func g) #[] caps.toArray ∧ o1.dst = some t ∧ o1.guard = none ∧ o2.op = .defer ⟨.value (.tmp t), #[], #[]⟩ ∧ o2.dst = none ∧ o2.guard = none ∧ t < n ∧ low n a = ica ∧ low n b = icb
def recQ (K : (Nat → Obj') → Nat → Prop) (e : Xit) (s : S) : Prop := match e with | .normal | .ret => K s.o s.nx | _ => False
def recW (P : Program) (n t t1 : Nat) (ic : IC) (caps : List V) (u : V) (o : Nat → Obj') (nx : Nat) (K : (Nat → Obj') → Nat → Prop) : Prop :=
  caps.length ≤ n ∧ icW P n nx true ic (recQ K) ⟨upd (upd (argsEnv caps) t u) t1 u, o, nx⟩
def defEnd (P : Program) (n t t1 : Nat) (ic : IC) (caps : List V) (rs : List ResultVar) (K X : V → (Nat → Obj') → Nat → Prop) (e : Xit) (s : S) : Prop :=
  match e with
  | .normal | .ret => recW P n t t1 ic caps (.d .nili) s.o s.nx fun o nx => endK P rs K X .ret ⟨s.env, o, nx⟩
  | .pan v => recW P n t t1 ic caps v s.o s.nx fun o nx => endK P rs K X .ret ⟨s.env, o, nx⟩
  | .exit _ => False
def defBegin (P : Program) (n t : Nat) (icb : IC) (capo : List Operand) (g : FuncId) (D : List V → Xit → S → Prop) (e : Xit) (s : S) : Prop :=
  match e with
  | .normal => icW P n s.nx false icb (D (capo.map s.ev)) ⟨upd s.env t (.func (.func g) [] (capo.map s.ev)), s.o, s.nx⟩
  | _ => False
section
variable {P : Program} {M : Nat → Prop} {φ φ0 : Place} {H H0 : Hp} {w w0 : World} {n : Nat} {s : S} {a : Act} {cx : Cx} {k : Nat}
theorem rec_calls (hmix : P.follows .mixedOrders = true) {g : FuncId} {t t1 : Nat} {ic : IC} (hg : RecIs P g n t t1 ic) {caps : List V} {u : V} {o : Nat → Obj'} {nx : Nat} {K : (Nat → Obj') → Nat → Prop} (h : recW P n t t1 ic caps u o nx K)
    {vals : Array Value} {val : Value} {m : FrameMode} (hH : HeapOk M φ (hp o nx) w) (hd : V.dens (mutB M φ (hp o nx)) φ (hp o nx) w caps vals.toList) (hv : V.den (mutB M φ (hp o nx)) φ (hp o nx) w u val)
    (hm : (m = .returning ∧ val = .nilIface) ∨ m = .panicking [{ v := val, recovered := false }]) :
    CallsDIn (FWr none) k P g vals m w fun e u' w' => ∃ v φ' o' nx', e = .returned v ∧ settle u' = .returning ∧ HeapOk M φ' (hp o' nx') w' ∧ Trans φ (hp o nx) w φ' (hp o' nx') w' ∧ K o' nx' := by
  obtain ⟨fn, id, ops, c, hf, hname, hnt, hres, hbody, hops, ht, ht1, hlow⟩ := hg.get
  have hlt : g < P.funcs.size := (Array.getElem?_eq_some_iff.1 hf).1
  obtain ⟨hcl, h⟩ := h
  have hlen := V.dens_length _ _ hd
  refine ⟨trivial, fun c₀ cs hmode hroom => ?_⟩
  let b : Frame := { (default : Frame) with fn := g, kind := .deferred, roundOf := none }
  let tm0 : Array Value := vals ++ Array.replicate (fn.ntmps - vals.size) undef
  have hsz0 : tm0.size = n := by simp only [tm0, Array.size_append, Array.size_replicate]; simp at hlen; omega
  have henter : Frame.enter P g vals .deferred = b.atR { tmps := tm0, defers := [] } [.code (.seq (.region id ops false) c)] := by
    simp [Frame.enter, Frame.atR, hf, hbody, b, tm0]
  
  obtain ⟨m', hm', hrec⟩ : ∃ m', settle m' = .returning ∧ ((recoverD (c₀ :: cs) = none ∧ m' = m ∧ val = .nilIface) ∨ recoverD (c₀ :: cs) = some (val, { c₀ with mode := m' } :: cs)) := by
    rcases hm with ⟨rfl, rfl⟩ | rfl
    · exact ⟨.returning, rfl, .inl ⟨by simp [recoverD, hmode], rfl, rfl⟩⟩
    · exact ⟨.panicking [{ v := val, recovered := true }], rfl, .inr (by simp [recoverD, hmode])⟩
  have hc0 : ({ c₀ with mode := m } : Frame) = c₀ := by subst hmode; rfl
  let a1 : Act := { tmps := (tm0.setIfInBounds t val).setIfInBounds t1 val, defers := [] }
  have hreg : (Code.region id ops false).wpSIn (FWr none) k P (fun e a' cs' w' => e = .normal ∧ a' = a1 ∧ cs' = { c₀ with mode := m' } :: cs ∧ w' = w) { tmps := tm0, defers := [] } (c₀ :: cs) w := by
    rcases hops with ⟨o1, o2, rfl, e1, e2, e3, e4, e5, e6⟩ | ⟨o1, rfl, rfl, e1, e2, e3⟩
    · refine wpSIn_region ?_
      have hr : List.range (#[o1, o2] : Array Oper).size = [0, 1] := rfl
      have g0 : (#[o1, o2] : Array Oper)[0]? = some o1 := rfl
      have g1 : (#[o1, o2] : Array Oper)[1]? = some o2 := rfl
      rw [hr]
      have x1 : ∀ (ρ : Operand → Value) (w : World), (execOp ρ o1).run P w = .ok .recover w := by
        intro ρ w
        simp [execOp, e1, resolve, invoke, builtin]
      have x2 : ∀ (ρ : Operand → Value) (w : World), (execOp ρ o2).run P w = .ok (.value (ρ (.tmp t))) w := by
        intro ρ w
        simp [execOp, e4]
      have last : ∀ cs', cs' = { c₀ with mode := m' } :: cs → wpOpsSIn (FWr none) k P #[o1, o2] (fun e a' cs' w' => e = .normal ∧ a' = a1 ∧ cs' = { c₀ with mode := m' } :: cs ∧ w' = w) [1] (({ tmps := tm0, defers := [] } : Act).put (some t) val) cs' w := by
        rintro cs' rfl
        have hw : Region.wanted o2 (yielded #[o1, o2] (({ tmps := tm0, defers := [] } : Act).put (some t) val).tmps) = true := by simp [Region.wanted, e6]
        have hev : (({ tmps := tm0, defers := [] } : Act).put (some t) val).eval (.tmp t) = val := by
          have : t < tm0.size := by omega
          simp [Act.put, Act.eval, Array.getD, this]
        simp only [wpOpsSIn, g1, hw, if_true, x2, hev, e5]
        refine ⟨fun _ _ => trivial, ?_⟩
        simp [a1, Act.put]
      have hw : Region.wanted o1 (yielded #[o1, o2] tm0) = true := by simp [Region.wanted, e3]
      rw [wpOpsSIn, g0]
      refine ⟨fun _ _ => trivial, ?_⟩
      simp only [hw, if_true, x1, e2]
      rcases hrec with ⟨hr, rfl, rfl⟩ | hr
      · simp only [hr]
        exact last _ (by rw [hc0])
      · simp only [hr]
        exact last _ rfl
    · refine wpSIn_region ?_
      have hr : List.range (#[o1] : Array Oper).size = [0] := rfl
      have g0 : (#[o1] : Array Oper)[0]? = some o1 := rfl
      rw [hr]
      have x1 : ∀ (ρ : Operand → Value) (w : World), (execOp ρ o1).run P w = .ok .recover w := by
        intro ρ w
        simp [execOp, e1, resolve, invoke, builtin]
      have same : a1 = ({ tmps := tm0, defers := [] } : Act).put (some t1) val := by
        simp only [a1, Act.put]
        congr 1
        apply Array.ext_getElem?
        intro j
        simp only [Array.getElem?_setIfInBounds]
        by_cases hj : t1 = j
        · subst hj; simp
        · simp [hj]
      have last : ∀ cs', cs' = { c₀ with mode := m' } :: cs → wpOpsSIn (FWr none) k P #[o1] (fun e a' cs' w' => e = .normal ∧ a' = a1 ∧ cs' = { c₀ with mode := m' } :: cs ∧ w' = w) [] (({ tmps := tm0, defers := [] } : Act).put (some t1) val) cs' w := by
        rintro cs' rfl
        simp only [wpOpsSIn]
        exact ⟨trivial, same.symm, trivial, trivial⟩
      have hw : Region.wanted o1 (yielded #[o1] tm0) = true := by simp [Region.wanted, e3]
      rw [wpOpsSIn, g0]
      refine ⟨fun _ _ => trivial, ?_⟩
      simp only [hw, if_true, x1, e2]
      rcases hrec with ⟨hr, rfl, rfl⟩ | hr
      · simp only [hr]
        exact last _ (by rw [hc0])
      · simp only [hr]
        exact last _ rfl
  obtain ⟨er, ar, csr, wr, hl, ⟨rfl, rfl, rfl, hwr⟩, harr⟩ := hreg b [.code c] rfl rfl trivial (fun d hd => by simp [FWr] at hd)
  rw [hwr] at harr
  
  let s0 : S := ⟨upd (upd (argsEnv caps) t u) t1 u, o, nx⟩
  have hs0 : SimC M φ (hp o nx) w n ⟨[], true⟩ φ s0 a1 w := by
    refine ⟨hH, Trans.refl _ _ _, by simp [a1, hsz0], ⟨[], rfl, List.nodup_nil, fun _ => rfl, fun r hr => by cases hr⟩, fun i => ?_⟩
    have henv := env_args (m := fn.ntmps - vals.size) hd i
    simp only [s0, a1, upd_apply]
    have ht0 : t < tm0.size := by omega
    have ht10 : t1 < tm0.size := by omega
    by_cases h1 : i = t1
    · subst h1
      simp only [if_true]
      have : ((tm0.setIfInBounds t val).setIfInBounds i val).getD i undef = val := by simp [Array.getD, ht10]
      rw [this]; exact hv
    · simp only [h1, if_false]
      have e1 : ((tm0.setIfInBounds t val).setIfInBounds t1 val).getD i undef = (tm0.setIfInBounds t val).getD i undef := by
        simp only [Array.getD_eq_getD_getElem?]
        rw [Array.getElem?_setIfInBounds_ne (Ne.symm h1)]
      rw [e1]
      by_cases h2 : i = t
      · subst h2
        simp only [if_true]
        have : (tm0.setIfInBounds i val).getD i undef = val := by simp [Array.getD, ht0]
        rw [this]; exact hv
      · simp only [h2, if_false]
        have e1 : (tm0.setIfInBounds t val).getD i undef = tm0.getD i undef := by
          simp only [Array.getD_eq_getD_getElem?]
          rw [Array.getElem?_setIfInBounds_ne (Ne.symm h2)]
        rw [e1]; exact henv
  have hcw := icW_codeW (P := P) (n := n) (b := nx) (rd := true) hmix c _ _ s0 (fun _ _ h => h) (by rw [hlow]; exact h)
  obtain ⟨e, a', w', ⟨x, s', φ', hq, hs', hx⟩, harr2⟩ := code_sound (P := P) (H0 := hp o nx) (b := nx) (cx := ⟨[], true⟩) (ro := none) (fun id hu => hu) (fun h => by cases h) c _ s0 φ a1 w hcw hs0 b [] ({ c₀ with mode := m' } :: cs) rfl hlt
  have i0 : (lone (b.atR { tmps := tm0, defers := [] } [.code (.seq (.region id ops false) c)]) (c₀ :: cs) w).fenced P (FWr none) := fenced_calm (n := 0) trivial fw_room rfl
  have harr0 : StepsIn (Machine.fenced P (FWr none)) P (lone (b.atR { tmps := tm0, defers := [] } [.code (.seq (.region id ops false) c)]) (c₀ :: cs) w) (lone (b.atR a1 [.code c]) ({ c₀ with mode := m' } :: cs) w) := .head i0 stepR_seq harr
  have nodef : a'.defers = [] := by
    obtain ⟨ms, g1, _, g3, _⟩ := hs'.defers
    rw [g3 rfl] at g1; exact g1
  have hresr : ∀ tm : Array Value, ∃ v, (results fn tm).run P w' = .ok v w' := by
    intro tm
    refine ⟨_, run_results (vals := []) ?_⟩
    rw [hres]; rfl
  rw [henter]
  obtain ⟨v, hv'⟩ := hresr a'.tmps
  cases e <;> cases x <;> first | (exact hx.elim) | (exact hq.elim) | skip
  · exact ⟨.returned v, m', w', _, ⟨v, φ', s'.o, s'.nx, rfl, hm', hs'.heap, hs'.tr, hq⟩, StepsIn.trans harr0 (StepsIn.trans harr2 (.one (fenced_calm (n := 0) (fr := b.atR a' []) trivial fw_room rfl) (stepR_end rfl))), rfl, rfl, rfl, nodef, fn, hf, hv'⟩
  · obtain ⟨todo, hs⟩ := harr2.1 rfl
    exact ⟨.returned v, m', w', _, ⟨v, φ', s'.o, s'.nx, rfl, hm', hs'.heap, hs'.tr, hq⟩, StepsIn.trans harr0 hs, rfl, rfl, rfl, nodef, fn, hf, hv'⟩
theorem CtK.of_defer (hmix : P.follows .mixedOrders = true) {f g : FuncId} {ica icb icg : IC} {t m r r1 : Nat} {capo : List Operand} {rs : List ResultVar} (hf : DefIs P f n ica icb g t capo rs) (hg : RecIs P g m r r1 icg)
    {args : List V} {o : Nat → Obj'} {nx : Nat} {K X : V → (Nat → Obj') → Nat → Prop} (hl : args.length ≤ n)
    (h : icW P n nx true ica (defBegin P n t icb capo g fun caps => defEnd P m r r1 icg caps rs K X) ⟨argsEnv args, o, nx⟩) : CtK P f args o nx K X := by
  obtain ⟨fn, id, o1, o2, ca, cb, hfn, hname, hnt, hres, hbody, e1, e2, e3, e4, e5, e6, ht, hla, hlb⟩ := hf.get
  obtain ⟨gn, _, _, gc, hgn, hgname, _, _, hgbody, _⟩ := hg.get
  refine ⟨⟨fn, hfn, hname, by rw [hbody]; rfl⟩, fun M φ w vals hH hd => ?_⟩
  have hlen := V.dens_length _ _ hd
  let s0 : S := ⟨argsEnv args, o, nx⟩
  let a0 : Act := { tmps := vals ++ Array.replicate (fn.ntmps - vals.size) undef, defers := [] }
  have hs0 : SimC M φ (hp o nx) w n ⟨[], true⟩ φ s0 a0 w := by
    refine ⟨hH, Trans.refl _ _ _, ?_, ⟨[], rfl, List.nodup_nil, fun _ => rfl, fun r hr => by cases hr⟩, env_args hd⟩
    simp only [a0, Array.size_append, Array.size_replicate]; simp at hlen; omega
  have ha := icW_codeW (P := P) (n := n) (b := nx) (rd := true) hmix ca _ _ s0 (fun _ _ h => h) (by rw [hla]; exact h)
  refine calls_fw (ro := none) (k := 0) (callsIn_of_wpV hfn hbody (wpV_seq (wpV_mono (code_sound (P := P) (H0 := hp o nx) (b := nx) (cx := ⟨[], true⟩) (ro := none) (fun id hu => hu) (fun h => by cases h) ca _ s0 φ a0 w ha hs0) ?_)))
  rintro e a1 w1 ⟨x, s1, φ1, hq, hs1, hm⟩
  cases e <;> cases x <;> first | (exact hm.elim) | (exact hq.elim) | skip
  have nodef : a1.defers = [] := by
    obtain ⟨ms, g1, _, g3, _⟩ := hs1.defers
    rw [g3 rfl] at g1; exact g1
  
  let cv : Array Value := (capo.map a1.eval).toArray
  let fv : Value := .func (.func g) #[] cv
  let dd : Deferred := { target := .fn (.func g) cv, args := #[] }
  let a2 : Act := { tmps := a1.tmps.setIfInBounds t fv, defers := [dd] }
  have hcaps : V.dens (mutB M φ1 s1.H) φ1 s1.H w1 (capo.map s1.ev) cv.toList := by
    simpa [cv] using evs_den (M := M) (φ := φ1) (H := s1.H) (w := w1) s1 a1 hs1.env capo
  refine wpV_seq (wpV_mono (Q := fun e a w => e = .normal ∧ a = a2 ∧ w = w1) (wpV_in (k := 0) (wpIn_region_list ?_)) ?_)
  · have y1 : Region.wanted o1 (yielded #[o1, o2] a1.tmps) = true := by simp [Region.wanted, e3]
    have y2 : ∀ tm, Region.wanted o2 (yielded #[o1, o2] tm) = true := by intro tm; simp [Region.wanted, e6]
    have hev : (a1.put (some t) fv).eval (.tmp t) = fv := by
      have : t < a1.tmps.size := by rw [hs1.size]; exact ht
      simp [Act.put, Act.eval, Array.getD, this]
    show wpListIn (FWr none) 0 P #[o1, o2] _ [o1, o2] a1 w1
    unfold wpListIn
    rw [if_pos y1]
    have x1 : (execOp a1.eval o1).run P w1 = .ok (.value fv) w1 := by simp [execOp, e1, fv, cv, Instr.makeFunc]
    refine wpIn_fw (fun c hc => by rw [e1] at hc; cases hc) ?_
    rw [x1]
    show wpListIn (FWr none) 0 P #[o1, o2] _ [o2] (a1.put o1.dst fv) w1
    rw [e2]
    unfold wpListIn
    rw [if_pos (y2 _)]
    have x2 : (execOp (a1.put (some t) fv).eval o2).run P w1 = .ok (.defer dd) w1 := by
      simp [execOp, e4, resolve, hev, Deferred.ofValue, fv, dd]
    refine ⟨fun _ _ => trivial, ?_⟩
    have : (o2.semAt (FWr none).round (a1.put (some t) fv).eval) = execOp (a1.put (some t) fv).eval o2 := rfl
    rw [this, x2]
    unfold Oper.uponIn
    simp only [e5, wpListIn, Act.put, nodef, a2, and_self]
  rintro e a w2 ⟨rfl, rfl, rfl⟩
  
  have ht1 : t < a1.tmps.size := by rw [hs1.size]; exact ht
  let s2 : S := ⟨upd s1.env t (.func (.func g) [] (capo.map s1.ev)), s1.o, s1.nx⟩
  have hs2 : SimC M φ1 s1.H w2 n ⟨[dd], false⟩ φ1 s2 a2 w2 := by
    refine ⟨hs1.heap, Trans.refl _ _ _, by simp [a2, hs1.size], ⟨[], rfl, List.nodup_nil, fun _ => rfl, fun r hr => by cases hr⟩, fun i => ?_⟩
    simp only [s2, a2, upd_apply]
    by_cases h1 : i = t
    · subst h1
      have : (a1.tmps.setIfInBounds i fv).getD i undef = fv := by simp [Array.getD, ht1]
      simp only [if_true]; rw [this]
      exact ⟨#[], cv, rfl, rfl, hcaps⟩
    · have : (a1.tmps.setIfInBounds t fv).getD i undef = a1.tmps.getD i undef := by
        simp only [Array.getD_eq_getD_getElem?]
        rw [Array.getElem?_setIfInBounds_ne (Ne.symm h1)]
      simp only [h1, if_false]; rw [this]
      exact hs1.env i
  have hb := icW_codeW (P := P) (n := n) (b := s1.nx) (rd := false) hmix cb _ _ s2 (fun _ _ h => h) (by rw [hlb]; exact hq)
  refine wpV_mono (code_sound (P := P) (H0 := s1.H) (b := s1.nx) (cx := ⟨[dd], false⟩) (ro := none) (fun id hu => hu) (fun _ => rfl) cb _ s2 φ1 a2 w2 hb hs2) ?_
  rintro e a3 w3 ⟨x, s3, φ3, hq3, hs3, hm3⟩
  obtain ⟨ms, g1, g2, _, g4⟩ := hs3.defers
  have hinv : (invoke dd.target dd.args).run P = fun w => .ok (.enter g cv) w := by
    funext w
    have := run_enter (w := w) ⟨gn, hgn, hgname, by rw [hgbody]; rfl⟩ cv
    simpa [dd, invoke] using this
  
  have last : ∀ {w4 : World} {tm : Array Value} {u : V} {val : Value} {m0 : FrameMode}, m0 ≠ .run → SimB M φ1 s1.H w2 φ3 s3 a3.tmps w4 → V.den (mutB M φ3 s3.H) φ3 s3.H w4 u val →
      ((m0 = .returning ∧ val = .nilIface) ∨ m0 = .panicking [{ v := val, recovered := false }]) →
      (recW P m r r1 icg (capo.map s1.ev) u s3.o s3.nx fun o nx => endK P rs K X .ret ⟨s3.env, o, nx⟩) →
      LeavesInM (FWr none) 0 P fn a3.tmps (EndK M φ (hp o nx) w K X) [dd] m0 w4 := by
    intro w4 tm u val m0 hrun hB hdv hm0 hrec
    have hcaps4 := V.dens_mono hB.tr _ _ hcaps
    refine ⟨hrun, .inr ⟨fun h => by simp [FWr] at h, .func g, cv, g, cv, rfl, by rw [hinv], fun _ _ => trivial, CallsDIn.mono (rec_calls (k := 0 - 1) hmix hg hrec (m := m0) hB.heap hcaps4 hdv hm0) ?_⟩⟩
    rintro e u' w5 ⟨v, φ5, o5, nx5, rfl, hset, k1, k2, k3⟩
    show LeavesInM (FWr none) 0 P fn a3.tmps (EndK M φ (hp o nx) w K X) [] (settle u') w5
    rw [hset]
    obtain ⟨vs, h1, h2⟩ := endK_ret k3
    rw [← hres] at h1
    have henv5 : ∀ i, V.den (mutB M φ5 (hp o5 nx5)) φ5 (hp o5 nx5) w5 (s3.env i) (a3.tmps.getD i undef) := fun i => V.den_mono k2 _ _ (hB.env i)
    obtain ⟨vals5, h3, h4⟩ := res_run (P := P) (s := ⟨s3.env, o5, nx5⟩) (a := a3) k1 henv5 _ _ h1
    exact ⟨_, run_results h3, φ5, o5, nx5, _, k1, hs1.tr.trans (hB.tr.trans k2), tupV_den h4, h2⟩
  have done : recW P m r r1 icg (capo.map s1.ev) (.d .nili) s3.o s3.nx (fun o nx => endK P rs K X .ret ⟨s3.env, o, nx⟩) → LeavesInM (FWr none) 0 P fn a3.tmps (EndK M φ (hp o nx) w K X) a3.defers .returning w3 := by
    intro hrec
    rw [g1]
    exact leaves_marks (P := P) (k := 0) (fn := fn) (R := EndK M φ (hp o nx) w K X) (u := .returning) (by simp) (ds := [dd]) (fun w4 hB => last (tm := a3.tmps) (by simp) hB (u := .d .nili) (val := .nilIface) (by simp [V.den, D.den]) (.inl ⟨rfl, rfl⟩) hrec) ms w3 g2 g4 hs3.toB
  cases e <;> cases x <;> first | (exact hm3.elim) | skip
  · exact done hq3
  · exact hq3.elim
  · exact done hq3
  · rename_i v
    obtain ⟨val, rfl, hd'⟩ := hm3
    show LeavesInM (FWr none) 0 P fn a3.tmps (EndK M φ (hp o nx) w K X) a3.defers _ w3
    rw [g1]
    
    let env1 : Nat → V := fun i => match i with | 0 => v | i + 1 => s3.env i
    have get0 : (#[val] ++ a3.tmps).getD 0 undef = val := by simp [Array.getD]
    have gets : ∀ i, (#[val] ++ a3.tmps).getD (i + 1) undef = a3.tmps.getD i undef := by
      intro i
      simp only [Array.getD_eq_getD_getElem?]
      rw [Array.getElem?_append_right (by simp)]
      simp
    have hb0 : SimB M φ1 s1.H w2 φ3 ⟨env1, s3.o, s3.nx⟩ (#[val] ++ a3.tmps) w3 := ⟨hs3.heap, hs3.tr, fun i => by
      cases i with
      | zero => rw [get0]; exact hd'
      | succ i => rw [gets]; exact hs3.env i⟩
    have hlast : ∀ w4, SimB M φ1 s1.H w2 φ3 ⟨env1, s3.o, s3.nx⟩ (#[val] ++ a3.tmps) w4 → LeavesInM (FWr none) 0 P fn a3.tmps (EndK M φ (hp o nx) w K X) [dd] (.panicking [{ v := val, recovered := false }]) w4 := by
      intro w4 hB
      have hv4 := hB.env 0
      rw [get0] at hv4
      refine last (tm := a3.tmps) (by simp) ⟨hB.heap, hB.tr, fun i => ?_⟩ hv4 (.inr rfl) hq3
      have hs := hB.env (i + 1)
      rw [gets] at hs
      exact hs
    exact leaves_marks (P := P) (k := 0) (fn := fn) (R := EndK M φ (hp o nx) w K X) (u := .panicking [{ v := val, recovered := false }]) (by simp) (ds := [dd]) hlast ms w3 g2 g4 hb0
end
end Go.Proofs.YtealblliddhgiaaGreat
