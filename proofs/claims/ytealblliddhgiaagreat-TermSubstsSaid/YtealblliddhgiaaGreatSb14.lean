/-
  A PART OF THE PROOF. Conditions: none.
-/
import Derived.Test.YtealblliddhgiaaGreatSb13
set_option linter.unusedSimpArgs false
set_option linter.unusedVariables false
namespace Go.Proofs.YtealblliddhgiaaGreat
mutual
def V.same : V -> V -> Bool
 | .d x, .d y => x.same y
 | .nils, .nils => true
 | .junk, .junk => true
 | .agg a, .agg b => V.sames a b
 | .ptr i o, .ptr j p => Nat.beq i j && Nat.beq o p
 | .osl i o, .osl j p => Nat.beq i j && Nat.beq o p
 | .csl a, .csl b => D.sames a b
 | .iface t x, .iface u y => Nat.beq t u && x.same y
 | .mp i, .mp j => Nat.beq i j
 | _, _ => false
def V.sames : List V -> List V -> Bool
 | [], [] => true
 | a :: asz, b :: bs => a.same b && V.sames asz bs
 | _, _ => false
end
mutual
theorem V.same_eq : ∀ (x y : V), x.same y = true -> x = y
 | .d x, y, h => by cases y <;> simp only [V.same, Bool.false_eq_true] at h; rw [D.same_eq _ _ h]
 | .nils, y, h => by cases y <;> simp_all [V.same]
 | .junk, y, h => by cases y <;> simp_all [V.same]
 | .agg a, y, h => by cases y <;> simp only [V.same, Bool.false_eq_true] at h; rw [V.sames_eq _ _ h]
 | .ptr i o, y, h => by
   cases y <;> simp only [V.same, Bool.false_eq_true, Bool.and_eq_true] at h
   rw [Nat.eq_of_beq_eq_true h.1, Nat.eq_of_beq_eq_true h.2]
 | .osl i o, y, h => by
   cases y <;> simp only [V.same, Bool.false_eq_true, Bool.and_eq_true] at h
   rw [Nat.eq_of_beq_eq_true h.1, Nat.eq_of_beq_eq_true h.2]
 | .csl a, y, h => by cases y <;> simp only [V.same, Bool.false_eq_true] at h; rw [D.sames_eq _ _ h]
 | .iface t x, y, h => by
   cases y <;> simp only [V.same, Bool.false_eq_true, Bool.and_eq_true] at h
   rw [Nat.eq_of_beq_eq_true h.1, V.same_eq _ _ h.2]
 | .mp i, y, h => by
   cases y <;> simp only [V.same, Bool.false_eq_true] at h
   rw [Nat.eq_of_beq_eq_true h]
 | .tup _, y, h | .pe _ _ _ _ _, y, h | .pp _ _, y, h | .func _ _ _, y, h | .rsl _ _ _, y, h | .anyb, y, h | .yld _, y, h => by simp [V.same] at h
theorem V.sames_eq : ∀ (x y : List V), V.sames x y = true -> x = y
 | [], y, h => by cases y <;> simp_all [V.sames]
 | a :: asz, y, h => by
   cases y <;> simp only [V.sames, Bool.false_eq_true, Bool.and_eq_true] at h
   rw [V.same_eq _ _ h.1, V.sames_eq _ _ h.2]
end
def psame : List (D × D) -> List (D × D) -> Bool
 | [], [] => true
 | (a, b) :: l, (c, d) :: m => a.same c && (b.same d && psame l m)
 | _, _ => false
theorem psame_eq : ∀ (l m : List (D × D)), psame l m = true -> l = m
 | [], m, h => by cases m <;> simp_all [psame]
 | (a, b) :: l, m, h => by
   cases m with
   | nil => simp [psame] at h
   | cons p m =>
     obtain ⟨c, d⟩ := p
     simp only [psame, Bool.and_eq_true] at h
     rw [D.same_eq _ _ h.1, D.same_eq _ _ h.2.1, psame_eq l m h.2.2]
noncomputable def Obj'.same : Obj' -> Obj' -> Bool
 | .no, .no => true
 | .row a, .row b => V.sames a b
 | .arr e t s a, .arr f u r b => Nat.beq e f && Nat.beq t u && Nat.beq s r && D.sames a b
 | .fro e a, .fro f b => Nat.beq e f && D.sames a b
 | .map k v a, .map k' v' b => Nat.beq k k' && Nat.beq v v' && psame a b
 | .mfro a, .mfro b => psame a b
 | .sit a i, .sit b j => a == b && Nat.beq i j
 | _, _ => false
theorem Obj'.same_eq {x y : Obj'} (h : x.same y = true) : x = y := by
 cases x <;> cases y <;> simp only [Obj'.same, Bool.false_eq_true, Bool.and_eq_true] at h
 ·rfl
 ·rw [V.sames_eq _ _ h]
 ·rw [Nat.eq_of_beq_eq_true h.1.1.1, Nat.eq_of_beq_eq_true h.1.1.2, Nat.eq_of_beq_eq_true h.1.2, D.sames_eq _ _ h.2]
 ·rw [Nat.eq_of_beq_eq_true h.1, D.sames_eq _ _ h.2]
 ·rw [Nat.eq_of_beq_eq_true h.1.1, Nat.eq_of_beq_eq_true h.1.2, psame_eq _ _ h.2]
 ·rw [psame_eq _ _ h]
 ·rw [eq_of_beq h.1, Nat.eq_of_beq_eq_true h.2]
noncomputable def reach (o : Nat -> Obj') : Nat -> List Nat -> List Nat -> List Nat
 | 0, _, seen => seen
 | _ + 1, [], seen => seen
 | n + 1, id :: todo, seen => match seen.contains id with
   | true => reach o n todo seen
   | false => reach o n ((o id).refs ++ todo) (id :: seen)
noncomputable def deltaOf (o o1 : Nat -> Obj') : List Nat -> List (Nat × Obj')
 | [] => []
 | id :: l => match (o id).same (o1 id) with
   | true => deltaOf o o1 l
   | false => (id, o1 id) :: deltaOf o o1 l
theorem deltaOf_mem {o o1 : Nat -> Obj'} : ∀ (l : List Nat) (x : Nat × Obj'), x ∈ deltaOf o o1 l -> x.1 ∈ l /\ x.2 = o1 x.1
 | [], x, h => by simp [deltaOf] at h
 | id :: l, x, h => by
   simp only [deltaOf] at h
   split at h
   ·obtain ⟨h1, h2⟩ := deltaOf_mem l x h; exact ⟨List.mem_cons_of_mem _ h1, h2⟩
   ·rcases List.mem_cons.1 h with rfl | h
    ·exact ⟨by simp, rfl⟩
    ·obtain ⟨h1, h2⟩ := deltaOf_mem l x h; exact ⟨List.mem_cons_of_mem _ h1, h2⟩
theorem deltaOf_not {o o1 : Nat -> Obj'} : ∀ (l : List Nat) (id : Nat), id ∈ l -> id ∉ (deltaOf o o1 l).map (·.1) -> o1 id = o id
 | [], id, h, _ => by simp at h
 | j :: l, id, h, hn => by
   simp only [deltaOf] at hn
   split at hn
   ·rename_i hs
    rcases List.mem_cons.1 h with rfl | h
    ·exact (Obj'.same_eq hs).symm
    ·exact deltaOf_not l id h hn
   ·simp only [List.map_cons, List.mem_cons, not_or] at hn
    rcases List.mem_cons.1 h with rfl | h
    ·exact absurd rfl hn.1
    ·exact deltaOf_not l id h hn.2
theorem put_vals {o1 : Nat -> Obj'} : ∀ (Δ : List (Nat × Obj')) (o : Nat -> Obj'), (∀ x ∈ Δ, x.2 = o1 x.1) -> ∀ id, id ∈ Δ.map (·.1) \/ o id = o1 id -> put o Δ id = o1 id
 | [], o, _, id, h => by rcases h with h | h; · simp at h
                         ·exact h
 | x :: Δ, o, hv, id, h => by
   simp only [put, List.foldl_cons]
   refine put_vals Δ (upd o x.1 x.2) (fun y hy => hv y (List.mem_cons_of_mem _ hy)) id ?_
   simp only [List.map_cons, List.mem_cons] at h
   simp only [upd_apply]
   by_cases e : id = x.1
   ·right; rw [if_pos e, hv x (by simp), e]
   ·rcases h with (h | h) | h
    ·exact absurd h e
    ·exact .inl h
    ·right; rw [if_neg e]; exact h
theorem deltaOf_put {o o1 : Nat -> Obj'} {l : List Nat} {id : Nat} (h : id ∈ l) : o1 id = put o (deltaOf o o1 l) id := by
 by_cases hm : id ∈ (deltaOf o o1 l).map (·.1)
 ·exact (put_vals _ o (fun x hx => (deltaOf_mem l x hx).2) id (.inl hm)).symm
 ·rw [put_other hm]; exact deltaOf_not l id h hm
inductive DR where
 | val (v : V) (Δ : List (Nat × Obj')) (rd : List Nat) | pan (v : V) (ws rd : List Nat)
def DR.to (K : V -> List (Nat × Obj') -> List Nat -> Prop) (KX : V -> List Nat -> List Nat -> Prop) : DR -> Prop
 | .val v Δ rd => K v Δ rd
 | .pan v ws rd => KX v ws rd
noncomputable def crA (c : CR) : Option Ans := some (.c c)
noncomputable def hX (P : Program) (tab : Nat -> FD) (rec : Runs) (g : Nat) (args : List V) (st : St) : Option DR :=
 let rd := reach st.o.get 2000 (V.refss args) []
 match rd.all (fun id => Nat.blt id st.nx && (st.o.get id).refs.all rd.contains) && (V.refss args).all rd.contains with
 | true => match fnX P tab rec g args (.e (rst rd st.o.get)) st.nx crA with
   | some (.c (.ret v o1 _)) => match v with
     | .tup [_] => none
     | v => match toDs o1.get (listOf v) with
       | some rs => match (deltaOf st.o.get o1.get rd).all (fun x => x.2.refs.all rd.contains) && (V.idss (listOf v)).all (fun id => !rd.contains id) with
         | true => some (.val (retV rs) (deltaOf st.o.get o1.get rd) rd)
         | false => none
       | none => none
   | some (.c (.pan v o1 _)) => match toD o1.get v with
     | some x => match (deltaOf st.o.get o1.get rd).all (fun x => x.2.refs.all rd.contains) && v.ids.all (fun id => !rd.contains id) with
       | true => some (.pan (.d x) ((deltaOf st.o.get o1.get rd).map (·.1)) rd)
       | false => none
     | none => none
   | _ => none
 | false => none
noncomputable def cDX (P : Program) (tab : Nat -> FD) (md : Cfg P) (rec : Runs) (g : Nat) (args : List V) (st : St) (rd : List Nat) : Option DR :=
 match toDs st.o.get args with
 | some ds => match md.dat g with
   | false => match fnX P tab rec g (ds.map .d) (.e fun _ => .no) 0 crA with
     | some (.c (.ret v _ _)) => match v.refs with
       | [] => some (.val v (frz st.o.get (V.idss args)) rd)
       | _ => none
     | _ => none
   | true => match datX P tab md rec g ds with
     | some (.ret rs) => match D.flats rs with
       | true => some (.val (retV rs) [] rd)
       | false => some (.val (retV rs) (frz st.o.get (V.idss args)) rd)
     | some (.pan x) => match x.flat with
       | true => some (.pan (.d x) [] rd)
       | false => none
     | none => none
 | none => hX P tab rec g args st
noncomputable def sDX (P : Program) (st : St) (fr : Nat) (op : Op) : Option DR :=
 match sopK op P st.S fr with
 | some (v, Δ, _) => some (.val v Δ (opR st.S op))
 | none => none
def V.isMp : V -> Bool
 | .mp _ => true
 | _ => false
def lentMp {P : Program} (md : Cfg P) (g : Nat) (args : List V) : Bool := !md.dat g && args.any V.isMp
def plainArgs (args : List V) : Option (List D) :=
 match V.idss args with
 | [] => toDs (fun _ => .no) args
 | _ => none
noncomputable def ownA (P : Program) (t : TypeId) (c : CR) : Option Ans :=
 match c with
 | .ret v o1 _ => match v with
   | .osl j ep => match o1.get j with
     | .arr ep' ty sz es => match Nat.beq ep' ep with
       | true => rfc (.ret [.sl es, .int .i64 (ty : Nat), .int .i64 (sz : Nat)]) fun x => some (.r x)
       | false => none
     | _ => none
   | .nils => match sliceT P t with
     | some e => match Nat.blt 0 (P.cellsOf e) with
       | true => rfc (.ret [.sl [], .int .i64 (e : Nat), .int .i64 (P.cellsOf e : Nat)]) fun x => some (.r x)
       | false => none
     | none => none
   | _ => none
 | _ => none
noncomputable def newX (P : Program) (tab : Nat -> FD) (rec : Runs) (g : Nat) (t : TypeId) (args : List V) (st : St) (fr : Nat) : Option DR :=
 match plainArgs args with
 | some ds => match fnX P tab rec g (ds.map .d) (.e fun _ => .no) 0 (ownA P t) with
   | some (.r (.ret [.sl es, .int .i64 (.ofNat ty), .int .i64 (.ofNat sz)])) => some (.val (.osl fr 0) [(fr, .arr 0 ty sz es)] [])
   | _ => none
 | none => match toDs st.o.get args with
   | some ds => match fnX P tab rec g (ds.map .d) (.e fun _ => .no) 0 (ownA P t) with
     | some (.r (.ret [.sl es, .int .i64 (.ofNat ty), .int .i64 (.ofNat sz)])) => match D.flats es && (V.idss args).all (fun id => Nat.blt id st.nx) with
       | true => some (.val (.osl fr 0) [(fr, .arr 0 ty sz es)] (V.idss args))
       | false => none
     | _ => none
   | none => none
noncomputable def opDX (P : Program) (tab : Nat -> FD) (md : Cfg P) (rec : Runs) (st : St) (fr : Nat) (op : Op) : Option DR :=
 match op with
 | .call c => match c.callee with
   | .value f => match st.S.ev f with
     | .func (.func g) first cap => match lentMp md g (first ++ c.args.toList.map st.S.ev ++ cap) with
       | true => hX P tab rec g (first ++ c.args.toList.map st.S.ev ++ cap) st
       | false => match cDX P tab md rec g (first ++ c.args.toList.map st.S.ev ++ cap) st (opR st.S (.call c)) with
         | some r => some r
         | none => newX P tab rec g (c.argTypes.getD 0 0) (first ++ c.args.toList.map st.S.ev ++ cap) st fr
     | _ => none
   | _ => sDX P st fr (.call c)
 | op => sDX P st fr op
noncomputable def gdX (st : St) : Option (Nat × Bool) -> Option Bool
 | none => some true
 | some (d, want) => match st.env.get d with
   | .d (.bool b) => some (b == want)
   | .tup [] => some false
   | _ => none
noncomputable def regBX (P : Program) (tab : Nat -> FD) (md : Cfg P) (rec : Runs) (pr : List (List Nat)) : List IOp -> Nat -> St -> Fp -> List Nat -> List Nat -> Option (List Nat × Fp)
 | [], _, _, fp, _, ws => some (ws, fp)
 | o :: l, fr, st, fp, bad, ws => match (pr.getD fp.length []).any (fun j => bad.contains j) with
   | true => regBX P tab md rec pr l (fr + 1) ⟨putET st.env o.dst .junk, st.o, st.nx⟩ (fp ++ [([], [])]) (bad ++ [fp.length]) ws
   | false => match gdX st o.gd with
     | some true => match opDX P tab md rec st fr o.op with
       | some (.val v Δ rd) => putETc st.env o.dst v fun e => putTc st.o Δ fun ob => regBX P tab md rec pr l (fr + 1) ⟨e, ob, st.nx⟩ (fp ++ [(rd, Δ.map (·.1))]) bad (ws ++ Δ.map (·.1))
       | _ => none
     | some false => regBX P tab md rec pr l (fr + 1) ⟨putET st.env o.dst (.tup []), st.o, st.nx⟩ (fp ++ [([], [])]) bad ws
     | none => none
inductive DQ where
 | fin (st : St) (fp : Fp) | pan (v : V) (wl : List Nat) (fp : Fp)
noncomputable def regDX (P : Program) (tab : Nat -> FD) (md : Cfg P) (rec : Runs) (pr : List (List Nat)) : List IOp -> Nat -> St -> Fp -> Option DQ
 | [], _, st, fp => some (.fin st fp)
 | o :: l, fr, st, fp => match gdX st o.gd with
   | some true => match opDX P tab md rec st fr o.op with
     | some (.val v Δ rd) => putETc st.env o.dst v fun e => putTc st.o Δ fun ob => Nat.fc (fr + 1) fun fr => regDX P tab md rec pr l fr ⟨e, ob, st.nx⟩ (fp ++ [(rd, Δ.map (·.1))])
     | some (.pan v ws rd) => match regBX P tab md rec pr l (fr + 1) ⟨putET st.env o.dst .junk, st.o, st.nx⟩ (fp ++ [(rd, [])]) [fp.length] (ws ++ fp.flatMap (·.2)) with
       | some (wl, fp) => some (.pan v wl fp)
       | none => none
     | none => none
   | some false => putETc st.env o.dst (.tup []) fun e => Nat.fc (fr + 1) fun fr => regDX P tab md rec pr l fr ⟨e, st.o, st.nx⟩ (fp ++ [([], [])])
   | none => none
noncomputable def quiet (fp : Fp) : Bool := fp.all fun x => match x.2 with | [] => true | _ => false
noncomputable def okWith (m : Nat) (x : List Nat × List Nat) : Nat -> Fp -> Bool
 | _, [] => true
 | i, y :: l => (match y.2, x.2 with
  | [], [] => true
  | _, _ => m.testBit i || (disj y.2 x.1 && disj y.2 x.2 && disj x.2 y.1)) && okWith m x (i + 1) l
noncomputable def okAll (ms : List Nat) (pre : Fp) : Nat -> Fp -> Bool
 | _, [] => true
 | j, x :: l => okWith (ms.getD j 0) x 0 pre && okAll ms (pre ++ [x]) (j + 1) l
noncomputable def nfc {β : Type} : List Nat -> (List Nat -> β) -> β
 | [], c => c []
 | x :: xs, c => Nat.fc x fun x => nfc xs fun xs => c (x :: xs)
theorem nfc_eq {β : Type} : ∀ (x : List Nat) (c : List Nat -> β), nfc x c = c x
 | [], c => rfl
 | x :: xs, c => by simp only [nfc, Nat.fc_eq, nfc_eq xs]
noncomputable def fpfc {β : Type} : Fp -> (Fp -> β) -> β
 | [], c => c []
 | (a, b) :: l, c => nfc a fun a => nfc b fun b => fpfc l fun l => c ((a, b) :: l)
theorem fpfc_eq {β : Type} : ∀ (x : Fp) (c : Fp -> β), fpfc x c = c x
 | [], c => rfl
 | (a, b) :: l, c => by simp only [fpfc, nfc_eq, fpfc_eq l]
noncomputable def fpOk (pr : List (List Nat)) (fp : Fp) : Bool := match quiet fp with | true => true | false => fpfc fp fun fp => okAll (masks pr []) [] 0 fp
theorem okWith_ok {m : Nat} {x : List Nat × List Nat} : ∀ (l : Fp) (i : Nat), okWith m x i l = true -> ∀ k, k < l.length -> (m.testBit (i + k) || (disj (l.getD k ([], [])).2 x.1 && disj (l.getD k ([], [])).2 x.2 && disj x.2 (l.getD k ([], [])).1)) = true
 | [], i, _, k, hk => by simp at hk
 | y :: l, i, h, k, hk => by
   simp only [okWith, Bool.and_eq_true] at h
   cases k with
   | zero =>
     have h1 := h.1
     simp only [List.getD_cons_zero, Nat.add_zero]
     split at h1
     ·rename_i e1 e2
      rw [e1, e2]; simp [disj]
     ·exact h1
   | succ k =>
     have := okWith_ok l (i + 1) h.2 k (by simpa using hk)
     rw [List.getD_cons_succ, show i + (k + 1) = i + 1 + k by omega]
     exact this
theorem okAll_ok {ms : List Nat} : ∀ (l pre : Fp), okAll ms pre pre.length l = true -> ∀ j, pre.length <= j -> j < (pre ++ l).length -> ∀ i, i < j ->
 ((ms.getD j 0).testBit i || (disj ((pre ++ l).getD i ([], [])).2 ((pre ++ l).getD j ([], [])).1 && disj ((pre ++ l).getD i ([], [])).2 ((pre ++ l).getD j ([], [])).2 && disj ((pre ++ l).getD j ([], [])).2 ((pre ++ l).getD i ([], [])).1)) = true
 | [], pre, _, j, h1, h2, i, _ => by simp at h2; omega
 | x :: l, pre, h, j, h1, h2, i, hi => by
   simp only [okAll, Bool.and_eq_true] at h
   by_cases e : j = pre.length
   ·subst e
    have := okWith_ok pre 0 h.1 i hi
    have e1 : (pre ++ x :: l).getD pre.length ([], []) = x := by simp [List.getD_eq_getElem?_getD]
    have e2 : (pre ++ x :: l).getD i ([], []) = pre.getD i ([], []) := by simp [List.getD_eq_getElem?_getD, List.getElem?_append_left hi]
    rw [e1, e2]
    simpa using this
   ·have h3 := h.2
    have := okAll_ok l (pre ++ [x]) (by simpa using h3) j (by simp; omega) (by simpa using h2) i hi
    simpa using this
noncomputable def drwX (P : Program) (tab : Nat -> FD) (md : Cfg P) (rec : Runs) (l : List IOp) (pr : List (List Nat)) (st : St) : Option (Xit × St) :=
 match regDX P tab md rec pr l st.nx st [] with
 | some (.fin s1 fp) => match fpOk pr fp with
   | true => Nat.fc (st.nx + l.length) fun n => some (.normal, ⟨s1.env, s1.o, n⟩)
   | false => none
 | some (.pan v wl fp) => match fpOk pr fp with
   | true => some (.pan v, ⟨.e (panS (dstsOf l) wl l.length st.S).env, .e (panS (dstsOf l) wl l.length st.S).o, st.nx + l.length⟩)
   | false => none
 | none => none
noncomputable def rngK (id : Nat) (env : Tr V) (kt : Kt) (c : CR) : Option Ans :=
 match c with
 | .ret _ o1 nx1 => match o1.get id with
   | .loop nf m e p c d lst pd => match lst with
     | .busy => none
     | _ => match pd with
       | none => kt .normal ⟨env, o1.set id (.loop nf m e p c d .exhausted pd), nx1⟩
       | some .ret => kt .ret ⟨env, o1.set id (.loop nf m e p c d .exhausted pd), nx1⟩
       | some (.exit j) => kt (.exit j) ⟨env, o1.set id (.loop nf m e p c d .exhausted pd), nx1⟩
   | _ => none
 | .pan v o1 nx1 => kt (.pan v) ⟨env, o1, nx1⟩
noncomputable def rngX (P : Program) (tab : Nat -> FD) (rec : Runs) (n : Nat) (g : Operand) (ps : List Nat) (x y : IC) (st : St) (kt : Kt) : Option Ans :=
 match st.S.ev g with
 | .func (.func f) first cap => fnX P tab rec f (first ++ [.yld st.nx] ++ cap) (st.o.set st.nx (.loop P.funcs.size n ((List.range n).map st.env.get) ps x y .ready none)) (st.nx + 1) (rngK st.nx st.env kt)
 | _ => none
abbrev StepT := (P : Program) -> (Nat -> FD) -> Cfg P -> Runs -> Nat -> Bool -> Nat -> St -> Kt -> Option Ans
noncomputable def roX (kt : Kt) : RO -> Option Ans := fun r => match r with | .ok st => kt .normal st | .pan v st => kt (.pan v) st
noncomputable def qReg (l : List IOp) : StepT := fun P tab md rec _ _ _ st kt => regX P tab md rec (roX kt) l st
def cutGo : List Nat -> Nat -> Nat -> Nat
 | [], _, c => c
 | x :: l, k, c => match Nat.beq x (2 ^ k - 1) with
   | true => cutGo l (k + 1) c
   | false => cutGo l (k + 1) (k + 1)
def cutOf (pr : List (List Nat)) : Nat := cutGo (masks pr []) 0 0
noncomputable def qDrw (l : List IOp) (pr : List (List Nat)) : StepT := fun P tab md rec _ _ _ st kt =>
 Nat.fc (cutOf pr) fun m => match regDX P tab md rec pr (l.take m) st.nx st [] with
 | some (.fin s1 fp) => match fpOk pr fp with
   | true => Nat.fc (st.nx + m) fun n => match Nat.ble m l.length with
     | true => regX P tab md rec (roX kt) (l.drop m) ⟨s1.env, s1.o, n⟩
     | false => none
   | false => none
 | some (.pan _ _ _) => match drwX P tab md rec l pr st with
   | some (e, s1) => kt e s1
   | none => none
 | none => none
noncomputable def seqK (rec : Runs) (b : Nat) (rd : Bool) (n : Nat) (y : IC) (kt : Kt) : Kt := fun e s1 => match e with | .normal => rec b rd n y s1 kt | e => kt e s1
noncomputable def qSeq (x y : IC) : StepT := fun _ _ _ rec b rd n st kt => rec b rd n x st (seqK rec b rd n y kt)
noncomputable def bothA (a c : Option Ans) : Option Ans :=
 match a with
 | some (.r x) => match c with
   | some (.r y) => match R.same x y with
     | true => some (.r x)
     | false => none
   | _ => none
 | _ => none
noncomputable def qCond (c : Operand) (x y : IC) : StepT := fun _ _ _ rec b rd n st kt => match st.S.ev c with
 | .d (.bool true) => rec b rd n x st kt
 | .d (.bool false) => rec b rd n y st kt
 | .anyb => bothA (rec b rd n x st kt) (rec b rd n y st kt)
 | _ => none
noncomputable def blockK (id : Nat) (kt : Kt) : Kt := fun e s1 => match e with
 | .exit j => match Nat.beq j id with
   | true => kt .normal s1
   | false => kt (.exit j) s1
 | e => kt e s1
noncomputable def qBlock (id : Nat) (x : IC) : StepT := fun _ _ _ rec b rd n st kt => rec b rd n x st (blockK id kt)
noncomputable def qLoop (x : IC) : StepT := fun _ _ _ rec b rd n st kt => match Nat.ble b st.nx with
 | true => rec b rd n x st (seqK rec b rd n (.loop x) kt)
 | false => none
noncomputable def qEnd (e : Xit) : StepT := fun _ _ _ _ _ _ _ st kt => kt e st
noncomputable def qBad : StepT := fun _ _ _ _ _ _ _ _ _ => none
noncomputable def qRng (g : Operand) (ps : List Nat) (x y : IC) : StepT := fun P tab _ rec _ rd n st kt => match rd with
 | true => none
 | false => rngX P tab rec n g ps x y st kt
noncomputable def stepK (ic : IC) : StepT :=
 match ic with
 | .skip => qEnd .normal
 | .reg l => qReg l
 | .drw l pr => qDrw l pr
 | .seq x y => qSeq x y
 | .cond c x y => qCond c x y
 | .block id x => qBlock id x
 | .loop x => qLoop x
 | .exit id => qEnd (.exit id)
 | .ret => qEnd .ret
 | .rng g ps x y => qRng g ps x y
 | .bad => qBad
noncomputable def run (P : Program) (tab : Nat -> FD) (md : Cfg P) (k : Nat) : Runs :=
 Nat.rec (motive := fun _ => Runs) (fun _ _ _ _ _ _ => none) (fun _ rec b rd n ic st kt => stepK ic P tab md rec b rd n st kt) k
theorem run_succ {P : Program} {tab : Nat -> FD} {md : Cfg P} {k : Nat} : run P tab md (k + 1) = fun b rd n ic st kt => stepK ic P tab md (run P tab md k) b rd n st kt := rfl
section
variable {P : Program} {tab : Nat -> FD} {md : Cfg P}
theorem hX_ok (hmix : P.follows .mixedOrders = true) (htab : ∀ g, (tab g).Ok P g) {rec : Runs} (hrec : RunsOk P rec) {fr : Nat} {g : Nat} {args : List V} {st : St} {r : DR} (h : hX P tab rec g args st = some r) {K : V -> List (Nat × Obj') -> List Nat -> Prop} {KX : V -> List Nat -> List Nat -> Prop} (hr : r.to K KX) :
 callDh P g args st.S.o st.S.nx fr K KX := by
 unfold hX at h
 simp only at h
 generalize hrd : reach st.o.get 2000 (V.refss args) [] = rd at h
 split at h
 ·rename_i hc
  simp only [Bool.and_eq_true, List.all_eq_true] at hc
  obtain ⟨hc1, hc2⟩ := hc
  have a1 : ∀ id ∈ rd, id < st.nx := fun id hid => Nat.le_of_ble_eq_true (hc1 id hid).1
  have a2 : ∀ id ∈ V.refss args, id ∈ rd := fun id hid => by simpa using hc2 id hid
  have a3 : ∀ id ∈ rd, ∀ j ∈ (st.o.get id).refs, j ∈ rd := fun id hid j hj => by simpa using (hc1 id hid).2 j hj
  have a0 : rd.all (fun id => decide (id < st.S.nx)) = true := List.all_eq_true.2 fun id hid => decide_eq_true (a1 id hid)
  have key : ∀ {r : CR} {a : CR}, crA r = some (.c a) -> r = a := fun h => by unfold crA at h; injection h with h; injection h
  split at h
  ·rename_i v o1 nx1 hf
   split at h
   ·cases h
   ·rename_i v' hv'
    split at h
    ·rename_i rs hrs
     split at h
     ·rename_i hc3
      injection h with h; subst h
      simp only [Bool.and_eq_true, List.all_eq_true] at hc3
      refine ⟨rd, _, a0, .inl ⟨rs, HCt.of_ctk a1 a2 a3 (fun x hx => (deltaOf_mem rd x hx).1) (fun x hx j hj => by simpa using hc3.1 x hx j hj) (fnX_ok hmix htab hrec hf fun r hr2 => ?_), hr⟩⟩
      rw [key hr2]
      refine ⟨fun id hid => deltaOf_put hid, listOf v, rs, ?_, hrs, rfl, fun id hid => by simpa using hc3.2 id hid⟩
      cases v with
      | tup vs =>
        match vs, hv' with
        | [], _ => rfl
        | [x], hv => exact absurd rfl (hv x)
        | _ :: _ :: _, _ => rfl
      | _ => rfl
     ·cases h
    ·cases h
  ·rename_i v o1 nx1 hf
   split at h
   ·rename_i x hx
    split at h
    ·rename_i hc3
     injection h with h; subst h
     simp only [Bool.and_eq_true, List.all_eq_true] at hc3
     refine ⟨rd, deltaOf st.o.get o1.get rd, a0, .inr (.inl ⟨x, HCt.of_ctk a1 a2 a3 (fun x hx => (deltaOf_mem rd x hx).1) (fun x hx j hj => by simpa using hc3.1 x hx j hj) (fnX_ok hmix htab hrec hf fun r hr2 => ?_), hr⟩)⟩
     rw [key hr2]
     exact ⟨fun id hid => deltaOf_put hid, x, hx, rfl, fun id hid => by simpa using hc3.2 id hid⟩
    ·cases h
   ·cases h
  ·cases h
 ·cases h
theorem cDX_ok (hmix : P.follows .mixedOrders = true) (htab : ∀ g, (tab g).Ok P g) {rec : Runs} (hrec : RunsOk P rec) {g : Nat} {args : List V} {st : St} {rd : List Nat} {ds : List D} (hds : toDs st.o.get args = some ds) {r : DR} (h : cDX P tab md rec g args st rd = some r)
 {K : V -> List (Nat × Obj') -> List Nat -> Prop} {KX : V -> List Nat -> List Nat -> Prop} (hr : r.to K KX) :
 callD P g ds (fun v => K v (frz st.S.o (V.idss args)) rd) (fun v => K v [] rd) (fun v => KX v [] rd) := by
 unfold cDX at h
 simp only [hds] at h
 split at h
 ·split at h
  ·rename_i v o1 nx1 hr0
   split at h
   ·rename_i hrf
    injection h with h; subst h
    exact .inr (.inr ⟨v, PVt.of_ctk hrf (fnX_ok hmix htab hrec hr0 fun r hr2 => by unfold crA at hr2; injection hr2 with hr2; injection hr2 with hr2; rw [hr2]; exact rfl), hr⟩)
   ·cases h
  ·cases h
 ·split at h
  ·rename_i rs hout
   have hP := datX_ok hmix htab hrec hout
   split at h
   ·rename_i hf
    injection h with h; subst h
    exact .inl ⟨rs, hP, .inr ⟨hf, hr⟩⟩
   ·injection h with h; subst h
    exact .inl ⟨rs, hP, .inl hr⟩
  ·rename_i x hout
   have hP := datX_ok hmix htab hrec hout
   split at h
   ·rename_i hf
    injection h with h; subst h
    exact .inr (.inl ⟨x, hP, hf, hr⟩)
   ·cases h
  ·cases h
theorem ownA_ok {t ty : TypeId} {sz : Nat} {es : List D} {r : CR} (h : ownA P t r = some (.r (.ret [.sl es, .int .i64 (.ofNat ty), .int .i64 (.ofNat sz)]))) :
 r.to (fun v o1 _ => (∃ j ep, v = .osl j ep /\ o1 j = .arr ep ty sz es) \/ (v = .nils /\ es = [] /\ 0 < sz)) (fun _ _ _ => False) := by
 unfold ownA at h
 split at h
 ·rename_i v o1 n1
  split at h
  ·rename_i j ep
   split at h
   ·rename_i ep' ty' sz' es' ho
    split at h
    ·rename_i he
     have he := Nat.eq_of_beq_eq_true he
     subst he
     rw [rfc_eq] at h
     simp only [Option.some.injEq, Ans.r.injEq, R.ret.injEq, List.cons.injEq, D.sl.injEq, D.int.injEq, true_and, and_true] at h
     obtain ⟨rfl, h2, h3⟩ := h
     have h2 : ty' = ty := Int.ofNat.inj h2
     have h3 : sz' = sz := Int.ofNat.inj h3
     subst h2; subst h3
     exact .inl ⟨j, ep', rfl, ho⟩
    ·cases h
   ·cases h
  ·split at h
   ·rename_i e he
    split at h
    ·rename_i hp
     rw [rfc_eq] at h
     simp only [Option.some.injEq, Ans.r.injEq, R.ret.injEq, List.cons.injEq, D.sl.injEq, D.int.injEq, true_and, and_true] at h
     obtain ⟨rfl, h2, h3⟩ := h
     have h3 : P.cellsOf e = sz := Int.ofNat.inj h3
     subst h3
     exact .inr ⟨rfl, rfl, Nat.blt_eq.mp hp⟩
    ·cases h
   ·cases h
  ·cases h
 ·cases h
theorem newX_ok (hmix : P.follows .mixedOrders = true) (htab : ∀ g, (tab g).Ok P g) {rec : Runs} (hrec : RunsOk P rec) {fr : Nat} {g : Nat} {t : TypeId} {args : List V} {st : St} {r : DR} (h : newX P tab rec g t args st fr = some r) {K : V -> List (Nat × Obj') -> List Nat -> Prop} {KX : V -> List Nat -> List Nat -> Prop} (hr : r.to K KX) :
 callDh P g args st.S.o st.S.nx fr K KX := by
 unfold newX at h
 split at h
 ·rename_i ds hds
  split at h
  ·rename_i es ty sz hr0
   injection h with h; subst h
   unfold plainArgs at hds
   split at hds
   ·rename_i hid
    exact ⟨[], _, by simp, .inr (.inr ⟨_, HVt.of_args hid hds (HVt.of_own (fnX_ok hmix htab hrec hr0 fun r hr2 => ownA_ok hr2)), hr⟩)⟩
   ·cases hds
  ·cases h
 ·split at h
  ·rename_i ds hds
   split at h
   ·rename_i es ty sz hr0
    split at h
    ·rename_i hc
     injection h with h; subst h
     simp only [Bool.and_eq_true] at hc
     refine ⟨V.idss args, _, ?_, .inr (.inr ⟨_, HVt.of_own2 hds hc.1 (fnX_ok hmix htab hrec hr0 fun r hr2 => ownA_ok hr2), hr⟩)⟩
     exact List.all_eq_true.2 fun id hid => decide_eq_true (Nat.blt_eq.mp (List.all_eq_true.1 hc.2 id hid))
    ·cases h
   ·cases h
  ·cases h
theorem opDX_ok (hmix : P.follows .mixedOrders = true) (htab : ∀ g, (tab g).Ok P g) {rec : Runs} (hrec : RunsOk P rec) {st : St} {fr : Nat} {o : IOp} {r : DR} (h : opDX P tab md rec st fr o.op = some r) {K : V -> List (Nat × Obj') -> List Nat -> Prop} {KX : V -> List Nat -> List Nat -> Prop} (hr : r.to K KX) :
 opD P st.S fr o K KX := by
 have hs : sDX P st fr o.op = some r -> (match sopF P st.S fr o.op with | some (v, Δ, _) => K v Δ (opR st.S o.op) | none => False) := by
  intro h
  unfold sDX at h
  split at h
  ·rename_i v Δ rd he
   injection h with h; subst h
   simp only [sopK_ok he]
   exact hr
  ·cases h
 unfold opDX at h
 unfold opD
 split at h
 ·rename_i c hc
  simp only [hc]
  split at h
  ·rename_i f hf
   simp only [hf]
   split at h
   ·rename_i g first cap hv
    simp only [hv]
    split at h
    ·have hh := hX_ok hmix htab hrec h hr (fr := fr)
     split
     ·exact .inr hh
     ·exact hh
    split at h
    ·rename_i r' hcd
     injection h with h; subst h
     cases hds : toDs st.S.o (first ++ List.map st.S.ev c.args.toList ++ cap) with
     | some ds => exact .inl (cDX_ok hmix htab hrec hds hcd hr)
     | none =>
       have hds' : toDs st.o.get (first ++ List.map st.S.ev c.args.toList ++ cap) = none := hds
       unfold cDX at hcd
       simp only [hds'] at hcd
       exact hX_ok hmix htab hrec hcd hr
    ·have hh := newX_ok hmix htab hrec (st := st) h hr
     split
     ·exact .inr hh
     ·exact hh
   ·cases h
  ·rename_i hcal
   rw [<- hc] at h
   have := hs h
   rw [hc] at this
   split
   ·rename_i f hf; exact absurd hf (hcal f)
   ·exact this
 ·rename_i hc
  have := hs h
  split
  ·rename_i c hh; exact absurd hh (hc c)
  ·exact this
def gdW (s : S) (gd : Option (Nat × Bool)) (A B : Prop) : Prop :=
 match gd with
 | none => A
 | some (d, want) => match s.env d with
   | .d (.bool b) => if b = want then A else B
   | .tup [] => B
   | _ => False
theorem gdX_ok {st : St} {gd : Option (Nat × Bool)} {t : Bool} (h : gdX st gd = some t) {A B : Prop} (hA : t = true -> A) (hB : t = false -> B) : gdW st.S gd A B := by
 cases gd with
 | none => simp only [gdX, Option.some.injEq] at h; exact hA h.symm
 | some p =>
   obtain ⟨d, want⟩ := p
   have he : st.S.env d = st.env.get d := rfl
   simp only [gdX] at h
   simp only [gdW, he]
   split at h
   ·rename_i b hb
    injection h with h
    by_cases e : b = want
    ·rw [if_pos e]; exact hA (by rw [<- h, e]; simp)
    ·rw [if_neg e]; exact hB (by rw [<- h]; simpa using e)
   ·rename_i hb
    injection h with h
    exact hB h.symm
   ·cases h
theorem regB_gd {P : Program} {KB : List Nat -> Fp -> Prop} {pr : List (List Nat)} {o : IOp} {l : List IOp} {fr : Nat} {s : S} {fp : Fp} {bad ws : List Nat} (hb : (pr.getD fp.length []).any (fun j => bad.contains j) = false)
 (h : gdW s o.gd (opD P s fr o (fun v Δ rd => regB P KB pr l (fr + 1) ⟨putE s.env o.dst v, put s.o Δ, s.nx⟩ (fp ++ [(rd, Δ.map (·.1))]) bad (ws ++ Δ.map (·.1))) (fun _ _ _ => False)) (regB P KB pr l (fr + 1) ⟨putE s.env o.dst (.tup []), s.o, s.nx⟩ (fp ++ [([], [])]) bad ws)) :
 regB P KB pr (o :: l) fr s fp bad ws := by
 simp only [regB]
 rw [if_neg (by rw [hb]; simp)]
 cases hg : o.gd with
 | none => rw [hg] at h; exact h
 | some p => obtain ⟨d, want⟩ := p; rw [hg] at h; exact h
theorem regD_gd {P : Program} {K : S -> Fp -> Prop} {KP : V -> List Nat -> Fp -> Prop} {pr : List (List Nat)} {o : IOp} {l : List IOp} {fr : Nat} {s : S} {fp : Fp}
 (h : gdW s o.gd (opD P s fr o (fun v Δ rd => regD P K KP pr l (fr + 1) ⟨putE s.env o.dst v, put s.o Δ, s.nx⟩ (fp ++ [(rd, Δ.map (·.1))]))
  (fun v ws rd => regB P (KP v) pr l (fr + 1) ⟨putE s.env o.dst .junk, s.o, s.nx⟩ (fp ++ [(rd, [])]) [fp.length] (ws ++ fp.flatMap (·.2)))) (regD P K KP pr l (fr + 1) ⟨putE s.env o.dst (.tup []), s.o, s.nx⟩ (fp ++ [([], [])]))) :
 regD P K KP pr (o :: l) fr s fp := by
 simp only [regD]
 cases hg : o.gd with
 | none => rw [hg] at h; exact h
 | some p => obtain ⟨d, want⟩ := p; rw [hg] at h; exact h
theorem regBX_ok (hmix : P.follows .mixedOrders = true) (htab : ∀ g, (tab g).Ok P g) {rec : Runs} (hrec : RunsOk P rec) {pr : List (List Nat)} {wl : List Nat} {fp' : Fp} {KB : List Nat -> Fp -> Prop} (hK : KB wl fp') :
 ∀ (l : List IOp) (fr : Nat) (st : St) (fp : Fp) (bad ws : List Nat), regBX P tab md rec pr l fr st fp bad ws = some (wl, fp') -> regB P KB pr l fr st.S fp bad ws
 | [], fr, st, fp, bad, ws, h => by
   simp only [regBX, Option.some.injEq, Prod.mk.injEq] at h
   obtain ⟨rfl, rfl⟩ := h; exact hK
 | o :: l, fr, st, fp, bad, ws, h => by
   simp only [regBX, putETc_eq, putTc_eq] at h
   split at h
   ·rename_i hb
    simp only [regB]
    rw [if_pos hb]
    have := regBX_ok hmix htab hrec hK l _ _ _ _ _ h
    simp only [St.S, putET_get] at this
    exact this
   ·rename_i hb
    refine regB_gd hb ?_
    split at h
    ·rename_i hg
     refine gdX_ok hg (fun _ => ?_) (fun h => by cases h)
     split at h
     ·rename_i v Δ rd hop
      refine opDX_ok hmix htab hrec hop ?_
      have := regBX_ok hmix htab hrec hK l _ _ _ _ _ h
      simp only [St.S, putET_get, putT_get] at this
      exact this
     ·cases h
    ·rename_i hg
     refine gdX_ok hg (fun h => by cases h) (fun _ => ?_)
     have := regBX_ok hmix htab hrec hK l _ _ _ _ _ h
     simp only [St.S, putET_get] at this
     exact this
    ·cases h
def DQ.to (K : S -> Fp -> Prop) (KP : V -> List Nat -> Fp -> Prop) : DQ -> Prop
 | .fin st fp => K st.S fp
 | .pan v wl fp => KP v wl fp
theorem regDX_ok (hmix : P.follows .mixedOrders = true) (htab : ∀ g, (tab g).Ok P g) {rec : Runs} (hrec : RunsOk P rec) {pr : List (List Nat)} {q : DQ} {K : S -> Fp -> Prop} {KP : V -> List Nat -> Fp -> Prop} (hq : q.to K KP) :
 ∀ (l : List IOp) (fr : Nat) (st : St) (fp : Fp), regDX P tab md rec pr l fr st fp = some q -> regD P K KP pr l fr st.S fp
 | [], fr, st, fp, h => by
   simp only [regDX, Option.some.injEq] at h
   subst h; exact hq
 | o :: l, fr, st, fp, h => by
   simp only [regDX, putETc_eq, putTc_eq, Nat.fc_eq] at h
   refine regD_gd ?_
   split at h
   ·rename_i hg
    refine gdX_ok hg (fun _ => ?_) (fun h => by cases h)
    split at h
    ·rename_i v Δ rd hop
     refine opDX_ok hmix htab hrec hop ?_
     have := regDX_ok hmix htab hrec hq l _ _ _ h
     simp only [St.S, putET_get, putT_get] at this
     exact this
    ·rename_i v ws rd hop
     split at h
     ·rename_i wl fp' hb
      injection h with h; subst h
      refine opDX_ok hmix htab hrec hop ?_
      have := regBX_ok hmix htab hrec (KB := KP v) hq l _ _ _ _ _ hb
      simp only [St.S, putET_get] at this
      exact this
     ·cases h
    ·cases h
   ·rename_i hg
    refine gdX_ok hg (fun h => by cases h) (fun _ => ?_)
    have := regDX_ok hmix htab hrec hq l _ _ _ h
    simp only [St.S, putET_get] at this
    exact this
   ·cases h
theorem fpOk_ok {pr : List (List Nat)} {fp : Fp} (h : fpOk pr fp = true) : objsOk pr fp = true := by
 unfold fpOk at h
 split at h
 ·rename_i hq
  unfold quiet at hq
  have hz : ∀ i, (fp.getD i ([], [])).2 = [] := by
   intro i
   rw [List.getD_eq_getElem?_getD]
   cases hx : fp[i]? with
   | none => rfl
   | some x =>
     have := List.all_eq_true.1 hq x (List.mem_of_getElem? hx)
     simp only [Option.getD_some]
     split at this
     ·rename_i e; exact e
     ·cases this
  unfold objsOk
  simp only [hz, disj, List.all_nil, Bool.and_self, Bool.or_true]
  simp
 ·rw [fpfc_eq] at h
  unfold objsOk
  rw [List.all_eq_true]
  intro j hj
  rw [List.all_eq_true]
  intro i hi
  exact okAll_ok fp [] h j (Nat.zero_le _) (by simpa using hj) i (by simpa using hi)
theorem cutGo_ok : ∀ (l : List Nat) (k c : Nat), c <= k -> c <= cutGo l k c /\ ∀ i x, l[i]? = some x -> cutGo l k c <= k + i -> x = 2 ^ (k + i) - 1
 | [], _, c, _ => ⟨Nat.le_refl _, fun i x h => by simp at h⟩
 | y :: l, k, c, hc => by
   simp only [cutGo]
   split
   ·rename_i he
    obtain ⟨h1, h2⟩ := cutGo_ok l (k + 1) c (by omega)
    refine ⟨h1, fun i x hi hle => ?_⟩
    cases i with
    | zero => simp at hi; subst hi; simpa using Nat.eq_of_beq_eq_true he
    | succ i =>
      have := h2 i x (by simpa using hi) (by omega)
      rw [this, show k + (i + 1) = k + 1 + i by omega]
   ·obtain ⟨h1, h2⟩ := cutGo_ok l (k + 1) (k + 1) (Nat.le_refl _)
    refine ⟨by omega, fun i x hi hle => ?_⟩
    cases i with
    | zero => omega
    | succ i =>
      have := h2 i x (by simpa using hi) (by omega)
      rw [this, show k + (i + 1) = k + 1 + i by omega]
theorem masks_len : ∀ (pr : List (List Nat)) (acc : List Nat), (masks pr acc).length = acc.length + pr.length
 | [], acc => by simp [masks]
 | ps :: l, acc => by simp only [masks, masks_len l, List.length_append, List.length_cons, List.length_nil]; omega
theorem cutOf_ok (pr : List (List Nat)) : tailOk pr (cutOf pr) = true := by
 refine List.all_eq_true.2 fun k hk => ?_
 have hk : k < pr.length := by simpa using hk
 by_cases h : k < cutOf pr
 ·simp [Nat.blt_eq.mpr h]
 ·have hl : k < (masks pr []).length := by rw [masks_len]; simpa using hk
  have := (cutGo_ok (masks pr []) 0 0 (Nat.le_refl _)).2 k _ (List.getElem?_eq_getElem hl) (by rw [Nat.zero_add]; exact Nat.le_of_not_lt h)
  rw [Nat.zero_add] at this
  rw [List.getD_eq_getElem?_getD, List.getElem?_eq_getElem hl, Option.getD_some, this]
  simp
theorem drwX_ok (hmix : P.follows .mixedOrders = true) (htab : ∀ g, (tab g).Ok P g) {rec : Runs} (hrec : RunsOk P rec) {l : List IOp} {pr : List (List Nat)} {st st' : St} {e : Xit} (h : drwX P tab md rec l pr st = some (e, st')) {Q : Xit -> S -> Prop} (hQ : Q e st'.S) :
 regD P (endD pr (st.S.nx + l.length) Q) (endP pr l st.S Q) pr l st.S.nx st.S [] := by
 unfold drwX at h
 split at h
 ·rename_i s1 fp hd
  split at h
  ·rename_i hf
   simp only [Nat.fc_eq, Option.some.injEq, Prod.mk.injEq] at h
   obtain ⟨rfl, rfl⟩ := h
   exact regDX_ok hmix htab hrec (q := .fin s1 fp) (K := endD pr (st.S.nx + l.length) Q) (KP := endP pr l st.S Q) (show endD pr (st.S.nx + l.length) Q s1.S fp from ⟨fpOk_ok hf, hQ⟩) l _ _ _ hd
  ·cases h
 ·rename_i v wl fp hd
  split at h
  ·rename_i hf
   simp only [Option.some.injEq, Prod.mk.injEq] at h
   obtain ⟨rfl, rfl⟩ := h
   exact regDX_ok hmix htab hrec (q := .pan v wl fp) (K := endD pr (st.S.nx + l.length) Q) (KP := endP pr l st.S Q) (show endP pr l st.S Q v wl fp from ⟨fpOk_ok hf, hQ⟩) l _ _ _ hd
  ·cases h
 ·cases h
theorem rngX_ok (hmix : P.follows .mixedOrders = true) (htab : ∀ g, (tab g).Ok P g) {rec : Runs} (hrec : RunsOk P rec) {n : Nat} {g : Operand} {ps : List Nat} {x y : IC} {st : St} {kt : Kt} {a : Ans} (h : rngX P tab rec n g ps x y st kt = some a) {Q : Xit -> S -> Prop} (hQ : ∀ e st', kt e st' = some a -> Q e st'.S) :
 rngW P n (st.S.ev g) ps x y Q st.S := by
 unfold rngX at h
 refine ⟨(List.range n).map st.env.get, fun i => ?_, ?_⟩
 ·unfold envJ
  simp only [List.getD_eq_getElem?_getD, List.getElem?_map]
  by_cases hi : i < n
  ·right; rw [List.getElem?_range hi]; rfl
  ·left; rw [List.getElem?_eq_none (by simp; omega)]; rfl
 ·split at h
  ·rename_i f first cap hv
   simp only [hv]
   refine .inl ?_
   have key := fun {K X} hr => fnX_ok (K := K) (X := X) hmix htab hrec h hr
   simp only [Tr.get_set] at key
   refine key fun r hr => ?_
   unfold rngK at hr
   cases r with
   | ret v o1 nx1 =>
     simp only at hr
     split at hr
     ·rename_i nf m e p c d lst pd ho
      have hl : lst ≠ .busy := by
       intro hb; subst hb; cases hr
      refine ⟨nf, m, e, p, c, d, lst, pd, ho, hl, ?_⟩
      split at hr
      ·cases hr
      ·split at hr <;> (have h3 := hQ _ _ hr; simp only [jmpQ]; simp only [St.S, Tr.get_set] at h3; exact h3)
     ·cases hr
   | pan v o1 nx1 => exact hQ _ _ hr
  ·cases h
theorem SLe.same {b : Nat} {s : S} (h : b <= s.nx) : SLe b s s := fun _ φ _ _ h1 h2 => ⟨φ, h1, h2, fun _ h => h, h, fun _ _ hr => ⟨hr, rfl⟩, fun _ e' _ he => ⟨e', he, Nat.le_refl _, fun _ => rfl⟩⟩
theorem bothA_ok {x y : Option Ans} {a : Ans} (h : bothA x y = some a) : x = some a /\ y = some a := by
 unfold bothA at h
 split at h
 ·rename_i r
  split at h
  ·rename_i r'
   split at h
   ·rename_i hs
    injection h with h; subst h
    rw [R.same_eq hs]
    exact ⟨rfl, rfl⟩
   ·cases h
  ·cases h
 ·cases h
theorem run_ok (hmix : P.follows .mixedOrders = true) (htab : ∀ g, (tab g).Ok P g) : ∀ k, ∀ j, j <= k -> RunsOk P (run P tab md j) := by
 intro k
 induction k with
 | zero => intro j hj b rd n ic st kt a h; obtain rfl : j = 0 := by omega
           cases h
 | succ k ih =>
   intro j hj b rd n ic st kt a h Q hQ
   cases j with
   | zero => cases h
   | succ j =>
     have hrec : RunsOk P (run P tab md j) := ih j (by omega)
     rw [run_succ] at h
     cases ic with
     | skip => exact hQ _ _ h
     | exit id => exact hQ _ _ h
     | ret => exact hQ _ _ h
     | bad => cases h
     | reg l =>
       have h : regX P tab md (run P tab md j) (roX kt) l st = some a := h
       exact regX_ok hmix htab hrec (K := Q .normal) (X := fun v s => Q (.pan v) s) (fun r hr => by
        cases r with
        | ok st1 => exact hQ .normal _ hr
        | pan v st1 => exact hQ (.pan v) _ hr) l _ h
     | drw l pr =>
       have h : qDrw l pr P tab md (run P tab md j) b rd n st kt = some a := h
       unfold qDrw at h
       rw [Nat.fc_eq] at h
       split at h
       ·rename_i s1 fp hd
        split at h
        ·rename_i hf
         rw [Nat.fc_eq] at h
         split at h
         ·rename_i hml
          refine .inr ⟨cutOf pr, Nat.le_of_ble_eq_true hml, cutOf_ok pr, ?_⟩
          refine regDX_ok hmix htab hrec (q := .fin s1 fp) (K := fun s' fp => objsOk pr fp = true /\ regI P (fun v s => Q (.pan v) s) (Q .normal) (l.drop (cutOf pr)) ⟨s'.env, s'.o, st.S.nx + cutOf pr⟩) (KP := fun _ _ _ => False) (show _ /\ _ from ⟨fpOk_ok hf, ?_⟩) (l.take (cutOf pr)) _ _ _ hd
          exact regX_ok hmix htab hrec (K := Q .normal) (X := fun v s => Q (.pan v) s) (fun r hr => by
           cases r with
           | ok st1 => exact hQ .normal _ hr
           | pan v st1 => exact hQ (.pan v) _ hr) (l.drop (cutOf pr)) ⟨s1.env, s1.o, st.nx + cutOf pr⟩ h
         ·cases h
        ·cases h
       ·split at h
        ·rename_i e s1 h1
         exact .inl (drwX_ok hmix htab hrec h1 (hQ _ _ h))
        ·cases h
       ·cases h
     | seq x y =>
       have h : run P tab md j b rd n x st (seqK (run P tab md j) b rd n y kt) = some a := h
       simp only [icW]
       refine hrec _ _ _ _ _ _ _ h _ fun e s1 he => ?_
       unfold seqK at he
       cases e with
       | normal => exact hrec _ _ _ _ _ _ _ he _ hQ
       | _ => exact hQ _ _ he
     | cond c x y =>
       have h : (match st.S.ev c with | .d (.bool true) => run P tab md j b rd n x st kt | .d (.bool false) => run P tab md j b rd n y st kt | .anyb => bothA (run P tab md j b rd n x st kt) (run P tab md j b rd n y st kt) | _ => none) = some a := h
       simp only [icW]
       split at h
       ·rename_i hv
        simp only [hv]
        exact (condI_true _ _).mpr (hrec _ _ _ _ _ _ _ h _ hQ)
       ·rename_i hv
        simp only [hv]
        exact (condI_false _ _).mpr (hrec _ _ _ _ _ _ _ h _ hQ)
       ·rename_i hv
        simp only [hv]
        obtain ⟨h1, h2⟩ := bothA_ok h
        exact ⟨hrec _ _ _ _ _ _ _ h1 _ hQ, hrec _ _ _ _ _ _ _ h2 _ hQ⟩
       ·cases h
     | block id x =>
       have h : run P tab md j b rd n x st (blockK id kt) = some a := h
       simp only [icW]
       refine hrec _ _ _ _ _ _ _ h _ fun e s1 he => ?_
       unfold blockK at he
       cases e with
       | exit j' =>
         simp only at he
         split at he
         ·rename_i hb
          simp only [blockQ, Nat.eq_of_beq_eq_true hb, if_true]; exact hQ _ _ he
         ·rename_i hb
          simp only [blockQ, Nat.ne_of_beq_eq_false hb, if_false]; exact hQ _ _ he
       | _ => exact hQ _ _ he
     | loop x =>
       have unf : ∀ m st0, run P tab md (m + 1) b rd n (.loop x) st0 kt = some a -> b <= st0.nx /\ run P tab md m b rd n x st0 (seqK (run P tab md m) b rd n (.loop x) kt) = some a := by
        intro m st0 h
        have h : (match Nat.ble b st0.nx with | true => run P tab md m b rd n x st0 (seqK (run P tab md m) b rd n (.loop x) kt) | false => none) = some a := h
        split at h
        ·rename_i hb; exact ⟨Nat.le_of_ble_eq_true hb, h⟩
        ·cases h
       have h : run P tab md (j + 1) b rd n (.loop x) st kt = some a := h
       refine ⟨fun m s => m <= k + 1 /\ ∃ st, s = st.S /\ run P tab md m b rd n (.loop x) st kt = some a, ⟨j + 1, st.S, SLe.same (unf j st h).1, hj, st, rfl, h⟩, ?_⟩
       rintro m s0 ⟨hm, st0, rfl, h0⟩
       cases m with
       | zero => cases h0
       | succ m =>
         have hrec' : RunsOk P (run P tab md m) := ih m (by omega)
         refine hrec' _ _ _ _ _ _ _ (unf m st0 h0).2 _ fun e s1 he => ?_
         unfold seqK at he
         cases e with
         | normal =>
           refine ⟨m, s1.S, Nat.lt_succ_self _, SLe.same ?_, by omega, s1, rfl, he⟩
           cases m with
           | zero => cases he
           | succ m => exact (unf m s1 he).1
         | _ => exact hQ _ _ he
     | rng g ps x y =>
       cases rd with
       | true =>
         have h : (none : Option Ans) = some a := h
         cases h
       | false =>
         have h : rngX P tab (run P tab md j) n g ps x y st kt = some a := h
         exact ⟨rfl, rngX_ok hmix htab hrec h hQ⟩
noncomputable def runD (P : Program) (tab : Nat -> FD) (md : Cfg P) (k : Nat) (g : Nat) (ds : List D) : Option R :=
 match fnX P tab (run P tab md k) g (ds.map .d) (.e fun _ => .no) 0 dataA with
 | some (.r x) => some x
 | _ => none
theorem PCt.of_run (hmix : P.follows .mixedOrders = true) (htab : ∀ g, (tab g).Ok P g) {k g : Nat} {ds : List D} {out : R} (h : runD P tab md k g ds = some out) : PCt P g ds out := by
 unfold runD at h
 split at h
 ·rename_i x hr; injection h with h; subst h; exact dataA_ok hmix htab (run_ok hmix htab k k (Nat.le_refl _)) hr
 ·cases h
end
end Go.Proofs.YtealblliddhgiaaGreat
namespace Go.Proofs.YtealblliddhgiaaGreat
def Tr.AllAt {α : Type} (p : Nat -> α -> Prop) : Tr α -> (Nat -> Nat) -> Prop
 | .e g, f => ∀ i, p (f i) (g i)
 | .n x l r, f => p (f 0) x /\ AllAt p l (fun i => f (2 * i + 1)) /\ AllAt p r (fun i => f (2 * i + 2))
theorem Tr.all_get {α : Type} {p : Nat -> α -> Prop} : ∀ {f : Nat -> Nat} (t : Tr α), t.AllAt p f -> ∀ k, p (f k) (t.get k)
 | f, .e g, h, k => h k
 | f, .n x l r, h, k => by
   obtain ⟨h1, h2, h3⟩ := h
   rw [Tr.get_n]
   split
   ·rename_i e; subst e; exact h1
   ·split
    ·have := Tr.all_get l h2 (k / 2)
     rwa [show 2 * (k / 2) + 1 = k by omega] at this
    ·have := Tr.all_get r h3 (k / 2 - 1)
     rwa [show 2 * (k / 2 - 1) + 2 = k by omega] at this
end Go.Proofs.YtealblliddhgiaaGreat
namespace Go.Proofs.YtealblliddhgiaaGreat
@[reducible] def mv (d s : Nat) : IOp := ⟨some d, .move (.tmp s), none⟩
@[reducible] def mvk (d : Nat) (n : Int) : IOp := ⟨some d, .move (.const (.int .i64 n)), none⟩
@[reducible] def sg (d s : Nat) : IOp := ⟨some d, .assign (.tmp s), none⟩
@[reducible] def sgk (d : Nat) (n : Int) : IOp := ⟨some d, .assign (.const (.int .i64 n)), none⟩
@[reducible] def sgb (d : Nat) (b : Bool) : IOp := ⟨some d, .assign (.const (.bool b)), none⟩
@[reducible] def ld (d t s : Nat) : IOp := ⟨some d, .load t (.tmp s), none⟩
@[reducible] def st (t a b : Nat) : IOp := ⟨none, .store t (.tmp a) (.tmp b), none⟩
@[reducible] def fa (d t s f : Nat) : IOp := ⟨some d, .fieldAddr t (.tmp s) f, none⟩
@[reducible] def ex (d s i : Nat) : IOp := ⟨some d, .extract (.tmp s) i, none⟩
@[reducible] def pkf (d c a : Nat) : IOp := ⟨some d, .pick (.tmp c) (.tmp a) (.const (.bool false)), none⟩
@[reducible] def pkt (d c a : Nat) : IOp := ⟨some d, .pick (.tmp c) (.const (.bool true)) (.tmp a), none⟩
@[reducible] def ia (d t x i : Nat) : IOp := ⟨some d, .indexAddr t (.tmp x) (.tmp i), none⟩
@[reducible] def bx (d t s : Nat) : IOp := ⟨some d, .box t (.tmp s), none⟩
@[reducible] def al (d t : Nat) : IOp := ⟨some d, .alloc t, none⟩
@[reducible] def ln (d s t : Nat) : IOp := ⟨some d, .call { callee := .builtin .len, args := #[.tmp s], argTypes := #[t] }, none⟩
@[reducible] def k0 (d f : Nat) : IOp := ⟨some d, .call { callee := .value (.func f), args := #[], argTypes := #[] }, none⟩
@[reducible] def k1 (d f a t : Nat) : IOp := ⟨some d, .call { callee := .value (.func f), args := #[.tmp a], argTypes := #[t] }, none⟩
@[reducible] def k2 (d f a b t u : Nat) : IOp := ⟨some d, .call { callee := .value (.func f), args := #[.tmp a, .tmp b], argTypes := #[t, u] }, none⟩
@[reducible] def k3 (d f a b c t u v : Nat) : IOp := ⟨some d, .call { callee := .value (.func f), args := #[.tmp a, .tmp b, .tmp c], argTypes := #[t, u, v] }, none⟩
@[reducible] def bo (op : BinOp) (d t x y u : Nat) : IOp := ⟨some d, .binOp op t (.tmp x) (.tmp y) u, none⟩
@[reducible] def bk (op : BinOp) (d t x : Nat) (n : Int) (u : Nat) : IOp := ⟨some d, .binOp op t (.tmp x) (.const (.int .i64 n)) u, none⟩
@[reducible] def nt (d t s : Nat) : IOp := ⟨some d, .unOp .not t (.tmp s), none⟩
@[reducible] def nc (d s : Nat) : IOp := ⟨some d, .nilCheck (.tmp s), none⟩
@[reducible] def gT (o : IOp) (g : Nat) : IOp := ⟨o.dst, o.op, some (g, true)⟩
@[reducible] def gF (o : IOp) (g : Nat) : IOp := ⟨o.dst, o.op, some (g, false)⟩
attribute [go_sem] mv mvk sg sgk sgb ld st fa ex pkf pkt ia bx al ln k0 k1 k2 k3 bo bk nt nc gT gF
end Go.Proofs.YtealblliddhgiaaGreat
