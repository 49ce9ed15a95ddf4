/-
  A PART OF THE PROOF. Conditions: none.
-/
import Derived.Test.YtealblliddhgiaaGreatSb7
set_option linter.unusedSimpArgs false
set_option linter.unusedVariables false
namespace Go.Proofs.YtealblliddhgiaaGreat
def okI {α : Type} (c : Bool) (x : α) : Option α := if c = true then some x else none
def one (v : V) : Option Res := some (v, [], [])
def intF (op : BinOp) (k : IntKind) (a b : Int) : Option V :=
 match op with
 | .add => some (.d (.int k (k.wrap (a + b))))
 | .sub => some (.d (.int k (k.wrap (a - b))))
 | .mul => some (.d (.int k (k.wrap (a * b))))
 | .quo => if b = 0 then none else some (.d (.int k (k.wrap (a.tdiv b))))
 | .rem => if b = 0 then none else some (.d (.int k (a.tmod b)))
 | .and => (bitsI .and k a b).map fun r => .d (.int k r)
 | .or => (bitsI .or k a b).map fun r => .d (.int k r)
 | .xor => (bitsI .xor k a b).map fun r => .d (.int k r)
 | .andNot => (bitsI .andNot k a b).map fun r => .d (.int k r)
 | .eql => some (.d (.bool (a == b))) | .neq => some (.d (.bool (a != b))) | .lss => some (.d (.bool (decide (a < b)))) | .leq => some (.d (.bool (decide (a <= b))))
 | .gtr => some (.d (.bool (decide (b < a)))) | .geq => some (.d (.bool (decide (b <= a))))
 | _ => none
def isBoolT (P : Program) (t : TypeId) : Bool :=
 match P.underlying t with
 | some .bool => true
 | _ => false
def binF (P : Program) (op : BinOp) (t : TypeId) (x y : V) : Option V :=
 match x, y with
 | .d (.int k a), .d (.int k' b) => if k = k' then intF op k a b else none
 | .d (.bool a), .d (.bool b) => match op with
   | .eql => okI (isBoolT P t) (.d (.bool (a == b)))
   | .neq => okI (isBoolT P t) (.d (.bool (a != b)))
   | _ => none
 | .d (.str a), .d (.str b) => match op with
   | .eql => some (.d (.bool (a == b)))
   | .neq => some (.d (.bool (a != b)))
   | _ => none
 | _, _ => none
def unF (op : UnOp) (x : V) : Option V :=
 match op, x with
 | .neg, .d (.int k n) => some (.d (.int k (k.wrap (-n))))
 | .not, .d (.bool b) => some (.d (.bool !b))
 | _, _ => none
def pickF (c a b : V) : Option V :=
 match c with
 | .d (.bool true) => some a
 | .d (.bool false) => some b
 | _ => none
def listF (o : Nat -> Obj') (x : V) : Option (List D × List Nat) :=
 match x with
 | .d (.sl es) => some (es, [])
 | .nils => some ([], [])
 | .csl es => some (es, [])
 | .osl id ep => match o id with
   | .arr ep' _ _ es => if ep = ep' then some (es, [id]) else none
   | .fro ep' es => if ep = ep' then some (es, [id]) else none
   | _ => none
 | _ => none
def lenF (P : Program) (t : TypeId) (o : Nat -> Obj') (x : V) : Option Res :=
 match P.underlying t with
 | some (.slice _) => match listF o x with
   | some (es, rd) => some (.d (.int .i64 es.length), [], rd)
   | none => none
 | some .string => match x with
   | .d (.str s) => one (.d (.int .i64 s.length))
   | _ => none
 | some (.array n _) => one (.d (.int .i64 n))
 | _ => none
def elemF (P : Program) (e : TypeId) (es : List D) (i : Int) (rd : List Nat) : Option Res :=
 if 0 <= i then match es[i.toNat]? with
  | some y => okI (y.cells.length == P.cellsOf e && 0 < P.cellsOf e) (.pp y.cells 0, [], rd)
  | none => none
 else none
def stepF (o : Nat -> Obj') (x : V) (q : Nat) : Option V :=
 match x with
 | .ptr id off => okI (o id).isRow (.ptr id (off + q))
 | .pp cs off => some (.pp cs (off + q))
 | .pe id ep j sz off => if (o id).epoch = some ep then some (.pe id ep j sz (off + q)) else none
 | _ => none
def indexAddrF (P : Program) (o : Nat -> Obj') (t : TypeId) (x ix : V) : Option Res :=
 match ix with
 | .d (.int _ i) => match sliceT P t with
   | some e => match x with
     | .d (.sl es) => elemF P e es i []
     | .csl es => elemF P e es i []
     | .osl id ep => match o id with
       | .arr ep' _ sz es => if ep = ep' /\ 0 <= i /\ i.toNat < es.length /\ sz = P.cellsOf e /\ 0 < P.cellsOf e then some (.pe id ep i.toNat sz 0, [], [id]) else none
       | .fro ep' es => if ep = ep' then elemF P e es i [id] else none
       | _ => none
     | _ => none
   | none => match arrT P t with
     | some (n, e) => if 0 <= i /\ i < n /\ (P.info? e).isSome = true then (stepF o x (i.toNat * P.cellsOf e)).bind one else none
     | none => none
 | _ => none
def fieldAddrF (P : Program) (o : Nat -> Obj') (t : TypeId) (x : V) (f : Nat) : Option V :=
 match fieldT P t f with
 | some q => stepF o x q
 | none => none
def loadF (P : Program) (o : Nat -> Obj') (t : TypeId) (x : V) : Option Res :=
 match x with
 | .ptr id off => match o id with
   | .row cs => match rowGet P t cs off with
     | some v => some (v, [], [id])
     | none => none
   | _ => none
 | .pp cs off => match rowGet P t (cs.map .d) off with
   | some v => some (v, [], [])
   | none => none
 | .pe id ep i sz off => match o id with
   | .arr ep' _ sz' es => if ep = ep' /\ sz = sz' then match es[i]? with
    | some e => match rowGet P t (e.cells.map .d) off with
      | some v => some (v, [], [id])
      | none => none
    | none => none
     else none
   | _ => none
 | _ => none
def storeF (P : Program) (o : Nat -> Obj') (t : TypeId) (x v : V) : Option Res :=
 match x with
 | .ptr id off => match o id with
   | .row cs => match rowSet P t cs off v with
     | some cs' => some (.tup [], [(id, .row cs')], [id])
     | none => none
   | _ => none
 | .pe id ep i sz' off => match o id with
   | .arr ep' ty sz es => if ep = ep' /\ sz' = sz then match es[i]?, toD o v with
    | some e, some y => if y.cells.length = P.cellsOf t /\ 0 < y.cells.length /\ v.ids.all (· != id) = true then match e.put off y.cells with
     | some e' => some (.tup [], frz o v.ids ++ [(id, .arr ep ty sz (es.set i e'))], id :: v.ids)
     | none => none
      else none
    | _, _ => none
     else none
   | _ => none
 | _ => none
def buildSliceF (P : Program) (o : Nat -> Obj') (fr : Nat) (t : TypeId) (len : Nat) (parts : List (Nat × V)) : Option Res :=
 match sliceT P t with
 | some e => if len = 0 /\ parts.isEmpty = true /\ 0 < P.cellsOf e then some (.osl fr 0, [(fr, .arr 0 e (P.cellsOf e) [])], []) else if parts.map (·.1) = List.range len /\ (zeroT P e).isSome = true /\ 0 < len /\ 0 < P.cellsOf e /\ len * P.cellsOf e <= 2 ^ 24 then match toDs o (parts.map (·.2)) with
  | some ds => if ds.all (fun x => x.cells.length == P.cellsOf e) = true then some (.osl fr 0, frz o (V.idss (parts.map (·.2))) ++ [(fr, .arr 0 e (P.cellsOf e) ds)], V.idss (parts.map (·.2))) else none
  | none => none
   else none
 | none => none
def makeSliceF (P : Program) (fr : Nat) (t : TypeId) (l c : V) : Option Res :=
 match sliceT P t with
 | some e => match l, c with
   | .d (.int _ n), .d (.int _ m) => if n = m /\ 0 <= n /\ 0 < P.cellsOf e /\ P.bytesOf e * n.toNat <= 2 ^ 47 /\ n.toNat <= 2 ^ 47 then match zeroD P e with
    | some x => some (.osl fr 0, [(fr, .arr 0 e (P.cellsOf e) (List.replicate n.toNat x))], [])
    | none => none
     else none
   | _, _ => none
 | none => none
def appendF (P : Program) (o : Nat -> Obj') (fr : Nat) (ts : Array TypeId) (x y : V) : Option Res :=
 match ts.toList with
 | [t, t'] => if t = t' then match sliceT P t, listF o y with
  | some e, some (new, rd) => if 0 < P.cellsOf e /\ (zeroT P e).isSome = true /\ new.all (fun z => z.cells.length == P.cellsOf e) = true then match x with
   | .nils => if new.length <= 2 ^ 47 /\ new.length * P.bytesOf e <= 2 ^ 47 then some (.osl fr 0, [(fr, .arr 0 e (P.cellsOf e) new)], rd) else none
   | .csl es => if es.all (fun z => z.cells.length == P.cellsOf e) = true then (if new = [] then some (.csl es, [], rd) else if es.length + new.length <= 2 ^ 40 /\ (es.length + new.length) * P.bytesOf e <= 2 ^ 40 then some (.osl fr 0, [(fr, .arr 0 e (P.cellsOf e) (es ++ new))], rd) else none) else none
   | .osl id ep => match o id with
     | .arr ep' ty sz es => if ep = ep' /\ ty = e /\ sz = P.cellsOf e /\ es.length + new.length <= 2 ^ 47 /\ (es.length + new.length) * P.bytesOf e <= 2 ^ 47 then
      some (.osl id (ep + 1), [(id, .arr (ep + 1) ty sz (es ++ new))], id :: rd) else none
     | _ => none
   | _ => none
    else none
  | _, _ => none
   else none
 | _ => none
def minmaxF (isMax : Bool) (x y : V) : Option V :=
 match x, y with
 | .d (.int k a), .d (.int k' b) => if k = k' then some (.d (.int k (if isMax then (if b > a then b else a) else (if b < a then b else a)))) else none
 | _, _ => none
def oneM (x : Option V) : Option Res := match x with | some v => one v | none => none
def builtinF (P : Program) (s : S) (fr : Nat) (b : Builtin) (args : List Operand) (ts : Array TypeId) : Option Res :=
 match b, args with
 | .len, [x] => match ts.toList with
   | [t] => lenF P t s.o (s.ev x)
   | _ => none
 | .append, [x, y] => appendF P s.o fr ts (s.ev x) (s.ev y)
 | .max, [x, y] => oneM (minmaxF true (s.ev x) (s.ev y))
 | .min, [x, y] => oneM (minmaxF false (s.ev x) (s.ev y))
 | .max, [x, y, z] => oneM (max3F (s.ev x) (s.ev y) (s.ev z))
 | .copy, [x, y] => copyF P s.o ts (s.ev x) (s.ev y)
 | .delete, [x, y] => match ts.toList.head? with
   | some t => deleteF P s.o t (s.ev x) (s.ev y)
   | none => none
 | _, _ => none
def buildF (P : Program) (t : TypeId) (parts : List (Nat × V)) : Option V :=
 match zeroT P t, placesT P t with
 | some z, some pl => match fillV pl z parts with
   | some cs => some (mkAgg cs)
   | none => none
 | _, _ => none
def nilCheckF (o : Nat -> Obj') (x : V) : Option V :=
 match x with
 | .ptr id off => okI (o id).isRow (.ptr id off)
 | .pp cs off => some (.pp cs off)
 | .func (.func f) first cap => some (.func (.func f) first cap)
 | _ => none
def plainIface (P : Program) (t : TypeId) : Bool :=
 match P.underlying t with
 | some (.interface _) => false
 | some _ => true
 | none => false
def ifaceF (P : Program) (t : TypeId) (x : V) : Option V :=
 okI (plainIface P t) (match x with
  | .d y => .d (.iface t y)
  | v => .iface t v)
def bin2F (P : Program) (o : Nat -> Obj') (op : BinOp) (t : TypeId) (cst : Bool) (x y : V) : Option Res :=
 match binF P op t x y with
 | some v => one v
 | none => cmpF P o op t cst x y
def un2F (op : UnOp) (x : V) : Option V :=
 match op, x with
 | .not, .anyb => some .anyb
 | op, x => unF op x
def sopF (P : Program) (s : S) (fr : Nat) (op : Op) : Option Res :=
 match op with
 | .move x => one (s.ev x)
 | .assign x => one (s.ev x)
 | .pick c a b => oneM (pickF (s.ev c) (s.ev a) (s.ev b))
 | .alloc t => match zeroT P t with
   | some cs => some (.ptr fr 0, [(fr, .row cs)], [])
   | none => none
 | .box _ x => match (s.ev x).cells with
   | some cs => some (.ptr fr 0, [(fr, .row cs)], [])
   | none => none
 | .build t parts => oneM (buildF P t (parts.toList.map fun p => (p.1, s.ev p.2)))
 | .buildSlice t len parts => buildSliceF P s.o fr t len (parts.toList.map fun p => (p.1, s.ev p.2))
 | .load t x => loadF P s.o t (s.ev x)
 | .store t x v => storeF P s.o t (s.ev x) (s.ev v)
 | .nilCheck x => oneM (nilCheckF s.o (s.ev x))
 | .binOp op t x y _ => bin2F P s.o op t (isConst x || isConst y) (s.ev x) (s.ev y)
 | .unOp op _ x => oneM (un2F op (s.ev x))
 | .convert u t x => match P.underlying u, intT P t, s.ev x with
   | some _, some k, .d (.int _ n) => one (.d (.int k (k.wrap n)))
   | _, _, _ => none
 | .makeInterface t x => oneM (ifaceF P t (s.ev x))
 | .makeFunc fn first cap => one (.func fn (first.toList.map s.ev) (cap.toList.map s.ev))
 | .makeSlice t l c => makeSliceF P fr t (s.ev l) (s.ev c)
 | .fieldAddr t x f => oneM (fieldAddrF P s.o t (s.ev x) f)
 | .indexAddr t x i => indexAddrF P s.o t (s.ev x) (s.ev i)
 | .extract x i => match s.ev x with
   | .tup vs => match vs[i]? with
     | some v => one v
     | none => none
   | _ => none
 | .call c => match c.callee with
   | .builtin b => builtinF P s fr b c.args.toList c.argTypes
   | _ => none
 | .slice t x lo hi mx => sliceF P s.o t (s.ev x) (lo.map s.ev) (hi.map s.ev) (mx.map s.ev)
 | .field t x f => oneM (fieldF P t (s.ev x) f)
 | .index t x i => oneM (indexF P t (s.ev x) (s.ev i))
 | .typeAssert x _ t ok => oneM (assertF P t ok (s.ev x))
 | .makeMap t none => makeMapF P fr t
 | .lookup t m k ok => lookupF P s.o t (s.ev m) (s.ev k) ok
 | .mapUpdate t m k v => mapUpdF P s.o t (s.ev m) (s.ev k) (s.ev v)
 | .insert t m k v => mapUpdF P s.o t (s.ev m) (s.ev k) (s.ev v)
 | .range t x => rangeF P s.o fr t (s.ev x)
 | .next x str => nextF s.o (s.ev x) str
 | .entry x => entryF s.o (s.ev x)
 | _ => none
section
variable {P : Program} {s : S} {fr : Nat} {v : V} {Δ : List (Nat × Obj')} {rd : List Nat} {o : Nat -> Obj'} {K : V -> List (Nat × Obj') -> List Nat -> Prop}
theorem okI_eq {α : Type} {c : Bool} {x y : α} (h : okI c x = some y) : c = true /\ x = y := by
 unfold okI at h; split at h
 ·injection h with h; exact ⟨by assumption, h⟩
 ·cases h
theorem one_eq {x : V} {r : Res} (h : one x = some r) : r = (x, [], []) := by unfold one at h; injection h with h; exact h.symm
theorem oneM_eq {x : Option V} {r : Res} (h : oneM x = some r) : ∃ v, x = some v /\ r = (v, [], []) := by
 unfold oneM at h; split at h
 ·exact ⟨_, rfl, one_eq h⟩
 ·cases h
theorem listF_spec {x : V} {es : List D} {rd : List Nat} (h : listF o x = some (es, rd)) : listV o x = some es /\ rd = x.ids := by
 unfold listF at h
 split at h
 ·simp at h; obtain ⟨rfl, rfl⟩ := h; exact ⟨rfl, rfl⟩
 ·simp at h; obtain ⟨rfl, rfl⟩ := h; exact ⟨rfl, rfl⟩
 ·simp at h; obtain ⟨rfl, rfl⟩ := h; exact ⟨rfl, rfl⟩
 ·split at h
  ·rename_i ho
   split at h
   ·rename_i e; simp at h; obtain ⟨rfl, rfl⟩ := h; exact ⟨by simp [listV, toD, ho, e], rfl⟩
   ·cases h
  ·rename_i ho
   split at h
   ·rename_i e; simp at h; obtain ⟨rfl, rfl⟩ := h; exact ⟨by simp [listV, toD, ho, e], rfl⟩
   ·cases h
  ·cases h
 ·cases h
theorem intF_spec {op : BinOp} {k : IntKind} {a b : Int} {v : V} (h : intF op k a b = some v) {K : V -> Prop} (hK : K v) : intV op k a b K := by
 cases op <;> simp only [intF] at h <;> simp only [intV]
 case quo => split at h
             ·cases h
             ·injection h with h; subst h; exact ⟨by assumption, hK⟩
 case rem => split at h
             ·cases h
             ·injection h with h; subst h; exact ⟨by assumption, hK⟩
 case and => simp only [Option.map_eq_some_iff] at h; obtain ⟨r, h1, rfl⟩ := h; exact ⟨r, h1, hK⟩
 case or => simp only [Option.map_eq_some_iff] at h; obtain ⟨r, h1, rfl⟩ := h; exact ⟨r, h1, hK⟩
 case xor => simp only [Option.map_eq_some_iff] at h; obtain ⟨r, h1, rfl⟩ := h; exact ⟨r, h1, hK⟩
 case andNot => simp only [Option.map_eq_some_iff] at h; obtain ⟨r, h1, rfl⟩ := h; exact ⟨r, h1, hK⟩
 case shl => cases h
 case shr => cases h
 case eql => injection h with h; subst h; exact ⟨_, rfl, hK⟩
 case neq => injection h with h; subst h; exact ⟨_, rfl, hK⟩
 case lss => injection h with h; subst h; exact ⟨_, rfl, hK⟩
 case leq => injection h with h; subst h; exact ⟨_, rfl, hK⟩
 case gtr => injection h with h; subst h; exact ⟨_, rfl, hK⟩
 case geq => injection h with h; subst h; exact ⟨_, rfl, hK⟩
 all_goals (injection h with h; subst h; exact hK)
theorem binF_spec {op : BinOp} {t : TypeId} {x y v : V} (h : binF P op t x y = some v) {K : V -> Prop} (hK : K v) : binV P op t x y K := by
 unfold binF at h
 unfold binV
 split at h
 ·split at h
  ·exact ⟨by assumption, intF_spec h hK⟩
  ·cases h
 ·have hb : isBoolT P t = true -> P.underlying t = some .bool := by
   unfold isBoolT; intro h; split at h
   ·assumption
   ·cases h
  split at h
  ·obtain ⟨h1, rfl⟩ := okI_eq h; exact ⟨hb h1, hK⟩
  ·obtain ⟨h1, rfl⟩ := okI_eq h; exact ⟨hb h1, hK⟩
  ·cases h
 ·split at h
  ·injection h with h; subst h; exact hK
  ·injection h with h; subst h; exact hK
  ·cases h
 ·cases h
theorem pickF_spec {c a b v : V} (h : pickF c a b = some v) {K : V -> Prop} (hK : K v) : pickV c a b K := by
 unfold pickF at h
 unfold pickV
 split at h
 ·injection h with h; subst h; exact ⟨fun _ => hK, (fun h => by cases h)⟩
 ·injection h with h; subst h; exact ⟨(fun h => by cases h), fun _ => hK⟩
 ·cases h
theorem stepF_spec {x y : V} {q : Nat} (h : stepF o x q = some y) : (∃ id off, x = .ptr id off /\ (o id).isRow = true /\ y = .ptr id (off + q)) \/ (∃ cs off, x = .pp cs off /\ y = .pp cs (off + q)) \/
 (∃ id ep j sz off, x = .pe id ep j sz off /\ (o id).epoch = some ep /\ y = .pe id ep j sz (off + q)) := by
 unfold stepF at h
 split at h
 ·obtain ⟨h1, rfl⟩ := okI_eq h; exact .inl ⟨_, _, rfl, h1, rfl⟩
 ·injection h with h; exact .inr (.inl ⟨_, _, rfl, h.symm⟩)
 ·split at h
  ·injection h with h; exact .inr (.inr ⟨_, _, _, _, _, rfl, by assumption, h.symm⟩)
  ·cases h
 ·cases h
theorem elemF_spec {e : TypeId} {es : List D} {i : Int} {rd : List Nat} {r : Res} (h : elemF P e es i rd = some r) :
 0 <= i /\ ∃ y, es[i.toNat]? = some y /\ y.cells.length = P.cellsOf e /\ 0 < P.cellsOf e /\ r = (.pp y.cells 0, [], rd) := by
 unfold elemF at h
 split at h
 ·rename_i h0
  split at h
  ·rename_i y hy
   obtain ⟨h1, rfl⟩ := okI_eq h
   simp only [Bool.and_eq_true, beq_iff_eq, decide_eq_true_eq] at h1
   exact ⟨h0, y, hy, h1.1, h1.2, rfl⟩
  ·cases h
 ·cases h
theorem indexAddrF_spec {t : TypeId} {x ix : V} (h : indexAddrF P o t x ix = some (v, Δ, rd)) (hK : K v Δ rd) : indexAddrV P o t x ix fun v rd => K v [] rd := by
 unfold indexAddrF at h
 unfold indexAddrV
 split at h
 ·simp only
  split at h
  ·rename_i e ht
   simp only [ht]
   split at h
   ·obtain ⟨h0, y, h1, h2, h3, h4⟩ := elemF_spec h
    simp only [Prod.mk.injEq] at h4; obtain ⟨rfl, rfl, rfl⟩ := h4
    exact ⟨h0, y, h1, h2, h3, hK⟩
   ·obtain ⟨h0, y, h1, h2, h3, h4⟩ := elemF_spec h
    simp only [Prod.mk.injEq] at h4; obtain ⟨rfl, rfl, rfl⟩ := h4
    exact ⟨h0, y, h1, h2, h3, hK⟩
   ·split at h
    ·rename_i ho
     split at h
     ·rename_i hc
      simp only [Option.some.injEq, Prod.mk.injEq] at h; obtain ⟨rfl, rfl, rfl⟩ := h
      simp only [ho]
      exact ⟨hc.1, hc.2.1, hc.2.2.1, hc.2.2.2.1, hc.2.2.2.2, hK⟩
     ·cases h
    ·rename_i ho
     split at h
     ·rename_i hc
      obtain ⟨h0, y, h1, h2, h3, h4⟩ := elemF_spec h
      simp only [Prod.mk.injEq] at h4; obtain ⟨rfl, rfl, rfl⟩ := h4
      simp only [ho]
      exact ⟨hc, h0, y, h1, h2, h3, hK⟩
     ·cases h
    ·cases h
   ·cases h
  ·rename_i ht
   simp only [ht]
   split at h
   ·rename_i n e ha
    simp only [ha]
    split at h
    ·rename_i hc
     simp only [Option.bind_eq_some_iff] at h
     obtain ⟨y, hy, h1⟩ := h
     have h1 := one_eq h1
     simp only [Prod.mk.injEq] at h1; obtain ⟨rfl, rfl, rfl⟩ := h1
     refine ⟨hc.1, hc.2.1, hc.2.2, ?_⟩
     rcases stepF_spec hy with ⟨_, _, rfl, h2, rfl⟩ | ⟨_, _, rfl, rfl⟩ | ⟨_, _, _, _, _, rfl, h2, rfl⟩
     ·exact ⟨h2, hK⟩
     ·exact hK
     ·exact ⟨h2, hK⟩
    ·cases h
   ·cases h
 ·cases h
theorem fieldAddrF_spec {t : TypeId} {x y : V} {f : Nat} (h : fieldAddrF P o t x f = some y) {K : V -> Prop} (hK : K y) : fieldAddrV P o t x f K := by
 unfold fieldAddrF at h
 unfold fieldAddrV
 split at h
 ·rename_i q hq
  simp only [hq]
  rcases stepF_spec h with ⟨_, _, rfl, h2, rfl⟩ | ⟨_, _, rfl, rfl⟩ | ⟨_, _, _, _, _, rfl, h2, rfl⟩
  ·exact ⟨h2, hK⟩
  ·exact hK
  ·exact ⟨h2, hK⟩
 ·cases h
theorem lenF_spec {t : TypeId} {x : V} (h : lenF P t o x = some (v, Δ, rd)) (hK : K v Δ rd) : lenV P t o x fun v rd => K v [] rd := by
 unfold lenF at h
 unfold lenV
 split at h
 ·rename_i e hu
  simp only [hu]
  split at h
  ·rename_i es rd' hl
   simp only [Option.some.injEq, Prod.mk.injEq] at h; obtain ⟨rfl, rfl, rfl⟩ := h
   unfold listF at hl
   split at hl
   ·simp at hl; obtain ⟨rfl, rfl⟩ := hl; exact hK
   ·simp at hl; obtain ⟨rfl, rfl⟩ := hl; exact hK
   ·simp at hl; obtain ⟨rfl, rfl⟩ := hl; exact hK
   ·split at hl
    ·rename_i ho
     split at hl
     ·rename_i hc; simp at hl; obtain ⟨rfl, rfl⟩ := hl; simp only [ho]; exact ⟨hc, hK⟩
     ·cases hl
    ·rename_i ho
     split at hl
     ·rename_i hc; simp at hl; obtain ⟨rfl, rfl⟩ := hl; simp only [ho]; exact ⟨hc, hK⟩
     ·cases hl
    ·cases hl
   ·cases hl
  ·cases h
 ·rename_i hu
  simp only [hu]
  split at h
  ·have h1 := one_eq h; simp only [Prod.mk.injEq] at h1; obtain ⟨rfl, rfl, rfl⟩ := h1; exact hK
  ·cases h
 ·rename_i hu
  simp only [hu]
  have h1 := one_eq h; simp only [Prod.mk.injEq] at h1; obtain ⟨rfl, rfl, rfl⟩ := h1; exact hK
 ·cases h
theorem loadF_spec {t : TypeId} {x : V} (h : loadF P o t x = some (v, Δ, rd)) (hK : K v Δ rd) : loadV P o t x fun v rd => K v [] rd := by
 unfold loadF at h
 unfold loadV
 split at h
 ·split at h
  ·rename_i ho
   split at h
   ·rename_i hg
    simp only [Option.some.injEq, Prod.mk.injEq] at h; obtain ⟨rfl, rfl, rfl⟩ := h
    simp only [ho]; exact ⟨_, hg, hK⟩
   ·cases h
  ·cases h
 ·split at h
  ·rename_i hg
   simp only [Option.some.injEq, Prod.mk.injEq] at h; obtain ⟨rfl, rfl, rfl⟩ := h
   exact ⟨_, hg, hK⟩
  ·cases h
 ·split at h
  ·rename_i ho
   split at h
   ·rename_i hc
    split at h
    ·rename_i e he
     split at h
     ·rename_i hg
      simp only [Option.some.injEq, Prod.mk.injEq] at h; obtain ⟨rfl, rfl, rfl⟩ := h
      simp only [ho]; exact ⟨hc.1, hc.2, e, he, _, hg, hK⟩
     ·cases h
    ·cases h
   ·cases h
  ·cases h
 ·cases h
theorem storeF_spec {t : TypeId} {x y : V} (h : storeF P o t x y = some (v, Δ, rd)) (hK : K v Δ rd) : storeV P o t x y fun Δ rd => K (.tup []) Δ rd := by
 unfold storeF at h
 unfold storeV
 split at h
 ·split at h
  ·rename_i ho
   split at h
   ·rename_i hg
    simp only [Option.some.injEq, Prod.mk.injEq] at h; obtain ⟨rfl, rfl, rfl⟩ := h
    simp only [ho]; exact ⟨_, hg, hK⟩
   ·cases h
  ·cases h
 ·split at h
  ·rename_i ho
   split at h
   ·rename_i hc
    split at h
    ·rename_i e z he hz
     split at h
     ·rename_i hl
      split at h
      ·rename_i e' hp
       simp only [Option.some.injEq, Prod.mk.injEq] at h; obtain ⟨rfl, rfl, rfl⟩ := h
       simp only [ho]
       exact ⟨hc.1, hc.2, e, he, z, hz, hl.1, hl.2.1, hl.2.2, e', hp, hK⟩
      ·cases h
     ·cases h
    ·cases h
   ·cases h
  ·cases h
 ·cases h
theorem buildSliceF_spec {t : TypeId} {len : Nat} {parts : List (Nat × V)} (h : buildSliceF P o fr t len parts = some (v, Δ, rd)) (hK : K v Δ rd) : buildSliceV P o fr t len parts K := by
 unfold buildSliceF at h
 unfold buildSliceV
 split at h
 ·rename_i e ht
  simp only [ht]
  split at h
  ·rename_i hc
   simp only [Option.some.injEq, Prod.mk.injEq] at h; obtain ⟨rfl, rfl, rfl⟩ := h
   exact .inl ⟨hc.1, by simpa using hc.2.1, hc.2.2, hK⟩
  split at h
  ·rename_i hc
   refine .inr ?_
   split at h
   ·rename_i ds hd
    split at h
    ·rename_i hw
     simp only [Option.some.injEq, Prod.mk.injEq] at h; obtain ⟨rfl, rfl, rfl⟩ := h
     refine ⟨hc.1, hc.2.1, hc.2.2.1, hc.2.2.2.1, hc.2.2.2.2, ds, hd, fun x hx => ?_, hK⟩
     simpa using List.all_eq_true.1 hw x hx
    ·cases h
   ·cases h
  ·cases h
 ·cases h
theorem makeSliceF_spec {t : TypeId} {l c : V} (h : makeSliceF P fr t l c = some (v, Δ, rd)) (hK : K v Δ rd) : makeSliceV P fr t l c fun v Δ => K v Δ [] := by
 unfold makeSliceF at h
 unfold makeSliceV
 split at h
 ·rename_i e ht
  split at h
  ·split at h
   ·rename_i hc
    split at h
    ·rename_i x hx
     simp only [Option.some.injEq, Prod.mk.injEq] at h; obtain ⟨rfl, rfl, rfl⟩ := h
     simp only [ht]
     exact ⟨hc.1, hc.2.1, hc.2.2.1, hc.2.2.2.1, hc.2.2.2.2, x, hx, hK⟩
    ·cases h
   ·cases h
  ·cases h
 ·cases h
theorem appendF_spec {ts : Array TypeId} {x y : V} (h : appendF P o fr ts x y = some (v, Δ, rd)) (hK : K v Δ rd) : appendV P o fr ts x y K := by
 unfold appendF at h
 unfold appendV
 split at h
 ·rename_i t t' hts
  simp only [hts]
  split at h
  ·rename_i htt
   refine ⟨htt, ?_⟩
   split at h
   ·rename_i e new rd' ht hl
    obtain ⟨hl1, rfl⟩ := listF_spec hl
    simp only [ht]
    split at h
    ·rename_i hc
     refine ⟨new, hl1, hc.1, hc.2.1, fun z hz => by simpa using List.all_eq_true.1 hc.2.2 z hz, ?_⟩
     split at h
     ·split at h
      ·rename_i hc2
       simp only [Option.some.injEq, Prod.mk.injEq] at h; obtain ⟨rfl, rfl, rfl⟩ := h
       exact ⟨hc2.1, hc2.2, hK⟩
      ·cases h
     ·split at h
      ·rename_i hes
       refine ⟨fun z hz => by simpa using List.all_eq_true.1 hes z hz, ?_⟩
       split at h
       ·rename_i hn
        simp only [Option.some.injEq, Prod.mk.injEq] at h; obtain ⟨rfl, rfl, rfl⟩ := h
        rw [if_pos hn]; exact hK
       ·rename_i hn
        split at h
        ·rename_i hc2
         simp only [Option.some.injEq, Prod.mk.injEq] at h; obtain ⟨rfl, rfl, rfl⟩ := h
         rw [if_neg hn]; exact ⟨hc2.1, hc2.2, hK⟩
        ·cases h
      ·cases h
     ·split at h
      ·rename_i ho
       split at h
       ·rename_i hc2
        simp only [Option.some.injEq, Prod.mk.injEq] at h; obtain ⟨rfl, rfl, rfl⟩ := h
        simp only [ho]
        exact ⟨hc2.1, hc2.2.1, hc2.2.2.1, hc2.2.2.2.1, hc2.2.2.2.2, hK⟩
       ·cases h
      ·cases h
     ·cases h
    ·cases h
   ·cases h
  ·cases h
 ·cases h
theorem nilCheckF_spec {x y : V} (h : nilCheckF o x = some y) {K : V -> Prop} (hK : K y) : nilCheckV o x K := by
 unfold nilCheckF at h
 unfold nilCheckV
 split at h
 ·obtain ⟨h2, rfl⟩ := okI_eq h; exact ⟨h2, hK⟩
 ·injection h with h; subst h; exact hK
 ·injection h with h; subst h; exact hK
 ·cases h
theorem unF_spec {op : UnOp} {x y : V} (h : unF op x = some y) {K : V -> Prop} (hK : K y) : unV op x K := by
 unfold unF at h
 unfold unV
 split at h
 ·injection h with h; subst h; simp only; rw [Int.zero_sub]; exact hK
 ·injection h with h; subst h; exact hK
 ·cases h
theorem minmaxF_spec {m : Bool} {x y v : V} (h : minmaxF m x y = some v) {K : V -> Prop} (hK : K v) : minmaxV m [x, y] K := by
 unfold minmaxF at h
 unfold minmaxV
 split at h
 ·split at h
  ·injection h with h; subst h; exact ⟨by assumption, hK⟩
  ·cases h
 ·cases h
theorem sopF_sop {op : Op} (h : sopF P s fr op = some (v, Δ, rd)) (hK : K v Δ rd) : sop P s fr op K := by
 cases op <;> simp only [sopF] at h <;> simp only [sop] <;> try (cases h; done)
 case move x => have h := one_eq h; simp only [Prod.mk.injEq] at h; obtain ⟨rfl, rfl, rfl⟩ := h; exact hK
 case assign x => have h := one_eq h; simp only [Prod.mk.injEq] at h; obtain ⟨rfl, rfl, rfl⟩ := h; exact hK
 case pick c a b =>
  obtain ⟨x, h1, h⟩ := oneM_eq h; simp only [Prod.mk.injEq] at h; obtain ⟨rfl, rfl, rfl⟩ := h
  exact pickF_spec h1 hK
 case alloc t =>
  split at h
  ·rename_i cs hz; simp only [Option.some.injEq, Prod.mk.injEq] at h; obtain ⟨rfl, rfl, rfl⟩ := h; exact ⟨cs, hz, hK⟩
  ·cases h
 case box t x =>
  split at h
  ·rename_i cs hz; simp only [Option.some.injEq, Prod.mk.injEq] at h; obtain ⟨rfl, rfl, rfl⟩ := h; exact ⟨cs, hz, hK⟩
  ·cases h
 case build t parts =>
  obtain ⟨x, h1, h⟩ := oneM_eq h; simp only [Prod.mk.injEq] at h; obtain ⟨rfl, rfl, rfl⟩ := h
  unfold buildF at h1
  split at h1
  ·rename_i z pl hz hp
   split at h1
   ·rename_i cs hc; injection h1 with h1; subst h1; exact ⟨z, pl, cs, hz, hp, hc, hK⟩
   ·cases h1
  ·cases h1
 case buildSlice t len parts => exact buildSliceF_spec h hK
 case load t x => exact loadF_spec h hK
 case store t x y => exact storeF_spec h hK
 case nilCheck x =>
  obtain ⟨y, h1, h⟩ := oneM_eq h; simp only [Prod.mk.injEq] at h; obtain ⟨rfl, rfl, rfl⟩ := h
  exact nilCheckF_spec h1 hK
 case binOp op t x y yt =>
  unfold bin2F at h
  split at h
  ·rename_i z h1
   have h := one_eq h; simp only [Prod.mk.injEq] at h; obtain ⟨rfl, rfl, rfl⟩ := h
   exact .inl (binF_spec h1 hK)
  ·right; simp only [h, resK]; exact hK
 case unOp op t x =>
  obtain ⟨z, h1, h⟩ := oneM_eq h; simp only [Prod.mk.injEq] at h; obtain ⟨rfl, rfl, rfl⟩ := h
  unfold un2F at h1
  split at h1
  ·rename_i hx; injection h1 with h1; subst h1; exact .inr ⟨rfl, hx, hK⟩
  ·exact .inl (unF_spec h1 hK)
 case slice t x lo hi mx => simp only [h, resK]; exact hK
 case field t x f =>
  obtain ⟨z, h1, h⟩ := oneM_eq h; simp only [Prod.mk.injEq] at h; obtain ⟨rfl, rfl, rfl⟩ := h
  simp only [h1, resK, Option.map_some]; exact hK
 case typeAssert x xt t ok =>
  obtain ⟨z, h1, h⟩ := oneM_eq h; simp only [Prod.mk.injEq] at h; obtain ⟨rfl, rfl, rfl⟩ := h
  simp only [h1, resK, Option.map_some]; exact hK
 case makeMap t r =>
  cases r with
  | none => simp only [h, resK]; exact hK
  | some x => cases h
 case lookup t m k ok => simp only [h, resK]; exact hK
 case mapUpdate t m k v => simp only [h, resK]; exact hK
 case insert t m k v => simp only [h, resK]; exact hK
 case index t x i =>
  obtain ⟨z, h1, h⟩ := oneM_eq h; simp only [Prod.mk.injEq] at h; obtain ⟨rfl, rfl, rfl⟩ := h
  simp only [h1, resK, Option.map_some]; exact hK
 case convert u t x =>
  split at h
  ·rename_i d k k' n hu hk hx
   have h := one_eq h; simp only [Prod.mk.injEq] at h; obtain ⟨rfl, rfl, rfl⟩ := h
   exact ⟨by rw [hu]; rfl, by simp only [hk, hx]; exact hK⟩
  ·cases h
 case makeInterface t x =>
  obtain ⟨z, h1, h⟩ := oneM_eq h; simp only [Prod.mk.injEq] at h; obtain ⟨rfl, rfl, rfl⟩ := h
  obtain ⟨h2, rfl⟩ := okI_eq h1
  refine ⟨?_, ?_⟩
  ·unfold plainIface at h2
   cases hd : P.underlying t with
   | none => simp [hd] at h2
   | some d => exact ⟨d, rfl, by cases d <;> simp_all⟩
  ·split
   ·rename_i y hy; simp only [hy] at hK; exact hK
   ·rename_i hy
    split at hK
    ·rename_i y hy'; exact absurd hy' (hy y)
    ·exact hK
 case makeFunc fn first cap => have h := one_eq h; simp only [Prod.mk.injEq] at h; obtain ⟨rfl, rfl, rfl⟩ := h; exact hK
 case makeSlice t l c =>
  exact makeSliceF_spec h hK
 case fieldAddr t x f =>
  obtain ⟨z, h1, h⟩ := oneM_eq h; simp only [Prod.mk.injEq] at h; obtain ⟨rfl, rfl, rfl⟩ := h
  exact fieldAddrF_spec h1 hK
 case indexAddr t x i =>
  exact indexAddrF_spec h hK
 case extract x i =>
  split at h
  ·rename_i vs hv
   split at h
   ·rename_i u hu
    have h := one_eq h; simp only [Prod.mk.injEq] at h; obtain ⟨rfl, rfl, rfl⟩ := h
    simp only [hv]; exact ⟨_, hu, hK⟩
   ·cases h
  ·cases h
 case call c =>
  obtain ⟨cal, args, ts⟩ := c
  cases cal <;> simp only at h ⊢ <;> try (cases h; done)
  rename_i b
  unfold builtinF at h
  unfold builtinV
  split at h
  ·rename_i x ha
   simp only [ha]
   split at h
   ·rename_i t hts; exact ⟨t, hts, lenF_spec h hK⟩
   ·cases h
  ·rename_i x y ha
   simp only [ha]
   exact appendF_spec h hK
  ·rename_i x y ha
   simp only [ha]
   obtain ⟨z, h1, h⟩ := oneM_eq h; simp only [Prod.mk.injEq] at h; obtain ⟨rfl, rfl, rfl⟩ := h
   exact minmaxF_spec h1 hK
  ·rename_i x y ha
   simp only [ha]
   obtain ⟨z, h1, h⟩ := oneM_eq h; simp only [Prod.mk.injEq] at h; obtain ⟨rfl, rfl, rfl⟩ := h
   exact minmaxF_spec h1 hK
  ·rename_i x y z ha
   simp only [ha]
   obtain ⟨v0, h1, h⟩ := oneM_eq h; simp only [Prod.mk.injEq] at h; obtain ⟨rfl, rfl, rfl⟩ := h
   simp only [h1, resK, Option.map_some]; exact hK
  ·rename_i x y ha
   simp only [ha, h, resK]; exact hK
  ·rename_i x y ha
   simp only [ha]
   split at h
   ·rename_i t ht; exact ⟨t, ht, by simp only [h, resK]; exact hK⟩
   ·cases h
  ·cases h
 case range t x => simp only [h, resK]; exact hK
 case next x str => left; simp only [h, resK]; exact hK
 case entry x => simp only [h, resK]; exact hK
end
end Go.Proofs.YtealblliddhgiaaGreat
namespace Go.Proofs.YtealblliddhgiaaGreat
def callP (P : Program) (g : FuncId) (ds : List D) (o o1 oa : Nat -> Obj') (K : V -> (Nat -> Obj') -> Prop) (X : V -> (Nat -> Obj') -> Prop) : Prop :=
 ∃ out, PCt P g ds out /\ ((match out with | .ret rs => K (retV rs) o1 | .pan x => X (.d x) o1) \/ (out.flat = true /\ match out with | .ret rs => K (retV rs) o | .pan x => X (.d x) o) \/ (out.nomap = true /\ match out with | .ret rs => K (retV rs) oa | .pan x => X (.d x) oa))
def callH (P : Program) (g : FuncId) (args : List V) (o : Nat -> Obj') (nx : Nat) (K : V -> (Nat -> Obj') -> Nat -> Prop) (X : V -> (Nat -> Obj') -> Nat -> Prop) : Prop := heapW P g args o nx K X
theorem heapW.mono {P : Program} {g : FuncId} {args : List V} {o : Nat -> Obj'} {nx : Nat} {K X K' X' : V -> (Nat -> Obj') -> Nat -> Prop} (hK : ∀ v o n, K v o n -> K' v o n) (hX : ∀ v o n, X v o n -> X' v o n) (h : heapW P g args o nx K X) : heapW P g args o nx K' X' :=
 h.imp (CtK.mono hK hX) (CtK.mono hK hX)
@[congr] theorem callP_congr {P : Program} {g g' : FuncId} {ds ds' : List D} {o o1 oa : Nat -> Obj'} {K X} (h : g = g') (h' : ds = ds') : callP P g ds o o1 oa K X = callP P g' ds' o o1 oa K X := by subst h; subst h'; rfl
@[congr] theorem callH_congr {P : Program} {g g' : FuncId} {asz asz' : List V} {o : Nat -> Obj'} {nx : Nat} {K X} (h : g = g') (h' : asz = asz') : callH P g asz o nx K X = callH P g' asz' o nx K X := by subst h; subst h'; rfl
def callA (P : Program) (g : FuncId) (args : List V) (o : Nat -> Obj') (nx : Nat) (K X : V -> (Nat -> Obj') -> Nat -> Prop) : Prop :=
 (∃ ds, toDs o args = some ds /\ callP P g ds o (put o (frz o (V.idss args))) (put o (frzA o (V.idss args))) (fun v o' => K v o' (nx + 1)) (fun v o' => X v o' (nx + 1))) \/ CtK P g args o nx K X
def opI (P : Program) (s : S) (o : IOp) (X : V -> S -> Prop) (K : S -> Prop) : Prop :=
 match o.op with
 | .call c => match c.callee with
   | .value f => match s.ev f with
     | .func (.func g) first cap => match toDs s.o (first ++ c.args.toList.map s.ev ++ cap) with
       | some ds => callP P g ds s.o (put s.o (frz s.o (V.idss (first ++ c.args.toList.map s.ev ++ cap)))) (put s.o (frzA s.o (V.idss (first ++ c.args.toList.map s.ev ++ cap)))) (fun v o' => K ⟨putE s.env o.dst v, o', s.nx + 1⟩) (fun v o' => X v ⟨s.env, o', s.nx + 1⟩) \/
        callH P g (first ++ c.args.toList.map s.ev ++ cap) s.o s.nx (fun v o' nx' => K ⟨putE s.env o.dst v, o', nx'⟩) (fun v o' nx' => X v ⟨s.env, o', nx'⟩)
       | none => callH P g (first ++ c.args.toList.map s.ev ++ cap) s.o s.nx (fun v o' nx' => K ⟨putE s.env o.dst v, o', nx'⟩) (fun v o' nx' => X v ⟨s.env, o', nx'⟩)
     | .yld id => RoundK P id (c.args.toList.map s.ev) s.o s.nx (fun v o' nx' => K ⟨putE s.env o.dst v, o', nx'⟩) (fun v o' nx' => X v ⟨s.env, o', nx'⟩)
     | _ => False
   | .invoke r m => match recvT P m (s.ev r) with
     | some (g, y) => callA P g (y :: c.args.toList.map s.ev) s.o s.nx (fun v o' nx' => K ⟨putE s.env o.dst v, o', nx'⟩) (fun v o' nx' => X v ⟨s.env, o', nx'⟩)
     | none => False
   | _ => match sopF P s s.nx o.op with
     | some (v, Δ, _) => K ⟨putE s.env o.dst v, put s.o Δ, s.nx + 1⟩
     | none => False
 | .panic x => match s.ev x with
   | .d (.iface t y) => X (.d (.iface t y)) s
   | .iface t y => X (.iface t y) s
   | _ => False
 | .next x str => match leftF s.o (s.ev x) with
   | some (id, l) => str = false /\ nextV id l fun v Δ _ => K ⟨putE s.env o.dst v, put s.o Δ, s.nx + 1⟩
   | none => match sopF P s s.nx o.op with
     | some (v, Δ, _) => K ⟨putE s.env o.dst v, put s.o Δ, s.nx + 1⟩
     | none => False
 | op => match sopF P s s.nx op with
   | some (v, Δ, _) => K ⟨putE s.env o.dst v, put s.o Δ, s.nx + 1⟩
   | none => False
def regI (P : Program) (X : V -> S -> Prop) (K : S -> Prop) : List IOp -> S -> Prop
 | [], s => K s
 | o :: l, s => match o.gd with
   | none => opI P s o X (regI P X K l)
   | some (d, want) => match s.env d with
     | .d (.bool b) => if b = want then opI P s o X (regI P X K l) else regI P X K l ⟨putE s.env o.dst (.tup []), s.o, s.nx + 1⟩
     | .tup [] => regI P X K l ⟨putE s.env o.dst (.tup []), s.o, s.nx + 1⟩
     | _ => False
def loopI (b : Nat) (body : (Xit -> S -> Prop) -> S -> Prop) (Q : Xit -> S -> Prop) (s : S) : Prop :=
 ∃ (J : Nat -> S -> Prop), (∃ m s1, SLe b s s1 /\ J m s1) /\ ∀ m s0, J m s0 -> body (fun e s => match e with | .normal => ∃ m' s1, m' < m /\ SLe b s s1 /\ J m' s1 | e => Q e s) s0
@[congr] theorem loopI_congr {b : Nat} {body Q} {s s' : S} (h : s = s') : loopI b body Q s = loopI b body Q s' := by subst h; rfl
def condI (t : Bool) (A B : Prop) : Prop := (t = true -> A) /\ (t = false -> B)
@[congr] theorem condI_congr {t t' : Bool} {A B : Prop} (h : t = t') : condI t A B = condI t' A B := by subst h; rfl
@[simp] theorem condI_true (A B : Prop) : condI true A B = A := by simp [condI]
@[simp] theorem condI_false (A B : Prop) : condI false A B = B := by simp [condI]
section
variable {P : Program} {n b : Nat}
theorem opI_opW {s : S} {o : IOp} {o' : Oper} {X X' : V -> S -> Prop} {K K' : S -> Prop} (hop : o'.op = o.op) (hdst : o'.dst = o.dst) (hd : dstOk n o'.dst) (hK : ∀ s, K s -> K' s) (hX : ∀ v s, X v s -> X' v s) (h : opI P s o X K) : opW P n s o' X' K' := by
 refine ⟨hd, ?_⟩
 rw [hdst, hop]
 unfold opI at h
 have hs : ∀ {op : Op}, (match sopF P s s.nx op with | some (v, Δ, _) => K ⟨putE s.env o.dst v, put s.o Δ, s.nx + 1⟩ | none => False) -> sop P s s.nx op fun v Δ _ => K' ⟨putE s.env o.dst v, put s.o Δ, s.nx + 1⟩ := by
  intro op h
  split at h
  ·rename_i v Δ rd he; exact sopF_sop he (hK _ h)
  ·exact h.elim
 split at h
 ·rename_i c hc
  split at h
  ·rename_i f hcal
   simp only [hc, hcal]
   split at h
   ·rename_i g first cap hf
    unfold callW
    simp only [hf]
    unfold callL
    split at h
    ·rename_i ds hds
     rcases h with ⟨out, hP, h | ⟨hfl, h⟩ | ⟨hfl, h⟩⟩ | h
     ·refine .inl ⟨ds, out, hds, hP, ?_⟩
      cases out <;> first | exact hK _ h | exact hX _ _ h
     ·refine .inr (.inl ⟨ds, out, hds, hP, hfl, ?_⟩)
      cases out <;> first | exact hK _ h | exact hX _ _ h
     ·refine .inr (.inr (.inl ⟨ds, out, hds, hP, hfl, ?_⟩))
      cases out <;> first | exact hK _ h | exact hX _ _ h
     ·exact .inr (.inr (.inr (heapW.mono (fun v o n h => hK _ h) (fun v o n h => hX _ _ h) h)))
    ·exact .inr (.inr (.inr (heapW.mono (fun v o n h => hK _ h) (fun v o n h => hX _ _ h) h)))
   ·rename_i id hf
    unfold callW
    simp only [hf]
    exact RoundK.mono (fun v o n h => hK _ h) (fun v o n h => hX _ _ h) h
   ·exact h.elim
  ·rename_i r m hcal
   simp only [hc, hcal]
   split at h
   ·rename_i g y hr
    simp only [hr]
    unfold callL
    rcases h with ⟨ds, hds, out, hP, h | ⟨hfl, h⟩ | ⟨hfl, h⟩⟩ | h
    ·refine .inl ⟨ds, out, hds, hP, ?_⟩
     cases out <;> first | exact hK _ h | exact hX _ _ h
    ·refine .inr (.inl ⟨ds, out, hds, hP, hfl, ?_⟩)
     cases out <;> first | exact hK _ h | exact hX _ _ h
    ·refine .inr (.inr (.inl ⟨ds, out, hds, hP, hfl, ?_⟩))
     cases out <;> first | exact hK _ h | exact hX _ _ h
    ·exact .inr (.inr (.inr (.inl (CtK.mono (fun v o n h => hK _ h) (fun v o n h => hX _ _ h) h))))
   ·exact h.elim
  ·rename_i hcal hinv
   rw [hc] at h ⊢
   obtain ⟨cal, args, ts⟩ := c
   cases cal with
   | value f => exact absurd rfl (hcal f)
   | invoke r m => exact absurd rfl (hinv r m)
   | _ => exact hs h
 ·rename_i x hx
  simp only [hx]
  split at h
  ·rename_i hv; simp only [hv]; exact hX _ _ h
  ·rename_i hv; simp only [hv]; exact hX _ _ h
  ·exact h.elim
 ·rename_i x str hx
  rw [hx] at h ⊢
  split at h
  ·rename_i id l hl
   exact .inr ⟨h.1, id, l, hl, fun e => hK _ (h.2.1 e), fun i k x e => hK _ (h.2.2 i k x e)⟩
  ·exact hs h
 ·rename_i hc hp hnx
  have h2 := hs h
  cases hh : o.op <;> first
   | exact absurd hh (hc _)
   | exact absurd hh (hp _)
   | exact absurd hh (hnx _ _)
   | (rw [hh] at h2; exact h2)
theorem regI_regW {ops : Array Oper} {X X' : V -> S -> Prop} {K K' : S -> Prop} (hK : ∀ s, K s -> K' s) (hX : ∀ v s, X v s -> X' v s) : ∀ (l : List Oper) (l' : List IOp) (s : S), lowL n ops l = some l' -> regI P X K l' s -> regW P n ops X' K' l s
 | [], l', s, h, hr => by simp [lowL] at h; subst h; exact hK _ hr
 | o :: l, l', s, h, hr => by
   simp only [lowL] at h
   split at h
   ·rename_i x xs hx hxs
    injection h with h; subst h
    unfold lowO at hx
    split at hx
    ·rename_i hd
     have hdst : dstOk n o.dst := by
      unfold dstOkB at hd; unfold dstOk
      split at hd <;> simp_all
     simp only [regW, guardW]
     cases hg : o.guard with
     | none =>
       simp only [hg] at hx
       injection hx with hx; subst hx
       exact opI_opW rfl rfl hdst (fun s hs => regI_regW hK hX l xs s hxs hs) hX hr
     | some p =>
       obtain ⟨j, want⟩ := p
       simp only [hg] at hx
       cases hdj : dstAt ops j with
       | none => simp [hdj] at hx
       | some d =>
         simp only [hdj] at hx
         injection hx with hx; subst hx
         simp only
         simp only [regI] at hr
         split at hr
         ·rename_i t ht
          simp only [hdj, ht]
          split at hr
          ·rename_i e
           exact ⟨fun _ => opI_opW rfl rfl hdst (fun s hs => regI_regW hK hX l xs s hxs hs) hX hr, fun h => absurd e h⟩
          ·rename_i e
           exact ⟨fun h => absurd h e, fun _ => ⟨hdst, regI_regW hK hX l xs _ hxs hr⟩⟩
         ·rename_i ht
          simp only [hdj, ht]
          exact ⟨hdst, regI_regW hK hX l xs _ hxs hr⟩
         ·exact hr.elim
    ·cases hx
   ·cases h
end
end Go.Proofs.YtealblliddhgiaaGreat
namespace Go.Proofs.YtealblliddhgiaaGreat
mutual
def V.refs : V -> List Nat
 | .ptr id _ => [id] | .osl id _ => [id] | .pe id _ _ _ _ => [id] | .rsl id _ _ => [id] | .mp id => [id] | .yld id => [id]
 | .agg cs => V.refss cs
 | .tup cs => V.refss cs
 | .func _ a b => V.refss a ++ V.refss b
 | .iface _ x => x.refs
 | _ => []
def V.refss : List V -> List Nat
 | [] => []
 | v :: vs => v.refs ++ V.refss vs
end
mutual
theorem ids_refs : ∀ (v : V), ∀ id ∈ v.ids, id ∈ v.refs
 | .osl id _, j, h => by simpa [V.ids, V.refs] using h
 | .agg cs, j, h => by simp only [V.ids] at h; simp only [V.refs]; exact idss_refss cs j h
 | .iface _ x, j, h => by simp only [V.ids] at h; simp only [V.refs]; exact ids_refs x j h
 | .mp _, j, h => by simpa [V.ids, V.refs] using h
 | .d _, _, h | .nils, _, h | .tup _, _, h | .ptr _ _, _, h | .pe _ _ _ _ _, _, h | .pp _ _, _, h | .func _ _ _, _, h | .junk, _, h | .csl _, _, h | .rsl _ _ _, _, h | .anyb, _, h | .yld _, _, h => by simp [V.ids] at h
theorem idss_refss : ∀ (vs : List V), ∀ id ∈ V.idss vs, id ∈ V.refss vs
 | [], j, h => by simp [V.idss] at h
 | v :: vs, j, h => by
   simp only [V.idss, V.refss, List.mem_append] at h ⊢
   exact h.imp (ids_refs v j) (idss_refss vs j)
end
mutual
theorem toD_frame {o o' : Nat -> Obj'} : ∀ (v : V), (∀ id ∈ v.refs, o' id = o id) -> toD o' v = toD o v
 | .osl id ep, h => by simp only [toD, h id (by simp [V.refs])]
 | .mp id, h => by simp only [toD, h id (by simp [V.refs])]
 | .agg cs, h => by simp only [toD, toDs_frame cs (by simpa [V.refs] using h)]
 | .iface t x, h => by simp only [toD, toD_frame x (by simpa [V.refs] using h)]
 | .d _, _ | .nils, _ | .tup _, _ | .ptr _ _, _ | .pe _ _ _ _ _, _ | .pp _ _, _ | .func _ _ _, _ | .junk, _ | .csl _, _ | .rsl _ _ _, _ | .anyb, _ | .yld _, _ => by simp only [toD]
theorem toDs_frame {o o' : Nat -> Obj'} : ∀ (vs : List V), (∀ id ∈ V.refss vs, o' id = o id) -> toDs o' vs = toDs o vs
 | [], _ => rfl
 | v :: vs, h => by
   simp only [toDs, toD_frame v (fun id hid => h id (by simp [V.refss, hid])), toDs_frame vs (fun id hid => h id (by simp [V.refss, hid]))]
end
theorem frz_frame {o o' : Nat -> Obj'} {ids : List Nat} (h : ∀ id ∈ ids, o' id = o id) : frz o' ids = frz o ids := by
 rw [frz_eq, frz_eq]
 exact List.map_congr_left fun id hid => by rw [h id hid]
def opR (s : S) (op : Op) : List Nat :=
 match op with
 | .load _ x => (s.ev x).refs
 | .nilCheck x => (s.ev x).refs
 | .fieldAddr _ x _ => (s.ev x).refs
 | .indexAddr _ x _ => (s.ev x).refs
 | .store _ x v => (s.ev x).refs ++ (s.ev v).refs
 | .buildSlice _ _ parts => V.refss (parts.toList.map fun p => s.ev p.2)
 | .binOp _ _ x y _ => (s.ev x).refs ++ (s.ev y).refs
 | .slice _ x _ _ _ => (s.ev x).refs
 | .lookup _ m k _ => (s.ev m).refs ++ (s.ev k).refs
 | .mapUpdate _ m k v => (s.ev m).refs ++ ((s.ev k).refs ++ (s.ev v).refs)
 | .insert _ m k v => (s.ev m).refs ++ ((s.ev k).refs ++ (s.ev v).refs)
 | .range _ x => (s.ev x).refs
 | .next x _ => (s.ev x).refs
 | .entry x => (s.ev x).refs
 | .call c => match c.callee with
   | .builtin _ => V.refss (c.args.toList.map s.ev)
   | .value f => match s.ev f with
     | .func _ first cap => V.refss (first ++ c.args.toList.map s.ev ++ cap)
     | _ => []
   | _ => []
 | _ => []
section
variable {P : Program} {s s' : S} {fr : Nat}
theorem listF_frame {o o' : Nat -> Obj'} (v : V) (h : ∀ id ∈ v.refs, o' id = o id) : listF o' v = listF o v := by
 cases v with
 | osl id ep => simp only [listF, h id (by simp [V.refs])]
 | d x => cases x <;> rfl
 | _ => rfl
theorem stepF_frame {o o' : Nat -> Obj'} (v : V) (q : Nat) (h : ∀ id ∈ v.refs, o' id = o id) : stepF o' v q = stepF o v q := by
 cases v <;> simp only [stepF] <;> rw [h _ (by simp [V.refs])]
theorem nilF_frame {o o' : Nat -> Obj'} (v : V) (h : ∀ id ∈ v.refs, o' id = o id) : nilF o' v = nilF o v := by
 have h1 : listV o' v = listV o v := by unfold listV; rw [toD_frame v h]
 cases v <;> first | rfl | simp only [nilF, h1]
theorem mapNil_frame {o o' : Nat -> Obj'} (v : V) (h : ∀ id ∈ v.refs, o' id = o id) : mapNil o' v = mapNil o v := by
 cases v with
 | mp id => simp only [mapNil, h id (by simp [V.refs])]
 | d x => cases x <;> rfl
 | _ => rfl
theorem ptrNil_frame {o o' : Nat -> Obj'} (v : V) (h : ∀ id ∈ v.refs, o' id = o id) : ptrNil o' v = ptrNil o v := by
 cases v with
 | ptr id off => simp only [ptrNil, h id (by simp [V.refs])]
 | d x => cases x <;> rfl
 | _ => rfl
theorem mapEs_frame {o o' : Nat -> Obj'} (v : V) (h : ∀ id ∈ v.refs, o' id = o id) : mapEs o' v = mapEs o v := by
 cases v with
 | mp id => simp only [mapEs, h id (by simp [V.refs])]
 | d x => cases x <;> rfl
 | _ => rfl
theorem mapRd_frame {o o' : Nat -> Obj'} (v : V) (h : ∀ id ∈ v.refs, o' id = o id) : mapRd o' v = mapRd o v := by
 cases v with
 | mp id => simp only [mapRd, h id (by simp [V.refs])]
 | d x => cases x <;> rfl
 | _ => rfl
theorem nextF_frame {o o' : Nat -> Obj'} (v : V) (str : Bool) (h : ∀ id ∈ v.refs, o' id = o id) : nextF o' v str = nextF o v str := by
 cases v with
 | ptr id off => cases off <;> simp only [nextF, h id (by simp [V.refs])]
 | _ => rfl
theorem entryF_frame {o o' : Nat -> Obj'} (v : V) (h : ∀ id ∈ v.refs, o' id = o id) : entryF o' v = entryF o v := by
 cases v with
 | ptr id off => cases off <;> simp only [entryF, h id (by simp [V.refs])]
 | _ => rfl
theorem rangeF_frame {o o' : Nat -> Obj'} {fr : Nat} {t : TypeId} {P : Program} (v : V) (h : ∀ id ∈ v.refs, o' id = o id) : rangeF P o' fr t v = rangeF P o fr t v := by
 unfold rangeF
 cases v with
 | mp id => simp only [h id (by simp [V.refs])]
 | d x => cases x <;> rfl
 | _ => rfl
theorem ptrRow_frame {o o' : Nat -> Obj'} (v : V) (h : ∀ id ∈ v.refs, o' id = o id) : ptrRow o' v = ptrRow o v := by
 cases v with
 | ptr id off => simp only [ptrRow, h id (by simp [V.refs])]
 | _ => rfl
theorem rslRow_frame {o o' : Nat -> Obj'} (v : V) (h : ∀ id ∈ v.refs, o' id = o id) : rslRow o' v = rslRow o v := by
 cases v with
 | rsl id off n => simp only [rslRow, h id (by simp [V.refs])]
 | _ => rfl
theorem sopF_frame (op : Op) (hv : ∀ x ∈ op.operands, s'.ev x = s.ev x) (ho : ∀ id ∈ opR s op, s'.o id = s.o id) : sopF P s' fr op = sopF P s fr op := by
 cases op <;> simp only [sopF]
 case move x => rw [hv x (by simp [Op.operands])]
 case assign x => rw [hv x (by simp [Op.operands])]
 case pick c a b => rw [hv c (by simp [Op.operands]), hv a (by simp [Op.operands]), hv b (by simp [Op.operands])]
 case box t x => rw [hv x (by simp [Op.operands])]
 case build t parts =>
  have : (parts.toList.map fun p => (p.1, s'.ev p.2)) = parts.toList.map fun p => (p.1, s.ev p.2) :=
   List.map_congr_left fun p hp => by rw [hv p.2 (by simp only [Op.operands]; simp; exact ⟨p.1, by simpa using hp⟩)]
  rw [this]
 case buildSlice t len parts =>
  have : (parts.toList.map fun p => (p.1, s'.ev p.2)) = parts.toList.map fun p => (p.1, s.ev p.2) :=
   List.map_congr_left fun p hp => by rw [hv p.2 (by simp only [Op.operands]; simp; exact ⟨p.1, by simpa using hp⟩)]
  rw [this]
  have e : (parts.toList.map fun p => (p.1, s.ev p.2)).map (·.2) = parts.toList.map fun p => s.ev p.2 := by simp [Function.comp_def]
  have h1 : toDs s'.o ((parts.toList.map fun p => (p.1, s.ev p.2)).map (·.2)) = toDs s.o ((parts.toList.map fun p => (p.1, s.ev p.2)).map (·.2)) := toDs_frame _ (by rw [e]; exact ho)
  have h2 : frz s'.o (V.idss ((parts.toList.map fun p => (p.1, s.ev p.2)).map (·.2))) = frz s.o (V.idss ((parts.toList.map fun p => (p.1, s.ev p.2)).map (·.2))) :=
   frz_frame fun id hid => ho id (by rw [e] at hid; exact idss_refss _ id hid)
  simp only [buildSliceF, h1, h2]
 case load t x =>
  rw [hv x (by simp [Op.operands])]
  cases hx : s.ev x <;> simp only [loadF] <;> rw [ho _ (by simp [opR, hx, V.refs])]
 case store t x y =>
  rw [hv x (by simp [Op.operands]), hv y (by simp [Op.operands])]
  have h1 : toD s'.o (s.ev y) = toD s.o (s.ev y) := toD_frame _ fun id hid => ho id (by simp [opR, hid])
  have h2 : frz s'.o (s.ev y).ids = frz s.o (s.ev y).ids := frz_frame fun id hid => ho id (by simp [opR, ids_refs _ _ hid])
  cases hx : s.ev x <;> simp only [storeF] <;> rw [ho _ (by simp [opR, hx, V.refs])]
  simp only [h1, h2]
 case nilCheck x =>
  rw [hv x (by simp [Op.operands])]
  cases hx : s.ev x with
  | ptr id off => simp only [nilCheckF]; rw [ho _ (by simp [opR, hx, V.refs])]
  | func fn a b => cases fn <;> rfl
  | _ => rfl
 case binOp op t x y yt =>
  rw [hv x (by simp [Op.operands]), hv y (by simp [Op.operands])]
  have h1 : nilF s'.o (s.ev x) = nilF s.o (s.ev x) := nilF_frame _ fun id hid => ho id (by simp [opR, hid])
  have h2 : ∀ a b, eqV P s'.o a b (s.ev x) (s.ev y) = eqV P s.o a b (s.ev x) (s.ev y) := fun a b => by
   have h3 : ∀ id ∈ (s.ev x).refs, s'.o id = s.o id := fun id hid => ho id (by simp [opR, hid])
   have h4 := mapNil_frame (s.ev x) h3
   have h5 := ptrNil_frame (s.ev x) h3
   unfold eqV
   rw [h1, h4, h5]
  unfold bin2F cmpF
  simp only [h2]
 case slice t x lo hi mx =>
  rw [hv x (by simp [Op.operands])]
  have e1 : lo.map s'.ev = lo.map s.ev := by cases lo <;> simp [hv, Op.operands]
  have e2 : hi.map s'.ev = hi.map s.ev := by cases hi <;> simp [hv, Op.operands]
  have e3 : mx.map s'.ev = mx.map s.ev := by cases mx <;> simp [hv, Op.operands]
  rw [e1, e2, e3]
  have h3 : ∀ id ∈ (s.ev x).refs, s'.o id = s.o id := fun id hid => ho id (by simp [opR, hid])
  have h1 : listV s'.o (s.ev x) = listV s.o (s.ev x) := by unfold listV; rw [toD_frame _ h3]
  have h2 : frz s'.o (s.ev x).ids = frz s.o (s.ev x).ids := frz_frame fun id hid => h3 id (ids_refs _ _ hid)
  unfold sliceF
  simp only [h1, h2, ptrRow_frame _ h3]
 case field t x f => rw [hv x (by simp [Op.operands])]
 case typeAssert x xt t ok => rw [hv x (by simp [Op.operands])]
 case makeMap t r => cases r <;> rfl
 case lookup t m k ok =>
  rw [hv m (by simp [Op.operands]), hv k (by simp [Op.operands])]
  have h3 : ∀ id ∈ (s.ev m).refs, s'.o id = s.o id := fun id hid => ho id (by simp [opR, hid])
  have h1 : toD s'.o (s.ev k) = toD s.o (s.ev k) := toD_frame _ fun id hid => ho id (by simp [opR, hid])
  unfold lookupF
  simp only [h1, mapRd_frame _ h3]
 case mapUpdate t m k v =>
  rw [hv m (by simp [Op.operands]), hv k (by simp [Op.operands]), hv v (by simp [Op.operands])]
  have h3 : ∀ id ∈ (s.ev m).refs, s'.o id = s.o id := fun id hid => ho id (by simp [opR, hid])
  have h1 : toD s'.o (s.ev k) = toD s.o (s.ev k) := toD_frame _ fun id hid => ho id (by simp [opR, hid])
  have h2 : toD s'.o (s.ev v) = toD s.o (s.ev v) := toD_frame _ fun id hid => ho id (by simp [opR, hid])
  have h4 : frz s'.o (s.ev v).ids = frz s.o (s.ev v).ids := frz_frame fun id hid => ho id (by simp [opR, ids_refs _ _ hid])
  unfold mapUpdF
  simp only [h1, h2, h4, mapEs_frame _ h3]
 case insert t m k v =>
  rw [hv m (by simp [Op.operands]), hv k (by simp [Op.operands]), hv v (by simp [Op.operands])]
  have h3 : ∀ id ∈ (s.ev m).refs, s'.o id = s.o id := fun id hid => ho id (by simp [opR, hid])
  have h1 : toD s'.o (s.ev k) = toD s.o (s.ev k) := toD_frame _ fun id hid => ho id (by simp [opR, hid])
  have h2 : toD s'.o (s.ev v) = toD s.o (s.ev v) := toD_frame _ fun id hid => ho id (by simp [opR, hid])
  have h4 : frz s'.o (s.ev v).ids = frz s.o (s.ev v).ids := frz_frame fun id hid => ho id (by simp [opR, ids_refs _ _ hid])
  unfold mapUpdF
  simp only [h1, h2, h4, mapEs_frame _ h3]
 case index t x i => rw [hv x (by simp [Op.operands]), hv i (by simp [Op.operands])]
 case range t x =>
  rw [hv x (by simp [Op.operands])]
  exact rangeF_frame _ fun id hid => ho id (by simp [opR, hid])
 case next x str =>
  rw [hv x (by simp [Op.operands])]
  exact nextF_frame _ _ fun id hid => ho id (by simp [opR, hid])
 case entry x =>
  rw [hv x (by simp [Op.operands])]
  exact entryF_frame _ fun id hid => ho id (by simp [opR, hid])
 case unOp op t x => rw [hv x (by simp [Op.operands])]
 case convert u t x => rw [hv x (by simp [Op.operands])]
 case makeInterface t x => rw [hv x (by simp [Op.operands])]
 case makeFunc fn first cap =>
  have h1 : first.toList.map s'.ev = first.toList.map s.ev := List.map_congr_left fun x hx => hv x (by simp only [Op.operands]; exact Array.mem_append.2 (.inl (Array.mem_toList_iff.1 hx)))
  have h2 : cap.toList.map s'.ev = cap.toList.map s.ev := List.map_congr_left fun x hx => hv x (by simp only [Op.operands]; exact Array.mem_append.2 (.inr (Array.mem_toList_iff.1 hx)))
  rw [h1, h2]
 case makeSlice t l c => rw [hv l (by simp [Op.operands]), hv c (by simp [Op.operands])]
 case fieldAddr t x f =>
  rw [hv x (by simp [Op.operands])]
  simp only [fieldAddrF]
  cases fieldT P t f <;> simp only
  rw [stepF_frame _ _ (by simpa [opR] using ho)]
 case indexAddr t x i =>
  rw [hv x (by simp [Op.operands]), hv i (by simp [Op.operands])]
  have h1 : ∀ q, stepF s'.o (s.ev x) q = stepF s.o (s.ev x) q := fun q => stepF_frame _ _ (by simpa [opR] using ho)
  simp only [indexAddrF, h1]
  cases hx : s.ev x with
  | osl id ep => simp only [ho id (by simp [opR, hx, V.refs])]
  | d y => cases y <;> rfl
  | _ => rfl
 case extract x i => rw [hv x (by simp [Op.operands])]
 case call c =>
  obtain ⟨cal, args, ts⟩ := c
  cases cal <;> simp only
  rename_i b
  unfold builtinF
  have hm : ∀ x ∈ args.toList, s'.ev x = s.ev x := fun x hx => hv x (by simp only [Op.operands, Call.operands]; exact Array.mem_append.2 (.inr (Array.mem_toList_iff.1 hx)))
  have hr : ∀ x ∈ args.toList, ∀ id ∈ (s.ev x).refs, s'.o id = s.o id := by
   intro x hx id hid
   refine ho id ?_
   simp only [opR]
   generalize args.toList = l at hx
   induction l with
   | nil => cases hx
   | cons y l ih =>
     simp only [List.map_cons, V.refss, List.mem_append]
     rcases List.mem_cons.1 hx with rfl | hx
     ·exact .inl hid
     ·exact .inr (ih hx)
  split
  ·rename_i x ha
   rw [ha] at hm hr
   rw [hm x (by simp)]
   have h1 : ∀ t, lenF P t s'.o (s.ev x) = lenF P t s.o (s.ev x) := fun t => by simp only [lenF, listF_frame _ (hr x (by simp))]
   simp only [h1]
  ·rename_i x y ha
   rw [ha] at hm hr
   rw [hm x (by simp), hm y (by simp)]
   simp only [appendF, listF_frame _ (hr y (by simp))]
   cases hx : s.ev x with
   | osl id ep => simp only [hr x (by simp) id (by simp [hx, V.refs])]
   | _ => rfl
  ·rename_i x y ha
   rw [ha] at hm
   rw [hm x (by simp), hm y (by simp)]
  ·rename_i x y ha
   rw [ha] at hm
   rw [hm x (by simp), hm y (by simp)]
  ·rename_i x y z h; rw [hm x (by rw [h]; simp), hm y (by rw [h]; simp), hm z (by rw [h]; simp)]
  ·rename_i x y ha
   rw [ha] at hm hr
   rw [hm x (by simp), hm y (by simp)]
   have h1 : listV s'.o (s.ev y) = listV s.o (s.ev y) := by unfold listV; rw [toD_frame _ (hr y (by simp))]
   have h2 : frz s'.o (s.ev y).ids = frz s.o (s.ev y).ids := frz_frame fun id hid => hr y (by simp) id (ids_refs _ _ hid)
   unfold copyF
   simp only [h1, h2, rslRow_frame _ (hr x (by simp))]
  ·rename_i x y ha
   rw [ha] at hm hr
   rw [hm x (by simp), hm y (by simp)]
   have h1 : toD s'.o (s.ev y) = toD s.o (s.ev y) := toD_frame _ (hr y (by simp))
   have h2 := mapEs_frame _ (hr x (by simp))
   simp only [deleteF, h1, h2]
  ·rfl
end
end Go.Proofs.YtealblliddhgiaaGreat
