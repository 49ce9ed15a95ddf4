/-
  A PART OF THE PROOF (put together by program): several texts, one behind the other. Conditions: none.
-/
import Derived.Test.YtealblliddhgiaaGreatOr1
set_option linter.unusedSimpArgs false
set_option linter.unusedVariables false
namespace Go.Proofs.YtealblliddhgiaaGreat
def upd {α : Type} (f : Nat → α) (i : Nat) (x : α) : Nat → α := fun j => if j = i then x else f j
@[simp] theorem upd_apply {α : Type} (f : Nat → α) (i : Nat) (x : α) (j : Nat) : upd f i x j = if j = i then x else f j := rfl
structure S where
  env : Nat → V
  o : Nat → Obj'
  nx : Nat
def S.H (s : S) : Hp := ⟨s.o, fun id => id < s.nx⟩
def V.ofScalar : Value → V
  | .int k n => .d (.int k n) | .bool b => .d (.bool b) | .string s => .d (.str s.data.toList)
  | .nilIface => .d .nili | .pointer none => .d .nilp | .nilFunc => .d .nilf | .map none => .d .nilm
  | .slice none 0 0 => .nils
  | _ => .junk
def allD : List V → Option (List D)
  | [] => some []
  | .d x :: vs => (allD vs).map (x :: ·)
  | _ :: _ => none
def mkAgg (cs : List V) : V := match allD cs with | some ds => .d (.agg ds) | none => .agg cs
def V.ofConst : Value → V
  | .agg a => if a.toList.all Value.oneCell' then mkAgg (a.toList.map V.ofScalar) else .junk
  | v => V.ofScalar v
def S.ev (s : S) : Operand → V
  | .tmp t => s.env t
  | .const v => V.ofConst v
  | .func f => .func (.func f) [] []
  | .global _ => .junk
def D.cells : D → List D
  | .agg cs => cs
  | x => [x]
def V.cells : V → Option (List V)
  | .d x => some (x.cells.map .d)
  | .agg cs => some cs
  | .tup _ | .junk => none
  | v => some [v]
mutual
def toD (o : Nat → Obj') : V → Option D
  | .d x => some x
  | .nils => some (.sl [])
  | .csl es => some (.sl es)
  | .osl id ep => match o id with
    | .arr ep' _ _ es | .fro ep' es => if ep = ep' then some (.sl es) else none
    | _ => none
  | .mp id => match o id with
    | .map _ _ l => some (.mp (l.map (·.1)) (l.map (·.2)))
    | .mfro l => some (.mp (l.map (·.1)) (l.map (·.2)))
    | _ => none
  | .agg cs => (toDs o cs).map .agg
  | .iface t x => (toD o x).map (.iface t)
  | _ => none
def toDs (o : Nat → Obj') : List V → Option (List D)
  | [] => some []
  | v :: vs => (toD o v).bind fun x => (toDs o vs).map (x :: ·)
end
mutual
def V.ids : V → List Nat
  | .osl id _ => [id]
  | .mp id => [id]
  | .agg cs => V.idss cs
  | .iface _ x => x.ids
  | _ => []
def V.idss : List V → List Nat
  | [] => []
  | v :: vs => v.ids ++ V.idss vs
end
def frz (o : Nat → Obj') (ids : List Nat) : List (Nat × Obj') :=
  ids.map fun id => (id, match o id with | .arr ep _ _ es => .fro ep es | .map _ _ l => .mfro l | o => o)
def frzA (o : Nat → Obj') (ids : List Nat) : List (Nat × Obj') :=
  ids.filterMap fun id => match o id with | .arr ep _ _ es => some (id, .fro ep es) | _ => none
def put (o : Nat → Obj') (Δ : List (Nat × Obj')) : Nat → Obj' := Δ.foldl (fun f x => upd f x.1 x.2) o
def Hp.put (H : Hp) (Δ : List (Nat × Obj')) : Hp := { o := YtealblliddhgiaaGreat.put H.o Δ, us := fun id => H.us id ∨ id ∈ Δ.map (·.1) }
def zeroT (P : Program) (t : TypeId) : Option (List V) :=
  match P.info? t with
  | some i => match i.zero with
    | some z => if z.cells.size = i.size ∧ z.cells.toList.all Value.oneCell' = true then some (z.cells.toList.map V.ofScalar) else none
    | none => none
  | none => none
def aggT (P : Program) (t : TypeId) : Option Bool :=
  match P.underlying t with
  | some (.struct _) | some (.array _ _) => some true
  | some _ => some false
  | none => none
def fieldT (P : Program) (t : TypeId) (f : Nat) : Option Nat :=
  match P.underlying t with
  | some (.struct fs) => match fs[f]? with
    | some fd => if P.cellsOf fd.type = 0 then none else some fd.offset
    | none => none
  | _ => none
def sliceT (P : Program) (t : TypeId) : Option TypeId :=
  match P.underlying t with
  | some (.slice e) => some e
  | _ => none
def arrT (P : Program) (t : TypeId) : Option (Nat × TypeId) :=
  match P.underlying t with
  | some (.array n e) => some (n, e)
  | _ => none
def placesT (P : Program) (t : TypeId) : Option (List (Nat × Nat)) :=
  match P.underlying t with
  | some (.struct fs) => if fs.toList.all (fun f => (P.info? f.type).isSome) = true then some (fs.toList.map fun f => (f.offset, P.cellsOf f.type)) else none
  | some (.array n e) => if (P.info? e).isSome = true then some ((List.range n).map fun i => (i * P.cellsOf e, P.cellsOf e)) else none
  | _ => none
def intT (P : Program) (t : TypeId) : Option IntKind :=
  match P.underlying t with
  | some (.int k) => some k
  | _ => none
def rowGet (P : Program) (t : TypeId) (cs : List V) (off : Nat) : Option V :=
  match aggT P t with
  | some true => if off + P.cellsOf t ≤ cs.length then some (mkAgg ((cs.drop off).take (P.cellsOf t))) else none
  | some false => cs[off]?
  | none => none
def rowSet (P : Program) (t : TypeId) (cs : List V) (off : Nat) (v : V) : Option (List V) :=
  match v.cells with
  | some us => if us.length = P.cellsOf t ∧ (0 < us.length ∨ (P.info? t).isSome = true) ∧ off + us.length ≤ cs.length then some (cs.take off ++ us ++ cs.drop (off + us.length)) else none
  | none => none
def fillV (places : List (Nat × Nat)) (cs : List V) : List (Nat × V) → Option (List V)
  | [] => some cs
  | (i, v) :: rest => match places[i]?, v.cells with
    | some (off, size), some us => if us.length = size ∧ off + us.length ≤ cs.length then fillV places (cs.take off ++ us ++ cs.drop (off + us.length)) rest else none
    | _, _ => none
def D.put (e : D) (off : Nat) (us : List D) : Option D :=
  match e with
  | .agg cs => if off + us.length ≤ cs.length then some (.agg (cs.take off ++ us ++ cs.drop (off + us.length))) else none
  | _ => match off, us with
    | 0, [u] => some u
    | _, _ => none
def cmpV (op : BinOp) (a b : Int) : Option Bool :=
  match op with
  | .eql => some (a == b) | .neq => some (a != b) | .lss => some (decide (a < b)) | .leq => some (decide (a ≤ b))
  | .gtr => some (decide (a > b)) | .geq => some (decide (a ≥ b))
  | _ => none
def bitsI (op : BinOp) (k : IntKind) (x y : Int) : Option Int :=
  let a := BitVec.ofInt k.bits x
  let b := BitVec.ofInt k.bits y
  match op with
  | .and => some (k.wrap (a &&& b).toNat)
  | .or => some (k.wrap (a ||| b).toNat)
  | .xor => some (k.wrap (a ^^^ b).toNat)
  | .andNot => some (k.wrap (a &&& ~~~b).toNat)
  | _ => none
def intV (op : BinOp) (k : IntKind) (a b : Int) (K : V → Prop) : Prop :=
  match op with
  | .add => K (.d (.int k (k.wrap (a + b))))
  | .sub => K (.d (.int k (k.wrap (a - b))))
  | .mul => K (.d (.int k (k.wrap (a * b))))
  | .quo => b ≠ 0 ∧ K (.d (.int k (k.wrap (a.tdiv b))))
  | .rem => b ≠ 0 ∧ K (.d (.int k (a.tmod b)))
  | .and | .or | .xor | .andNot => ∃ r, bitsI op k a b = some r ∧ K (.d (.int k r))
  | .shl | .shr => False
  | op => ∃ r, cmpV op a b = some r ∧ K (.d (.bool r))
def EqlAt (P : Program) (t : TypeId) (x y : D) (r : Bool) : Prop :=
  ∀ (B : Nat → Prop) (w : World) (u v : Value), D.den B w x u → D.den B w y v → (Op.equal t u v).run P w = .ok r w ∧ ∀ (op : BinOp) (a b : Operand), (eqGuard op t a b u v).run P w = .ok () w
def binV (P : Program) (op : BinOp) (t : TypeId) (x y : V) (K : V → Prop) : Prop :=
  match x, y with
  | .d (.int k a), .d (.int k' b) => k = k' ∧ intV op k a b K
  | .d (.bool a), .d (.bool b) => match op with
    | .eql => P.underlying t = some .bool ∧ K (.d (.bool (a == b)))
    | .neq => P.underlying t = some .bool ∧ K (.d (.bool (a != b)))
    | _ => False
  | .d (.str a), .d (.str b) => match op with
    | .eql => K (.d (.bool (a == b)))
    | .neq => K (.d (.bool (a != b)))
    | _ => False
  | .d (.agg a), .d (.agg b) => match op with
    | .eql => ∃ r, EqlAt P t (.agg a) (.agg b) r ∧ K (.d (.bool r))
    | .neq => ∃ r, EqlAt P t (.agg a) (.agg b) r ∧ K (.d (.bool !r))
    | _ => False
  | _, _ => False
def unV (op : UnOp) (x : V) (K : V → Prop) : Prop :=
  match op, x with
  | .neg, .d (.int k n) => K (.d (.int k (k.wrap (0 - n))))
  | .not, .d (.bool b) => K (.d (.bool !b))
  | _, _ => False
def pickV (c a b : V) (K : V → Prop) : Prop :=
  match c with
  | .d (.bool t) => (t = true → K a) ∧ (t = false → K b)
  | _ => False
def lenV (P : Program) (t : TypeId) (o : Nat → Obj') (x : V) (K : V → List Nat → Prop) : Prop :=
  match P.underlying t with
  | some (.slice _) => match x with
    | .d (.sl es) => K (.d (.int .i64 es.length)) []
    | .nils => K (.d (.int .i64 0)) []
    | .csl es => K (.d (.int .i64 es.length)) []
    | .osl id ep => match o id with
      | .arr ep' _ _ es | .fro ep' es => ep = ep' ∧ K (.d (.int .i64 es.length)) [id]
      | _ => False
    | _ => False
  | some .string => match x with
    | .d (.str s) => K (.d (.int .i64 s.length)) []
    | _ => False
  | some (.array n _) => K (.d (.int .i64 n)) []
  | _ => False
def indexAddrV (P : Program) (o : Nat → Obj') (t : TypeId) (x ix : V) (K : V → List Nat → Prop) : Prop :=
  match ix with
  | .d (.int _ i) => match sliceT P t with
    | some e => match x with
      | .d (.sl es) => 0 ≤ i ∧ ∃ y, es[i.toNat]? = some y ∧ y.cells.length = P.cellsOf e ∧ 0 < P.cellsOf e ∧ K (.pp y.cells 0) []
      | .csl es => 0 ≤ i ∧ ∃ y, es[i.toNat]? = some y ∧ y.cells.length = P.cellsOf e ∧ 0 < P.cellsOf e ∧ K (.pp y.cells 0) []
      | .osl id ep => match o id with
        | .arr ep' _ sz es => ep = ep' ∧ 0 ≤ i ∧ i.toNat < es.length ∧ sz = P.cellsOf e ∧ 0 < P.cellsOf e ∧ K (.pe id ep i.toNat sz 0) [id]
        | .fro ep' es => ep = ep' ∧ 0 ≤ i ∧ ∃ y, es[i.toNat]? = some y ∧ y.cells.length = P.cellsOf e ∧ 0 < P.cellsOf e ∧ K (.pp y.cells 0) [id]
        | _ => False
      | _ => False
    | none => match arrT P t with
      | some (n, e) => 0 ≤ i ∧ i < n ∧ (P.info? e).isSome = true ∧ (match x with
        | .ptr id off => (o id).isRow = true ∧ K (.ptr id (off + i.toNat * P.cellsOf e)) []
        | .pp cs off => K (.pp cs (off + i.toNat * P.cellsOf e)) []
        | .pe id ep j sz off => (o id).epoch = some ep ∧ K (.pe id ep j sz (off + i.toNat * P.cellsOf e)) []
        | _ => False)
      | none => False
  | _ => False
def fieldAddrV (P : Program) (o : Nat → Obj') (t : TypeId) (x : V) (f : Nat) (K : V → Prop) : Prop :=
  match fieldT P t f with
  | some q => match x with
    | .ptr id off => (o id).isRow = true ∧ K (.ptr id (off + q))
    | .pp cs off => K (.pp cs (off + q))
    | .pe id ep j sz off => (o id).epoch = some ep ∧ K (.pe id ep j sz (off + q))
    | _ => False
  | none => False
def loadV (P : Program) (o : Nat → Obj') (t : TypeId) (x : V) (K : V → List Nat → Prop) : Prop :=
  match x with
  | .ptr id off => match o id with
    | .row cs => ∃ v, rowGet P t cs off = some v ∧ K v [id]
    | _ => False
  | .pp cs off => ∃ v, rowGet P t (cs.map .d) off = some v ∧ K v []
  | .pe id ep i sz off => match o id with
    | .arr ep' _ sz' es => ep = ep' ∧ sz = sz' ∧ ∃ e, es[i]? = some e ∧ ∃ v, rowGet P t (e.cells.map .d) off = some v ∧ K v [id]
    | _ => False
  | _ => False
def storeV (P : Program) (o : Nat → Obj') (t : TypeId) (x v : V) (K : List (Nat × Obj') → List Nat → Prop) : Prop :=
  match x with
  | .ptr id off => match o id with
    | .row cs => ∃ cs', rowSet P t cs off v = some cs' ∧ K [(id, .row cs')] [id]
    | _ => False
  | .pe id ep i sz' off => match o id with
    | .arr ep' ty sz es => ep = ep' ∧ sz' = sz ∧ ∃ e, es[i]? = some e ∧ ∃ y, toD o v = some y ∧ y.cells.length = P.cellsOf t ∧ 0 < y.cells.length ∧ v.ids.all (· != id) = true ∧
        ∃ e', e.put off y.cells = some e' ∧ K (frz o v.ids ++ [(id, .arr ep ty sz (es.set i e'))]) (id :: v.ids)
    | _ => False
  | _ => False
def buildSliceV (P : Program) (o : Nat → Obj') (fr : Nat) (t : TypeId) (len : Nat) (parts : List (Nat × V)) (K : V → List (Nat × Obj') → List Nat → Prop) : Prop :=
  match sliceT P t with
  | some e => (len = 0 ∧ parts = [] ∧ 0 < P.cellsOf e ∧ K (.osl fr 0) [(fr, .arr 0 e (P.cellsOf e) [])] []) ∨ (parts.map (·.1) = List.range len) ∧ (zeroT P e).isSome = true ∧ 0 < len ∧ 0 < P.cellsOf e ∧ len * P.cellsOf e ≤ 2 ^ 24 ∧
      ∃ ds, toDs o (parts.map (·.2)) = some ds ∧ (∀ x ∈ ds, x.cells.length = P.cellsOf e) ∧
        K (.osl fr 0) (frz o (V.idss (parts.map (·.2))) ++ [(fr, .arr 0 e (P.cellsOf e) ds)]) (V.idss (parts.map (·.2)))
  | none => False
def zeroD (P : Program) (e : TypeId) : Option D :=
  match zeroT P e with
  | some z => match toDs (fun _ => .no) z, aggT P e with
    | some ds, some true => some (.agg ds)
    | some [x], some false => some x
    | _, _ => none
  | none => none
def makeSliceV (P : Program) (fr : Nat) (t : TypeId) (l c : V) (K : V → List (Nat × Obj') → Prop) : Prop :=
  match sliceT P t, l, c with
  | some e, .d (.int _ n), .d (.int _ m) => n = m ∧ 0 ≤ n ∧ 0 < P.cellsOf e ∧ P.bytesOf e * n.toNat ≤ 2 ^ 47 ∧ n.toNat ≤ 2 ^ 47 ∧
      ∃ x, zeroD P e = some x ∧ K (.osl fr 0) [(fr, .arr 0 e (P.cellsOf e) (List.replicate n.toNat x))]
  | _, _, _ => False
def listV (o : Nat → Obj') (x : V) : Option (List D) :=
  match toD o x with
  | some (.sl es) => some es
  | _ => none
def appendV (P : Program) (o : Nat → Obj') (fr : Nat) (ts : Array TypeId) (x y : V) (K : V → List (Nat × Obj') → List Nat → Prop) : Prop :=
  match ts.toList with
  | [t, t'] => t = t' ∧ (match sliceT P t with
    | some e => ∃ new, listV o y = some new ∧ 0 < P.cellsOf e ∧ (zeroT P e).isSome = true ∧ (∀ z ∈ new, z.cells.length = P.cellsOf e) ∧ (match x with
      | .nils => new.length ≤ 2 ^ 47 ∧ new.length * P.bytesOf e ≤ 2 ^ 47 ∧ K (.osl fr 0) [(fr, .arr 0 e (P.cellsOf e) new)] y.ids
      | .csl es => (∀ z ∈ es, z.cells.length = P.cellsOf e) ∧ (if new = [] then K (.csl es) [] y.ids else es.length + new.length ≤ 2 ^ 40 ∧ (es.length + new.length) * P.bytesOf e ≤ 2 ^ 40 ∧ K (.osl fr 0) [(fr, .arr 0 e (P.cellsOf e) (es ++ new))] y.ids)
      | .osl id ep => match o id with
        | .arr ep' ty sz es => ep = ep' ∧ ty = e ∧ sz = P.cellsOf e ∧ es.length + new.length ≤ 2 ^ 47 ∧ (es.length + new.length) * P.bytesOf e ≤ 2 ^ 47 ∧
            K (.osl id (ep + 1)) [(id, .arr (ep + 1) ty sz (es ++ new))] (id :: y.ids)
        | _ => False
      | _ => False)
    | none => False)
  | _ => False
def minmaxV (isMax : Bool) (args : List V) (K : V → Prop) : Prop :=
  match args with
  | [.d (.int k a), .d (.int k' b)] => k = k' ∧ K (.d (.int k (if isMax then (if b > a then b else a) else (if b < a then b else a))))
  | _ => False
def nilCheckV (o : Nat → Obj') (x : V) (K : V → Prop) : Prop :=
  match x with
  | .ptr id off => (o id).isRow = true ∧ K (.ptr id off)
  | .pp cs off => K (.pp cs off)
  | .func (.func f) first cap => K (.func (.func f) first cap)
  | _ => False
def partD (P : Program) (t : TypeId) (xs : List D) (off : Nat) : Option D :=
  match aggT P t with
  | some true => if off + P.cellsOf t ≤ xs.length then some (.agg ((xs.drop off).take (P.cellsOf t))) else none
  | some false => xs[off]?
  | none => none
inductive EqSh where
  | int | bool | str | struct (fs : List (TypeId × Nat)) | arr (n : Nat) (e : TypeId)
def eqShape (P : Program) (t : TypeId) : Option EqSh :=
  match P.underlying t with
  | some (.int _) => some .int
  | some .bool => some .bool
  | some .string => some .str
  | some (.struct fs) => if (!P.stoodInHeld t && fs.toList.all (fun f => f.name != "_")) = true then some (.struct (fs.toList.map fun f => (f.type, f.offset))) else none
  | some (.array n e) => if (P.info? e).isSome = true then some (.arr n e) else none
  | _ => none
def andO (a b : Option Bool) : Option Bool :=
  match a, b with
  | some a, some b => some (a && b)
  | _, _ => none
def fldsE (f : TypeId → Nat → Option Bool) : List (TypeId × Nat) → Option Bool
  | [] => some true
  | x :: l => andO (f x.1 x.2) (fldsE f l)
def itmsE (f : Nat → Option Bool) : Nat → Nat → Option Bool
  | 0, _ => some true
  | n + 1, i => andO (f i) (itmsE f n (i + 1))
def eq2 (f : D → D → Option Bool) (x y : Option D) : Option Bool :=
  match x, y with
  | some x, some y => f x y
  | _, _ => none
def eqT (P : Program) : Nat → TypeId → D → D → Option Bool
  | 0, _, _, _ => none
  | d + 1, t, x, y => match eqShape P t with
    | some .int => match x, y with | .int k a, .int k' b => if k = k' then some (a == b) else none | _, _ => none
    | some .bool => match x, y with | .bool a, .bool b => some (a == b) | _, _ => none
    | some .str => match x, y with | .str a, .str b => some (a == b) | _, _ => none
    | some (.struct fs) => match x, y with
      | .agg xs, .agg ys => fldsE (fun u off => eq2 (eqT P d u) (partD P u xs off) (partD P u ys off)) fs
      | _, _ => none
    | some (.arr n e) => match x, y with
      | .agg xs, .agg ys => itmsE (fun i => eq2 (eqT P d e) (partD P e xs (i * P.cellsOf e)) (partD P e ys (i * P.cellsOf e))) n 0
      | _, _ => none
    | none => none
abbrev Res := V × List (Nat × Obj') × List Nat
def resK (x : Option Res) (K : V → List (Nat × Obj') → List Nat → Prop) : Prop :=
  match x with
  | some (v, Δ, rd) => K v Δ rd
  | none => False
def bndF (x : Option V) (dflt : Nat) : Option Nat :=
  match x with
  | none => some dflt
  | some (.d (.int _ i)) => if 0 ≤ i then some i.toNat else none
  | _ => none
def ptrRow (o : Nat → Obj') (x : V) : Option (Nat × Nat) :=
  match x with
  | .ptr id off => if (o id).isRow = true then some (id, off) else none
  | _ => none
def rslRow (o : Nat → Obj') (x : V) : Option (Nat × Nat × Nat × List V) :=
  match x with
  | .rsl id off n => match o id with
    | .row cs => some (id, off, n, cs)
    | _ => none
  | _ => none
def sliceF (P : Program) (o : Nat → Obj') (t : TypeId) (x : V) (lo hi mx : Option V) : Option Res :=
  match sliceT P t with
  | some e => match listV o x, bndF lo 0 with
    | some es, some l => match bndF hi es.length with
      | some h => if l ≤ h ∧ h ≤ es.length ∧ (P.info? e).isSome = true ∧ (l = 0 ∨ es.all (fun y => y.cells.length == P.cellsOf e) = true) then match mx with
          | none => some (.d (.sl ((es.take h).drop l)), frz o x.ids, x.ids)
          | some m => match hi, bndF (some m) 0 with
            | some _, some m => if h ≤ m ∧ m ≤ es.length then some (if h = m then .csl ((es.take h).drop l) else .d (.sl ((es.take h).drop l)), frz o x.ids, x.ids) else none
            | _, _ => none
        else none
      | none => none
    | _, _ => none
  | none => match arrT P t, lo, hi, mx with
    | some (n, e), none, none, none => match ptrRow o x with
      | some (id, off) => if (P.info? e).isSome = true then some (.rsl id off n, [], [id]) else none
      | none => none
    | _, _, _, _ => none
def copyF (P : Program) (o : Nat → Obj') (ts : Array TypeId) (x y : V) : Option Res :=
  match ts.toList with
  | [t, _] => match sliceT P t with
    | some e => match rslRow o x, listV o y with
      | some (id, off, n, cs), some es => if P.cellsOf e = 1 ∧ off + n ≤ cs.length ∧ es.all (fun z => z.cells.length == 1) = true ∧ y.ids.all (· != id) = true then
            some (.d (.int .i64 ((min es.length n : Nat) : Int)), frz o y.ids ++ [(id, .row (cs.take off ++ ((es.take n).flatMap D.cells).map .d ++ cs.drop (off + (es.take n).length)))], id :: y.ids) else none
      | _, _ => none
    | none => none
  | _ => none
def fieldTT (P : Program) (t : TypeId) (f : Nat) : Option (Nat × TypeId) :=
  match P.underlying t with
  | some (.struct fs) => match fs[f]? with
    | some fd => some (fd.offset, fd.type)
    | none => none
  | _ => none
def fieldF (P : Program) (t : TypeId) (x : V) (f : Nat) : Option V :=
  match fieldTT P t f with
  | some (off, u) => match x with
    | .d (.agg cs) => (partD P u cs off).map .d
    | .agg cs => rowGet P u cs off
    | _ => none
  | none => none
def indexF (P : Program) (t : TypeId) (x i : V) : Option V :=
  match i with
  | .d (.int _ i) => if 0 ≤ i then match P.underlying t with
      | some .string => match x with
        | .d (.str s) => match s[i.toNat]? with
          | some b => some (.d (.int .u8 b.toNat))
          | none => none
        | _ => none
      | some (.array n e) => if i < n ∧ (P.info? e).isSome = true then match x with
          | .d (.agg cs) => (partD P e cs (i.toNat * P.cellsOf e)).map .d
          | .agg cs => rowGet P e cs (i.toNat * P.cellsOf e)
          | _ => none
        else none
      | _ => none
    else none
  | _ => none
def plainU (P : Program) (t : TypeId) : Bool :=
  match P.underlying t with
  | some (.interface _) => false
  | some _ => true
  | none => false
def zeroV (P : Program) (t : TypeId) : Option V :=
  match P.info? t with
  | some i => match i.zero with
    | some (.agg a) => if a.toList.all Value.oneCell' = true then some (mkAgg (a.toList.map V.ofScalar)) else none
    | some v => if v.oneCell' = true then some (V.ofScalar v) else none
    | none => none
  | none => none
def assertF (P : Program) (t : TypeId) (ok : Bool) (x : V) : Option V :=
  if plainU P t = true then match x with
    | .d (.iface u y) => if u = t then some (if ok = true then .tup [.d y, .d (.bool true)] else .d y)
        else if ok = true then (zeroV P t).map fun z => .tup [z, .d (.bool false)] else none
    | .d .nili => if ok = true then (zeroV P t).map fun z => .tup [z, .d (.bool false)] else none
    | _ => none
  else none
def nilF (o : Nat → Obj') (x : V) : Option V :=
  match x with
  | .nils => some (.d (.bool true))
  | x => match listV o x with
    | some es => some (if es = [] then .anyb else .d (.bool false))
    | none => none
def isConst : Operand → Bool
  | .const _ => true
  | _ => false
def notV : V → Option V
  | .d (.bool b) => some (.d (.bool !b))
  | .anyb => some .anyb
  | _ => none
def mapNil (o : Nat → Obj') (x : V) : Option V :=
  match x with
  | .d .nilm => some (.d (.bool true))
  | .d (.mp _ _) => some (.d (.bool false))
  | .mp id => match o id with | .map _ _ _ => some (.d (.bool false)) | .mfro _ => some (.d (.bool false)) | _ => none
  | _ => none
def ptrNil (o : Nat → Obj') (x : V) : Option V :=
  match x with
  | .d .nilp => some (.d (.bool true))
  | .ptr id _ => if (o id).isRow = true then some (.d (.bool false)) else none
  | .pp _ _ => some (.d (.bool false))
  | _ => none
def eqV (P : Program) (o : Nat → Obj') (t : TypeId) (cst : Bool) (x y : V) : Option V :=
  match P.underlying t with
  | some (.interface _) => match x, y with
    | .d .nili, .d .nili => if cst = true then some (.d (.bool true)) else none
    | .d (.iface _ _), .d .nili | .iface _ _, .d .nili | .d .nili, .d (.iface _ _) | .d .nili, .iface _ _ => some (.d (.bool false))
    | _, _ => none
  | some (.func _ _ _) => match x, y with
    | .d .nilf, .d .nilf => some (.d (.bool true))
    | .func _ _ _, .d .nilf => some (.d (.bool false))
    | _, _ => none
  | some (.map _ _) => match y with
    | .d .nilm => mapNil o x
    | _ => none
  | some (.pointer _) => match y with
    | .d .nilp => ptrNil o x
    | _ => none
  | some (.slice _) => match y with
    | .nils => nilF o x
    | _ => none
  | some (.struct _) | some (.array _ _) => match x, y with
    | .d (.agg asz), .d (.agg bs) => if P.eqGuardType P.depth t = false then (eqT P 100 t (.agg asz) (.agg bs)).map fun r => .d (.bool r) else none
    | _, _ => none
  | _ => none
def cmpF (P : Program) (o : Nat → Obj') (op : BinOp) (t : TypeId) (cst : Bool) (x y : V) : Option Res :=
  match op with
  | .eql => (eqV P o t cst x y).map fun v => (v, [], [])
  | .neq => ((eqV P o t cst x y).bind notV).map fun v => (v, [], [])
  | _ => none
mutual

def D.same : D → D → Bool
  | .int k a, .int j b => k == j && a == b
  | .bool a, .bool b => a == b
  | .str a, .str b => a == b
  | .nili, .nili | .nilp, .nilp | .nilf, .nilf | .nilm, .nilm => true
  | .agg asz, .agg bs => D.sames asz bs
  | .sl asz, .sl bs => D.sames asz bs
  | .iface t a, .iface u b => t == u && a.same b
  | .mp ks vs, .mp ks' vs' => D.sames ks ks' && D.sames vs vs'
  | _, _ => false
def D.sames : List D → List D → Bool
  | [], [] => true
  | a :: asz, b :: bs => a.same b && D.sames asz bs
  | _, _ => false
end
def mapT (P : Program) (t : TypeId) : Option (TypeId × TypeId) :=
  match P.underlying t with
  | some (.map k v) => some (k, v)
  | _ => none
def chkT (P : Program) : Nat → TypeId → D → Bool
  | 0, _, _ => false
  | d + 1, t, x => match eqShape P t with
    | some .int | some .bool | some .str => true
    | some (.struct fs) => match x with
      | .agg xs => fs.all fun f => match partD P f.1 xs f.2 with | some y => chkT P d f.1 y | none => false
      | _ => false
    | some (.arr n e) => match x with
      | .agg xs => (List.range n).all fun i => match partD P e xs (i * P.cellsOf e) with | some y => chkT P d e y | none => false
      | _ => false
    | none => false
def findD (P : Program) (kt : TypeId) (k : D) : List (D × D) → Nat → Option (Option (Nat × D × D))
  | [], _ => some none
  | (k', x) :: l, i => match eqT P 100 kt k k' with
    | some true => some (some (i, k', x))
    | some false => findD P kt k l (i + 1)
    | none => none
def scalD : D → Bool
  | .int _ _ | .bool _ | .str _ => true
  | _ => false
def plainD : D → Bool
  | .agg cs => cs.all scalD
  | x => scalD x
def mapEs (o : Nat → Obj') (m : V) : Option (Option (Nat × TypeId × TypeId) × List (D × D)) :=
  match m with
  | .mp id => match o id with
    | .map kt vt l => some (some (id, kt, vt), l)
    | _ => none
  | .d .nilm => some (none, [])
  | _ => none
def mapRd (o : Nat → Obj') (m : V) : Option (List Nat × List (D × D)) :=
  match m with
  | .mp id => match o id with
    | .map _ _ l => some ([id], l)
    | .mfro l => some ([id], l)
    | _ => none
  | .d .nilm => some ([], [])
  | .d (.mp ks vs) => some ([], ks.zip vs)
  | _ => none
def idOf (r : Option (Nat × TypeId × TypeId)) : List Nat := match r with | some p => [p.1] | none => []
def lookupF (P : Program) (o : Nat → Obj') (t : TypeId) (m k : V) (ok : Bool) : Option Res :=
  match mapT P t, toD o k, mapRd o m with
  | some (kt, vt), some kd, some (rd, l) => if k.ids = [] ∧ chkT P 100 kt kd = true then match findD P kt kd l 0 with
      | some (some (_, _, x)) => some (if ok = true then .tup [.d x, .d (.bool true)] else .d x, [], rd)
      | some none => match zeroV P vt with
        | some z => some (if ok = true then .tup [z, .d (.bool false)] else z, [], rd)
        | none => none
      | none => none
    else none
  | _, _, _ => none
def mapUpdF (P : Program) (o : Nat → Obj') (t : TypeId) (m k v : V) : Option Res :=
  match mapT P t, toD o k, toD o v, mapEs o m with
  | some (kt, _), some kd, some vd, some (some (id, kt', vt'), l) => if k.ids = [] ∧ chkT P 100 kt kd = true ∧ plainD kd = true ∧ v.ids.all (· != id) = true then match findD P kt kd l 0 with
      | some (some (i, k', _)) => if k'.same kd = true then some (.tup [], frz o v.ids ++ [(id, .map kt' vt' (l.set i (kd, vd)))], id :: v.ids) else none
      | some none => some (.tup [], frz o v.ids ++ [(id, .map kt' vt' (l ++ [(kd, vd)]))], id :: v.ids)
      | none => none
    else none
  | _, _, _, _ => none
def makeMapF (P : Program) (fr : Nat) (t : TypeId) : Option Res :=
  match mapT P t with
  | some (kt, vt) => some (.mp fr, [(fr, .map kt vt [])], [])
  | none => none
def rangeF (P : Program) (o : Nat → Obj') (fr : Nat) (t : TypeId) (x : V) : Option Res :=
  match P.underlying t with
  | some .string => match x with
    | .d (.str s) => some (.ptr fr 0, [(fr, .sit s 0)], [])
    | _ => none
  | some (.map _ _) => match x with
    | .d .nilm => some (.ptr fr 0, [(fr, .mit [] none)], [])
    | .d (.mp ks vs) => some (.ptr fr 0, [(fr, .mit (ks.zip vs) none)], [])
    | .mp id => match o id with
      | .map _ _ l => some (.ptr fr 0, [(id, .mfro l), (fr, .mit l none)], [id])
      | .mfro l => some (.ptr fr 0, [(fr, .mit l none)], [id])
      | _ => none
    | _ => none
  | _ => none
def nextF (o : Nat → Obj') (x : V) (str : Bool) : Option Res :=
  match x with
  | .ptr id 0 => match o id with
    | .sit s pos => if str = true then
        (if pos < s.length then some (.tup [.d (.bool true), .d (.int .i64 pos), .d (.int .i32 (Utf8.decode ⟨⟨s⟩⟩ pos).1)], [(id, .sit s (pos + (Utf8.decode ⟨⟨s⟩⟩ pos).2))], [id]) else some (.tup [.d (.bool false)], [], [id]))
      else none
    | _ => none
  | _ => none
def leftF (o : Nat → Obj') (x : V) : Option (Nat × List (D × D)) :=
  match x with
  | .ptr id 0 => match o id with
    | .mit l _ => some (id, l)
    | _ => none
  | _ => none
def nextV (id : Nat) (l : List (D × D)) (K : V → List (Nat × Obj') → List Nat → Prop) : Prop :=
  (l = [] → K (.tup [.d (.bool false)]) [] [id]) ∧ ∀ i k x, l[i]? = some (k, x) → K (.tup [.d (.bool true), .d k, .d x]) [(id, .mit (l.eraseIdx i) (some (k, x)))] [id]
def entryF (o : Nat → Obj') (x : V) : Option Res :=
  match x with
  | .ptr id 0 => match o id with
    | .mit _ (some (k, x)) => some (.tup [.d k, .d x], [], [id])
    | _ => none
  | _ => none
def deleteF (P : Program) (o : Nat → Obj') (t : TypeId) (m k : V) : Option Res :=
  match mapT P t, toD o k, mapEs o m with
  | some (kt, _), some kd, some (some (id, kt', vt'), l) => if k.ids = [] ∧ chkT P 100 kt kd = true then match findD P kt kd l 0 with
      | some (some (i, _, _)) => some (.tup [], [(id, .map kt' vt' (l.eraseIdx i))], [id])
      | some none => some (.tup [], [], [id])
      | none => none
    else none
  | _, _, _ => none
def max3F (x y z : V) : Option V :=
  match x, y, z with
  | .d (.int k a), .d (.int k' b), .d (.int k'' c) => if k = k' ∧ k = k'' then some (.d (.int k (if c > (if b > a then b else a) then c else (if b > a then b else a)))) else none
  | _, _, _ => none
def builtinV (P : Program) (s : S) (fr : Nat) (b : Builtin) (args : List Operand) (ts : Array TypeId) (K : V → List (Nat × Obj') → List Nat → Prop) : Prop :=
  match b, args with
  | .len, [x] => ∃ t, ts.toList = [t] ∧ lenV P t s.o (s.ev x) fun v rd => K v [] rd
  | .append, [x, y] => appendV P s.o fr ts (s.ev x) (s.ev y) K
  | .max, [x, y] => minmaxV true [s.ev x, s.ev y] fun v => K v [] []
  | .min, [x, y] => minmaxV false [s.ev x, s.ev y] fun v => K v [] []
  | .max, [x, y, z] => resK ((max3F (s.ev x) (s.ev y) (s.ev z)).map fun v => (v, [], [])) K
  | .copy, [x, y] => resK (copyF P s.o ts (s.ev x) (s.ev y)) K
  | .delete, [x, y] => ∃ t, ts.toList.head? = some t ∧ resK (deleteF P s.o t (s.ev x) (s.ev y)) K
  | _, _ => False
def sop (P : Program) (s : S) (fr : Nat) (op : Op) (K : V → List (Nat × Obj') → List Nat → Prop) : Prop :=
  match op with
  | .move x | .assign x => K (s.ev x) [] []
  | .pick c a b => pickV (s.ev c) (s.ev a) (s.ev b) fun v => K v [] []
  | .alloc t => ∃ cs, zeroT P t = some cs ∧ K (.ptr fr 0) [(fr, .row cs)] []
  | .box _ x => ∃ cs, (s.ev x).cells = some cs ∧ K (.ptr fr 0) [(fr, .row cs)] []
  | .build t parts => ∃ z pl cs, zeroT P t = some z ∧ placesT P t = some pl ∧ fillV pl z (parts.toList.map fun p => (p.1, s.ev p.2)) = some cs ∧ K (mkAgg cs) [] []
  | .buildSlice t len parts => buildSliceV P s.o fr t len (parts.toList.map fun p => (p.1, s.ev p.2)) K
  | .load t x => loadV P s.o t (s.ev x) fun v rd => K v [] rd
  | .store t x v => storeV P s.o t (s.ev x) (s.ev v) fun Δ rd => K (.tup []) Δ rd
  | .nilCheck x => nilCheckV s.o (s.ev x) fun v => K v [] []
  | .binOp op t x y _ => binV P op t (s.ev x) (s.ev y) (fun v => K v [] []) ∨ resK (cmpF P s.o op t (isConst x || isConst y) (s.ev x) (s.ev y)) K
  | .unOp op _ x => unV op (s.ev x) (fun v => K v [] []) ∨ (op = .not ∧ s.ev x = .anyb ∧ K .anyb [] [])
  | .convert u t x => (P.underlying u).isSome = true ∧ (match intT P t, s.ev x with
    | some k, .d (.int _ n) => K (.d (.int k (k.wrap n))) [] []
    | _, _ => False)
  | .makeInterface t x => (∃ d, P.underlying t = some d ∧ (match d with | .interface _ => false | _ => true) = true) ∧ (match s.ev x with
    | .d y => K (.d (.iface t y)) [] []
    | v => K (.iface t v) [] [])
  | .makeFunc fn first cap => K (.func fn (first.toList.map s.ev) (cap.toList.map s.ev)) [] []
  | .makeSlice t l c => makeSliceV P fr t (s.ev l) (s.ev c) fun v Δ => K v Δ []
  | .fieldAddr t x f => fieldAddrV P s.o t (s.ev x) f fun v => K v [] []
  | .indexAddr t x i => indexAddrV P s.o t (s.ev x) (s.ev i) fun v rd => K v [] rd
  | .extract x i => match s.ev x with
    | .tup vs => ∃ v, vs[i]? = some v ∧ K v [] []
    | _ => False
  | .slice t x lo hi mx => resK (sliceF P s.o t (s.ev x) (lo.map s.ev) (hi.map s.ev) (mx.map s.ev)) K
  | .field t x f => resK ((fieldF P t (s.ev x) f).map fun v => (v, [], [])) K
  | .index t x i => resK ((indexF P t (s.ev x) (s.ev i)).map fun v => (v, [], [])) K
  | .makeMap t none => resK (makeMapF P fr t) K
  | .lookup t m k ok => resK (lookupF P s.o t (s.ev m) (s.ev k) ok) K
  | .mapUpdate t m k v => resK (mapUpdF P s.o t (s.ev m) (s.ev k) (s.ev v)) K
  | .insert t m k v => resK (mapUpdF P s.o t (s.ev m) (s.ev k) (s.ev v)) K
  | .range t x => resK (rangeF P s.o fr t (s.ev x)) K
  | .next x str => resK (nextF s.o (s.ev x) str) K ∨ (str = false ∧ ∃ id l, leftF s.o (s.ev x) = some (id, l) ∧ nextV id l K)
  | .entry x => resK (entryF s.o (s.ev x)) K
  | .typeAssert x _ t ok => resK ((assertF P t ok (s.ev x)).map fun v => (v, [], [])) K
  | .call c => match c.callee with
    | .builtin b => builtinV P s fr b c.args.toList c.argTypes K
    | _ => False
  | _ => False
end Go.Proofs.YtealblliddhgiaaGreat
namespace Go.Proofs.YtealblliddhgiaaGreat
section
variable {B : Nat → Prop} {φ : Place} {H : Hp} {w : World}
theorem V.dens_length : ∀ (cs : List V) (vs : List Value), V.dens B φ H w cs vs → vs.length = cs.length
  | [], _, h => by simp [V.dens] at h; simp [h]
  | c :: cs, _, h => by obtain ⟨u, us, rfl, _, h2⟩ := h; simp [V.dens_length cs us h2]
theorem V.dens_get : ∀ (cs : List V) (vs : List Value) (i : Nat) (c : V), V.dens B φ H w cs vs → cs[i]? = some c → ∃ v, vs[i]? = some v ∧ V.den B φ H w c v
  | [], _, _, _, _, hd => by simp at hd
  | c :: cs, _, 0, x, h, hd => by
    obtain ⟨u, us, rfl, h1, _⟩ := h
    simp at hd; subst hd; exact ⟨u, by simp, h1⟩
  | c :: cs, _, i + 1, x, h, hd => by
    obtain ⟨u, us, rfl, _, h2⟩ := h
    simpa using V.dens_get cs us i x h2 (by simpa using hd)
theorem V.dens_append : ∀ (cs ds : List V) (us vs : List Value), V.dens B φ H w cs us → V.dens B φ H w ds vs → V.dens B φ H w (cs ++ ds) (us ++ vs)
  | [], ds, us, vs, h, k => by simp [V.dens] at h; subst h; simpa using k
  | c :: cs, ds, _, vs, h, k => by
    obtain ⟨u, us, rfl, h1, h2⟩ := h
    exact ⟨u, us ++ vs, by simp, h1, V.dens_append cs ds us vs h2 k⟩
theorem V.dens_take : ∀ (n : Nat) (cs : List V) (vs : List Value), V.dens B φ H w cs vs → V.dens B φ H w (cs.take n) (vs.take n)
  | 0, _, _, _ => by simp [V.dens]
  | n + 1, [], _, h => by simp [V.dens] at h; subst h; simp [V.dens]
  | n + 1, c :: cs, _, h => by
    obtain ⟨u, us, rfl, h1, h2⟩ := h
    exact ⟨u, us.take n, by simp, h1, V.dens_take n cs us h2⟩
theorem V.dens_drop : ∀ (n : Nat) (cs : List V) (vs : List Value), V.dens B φ H w cs vs → V.dens B φ H w (cs.drop n) (vs.drop n)
  | 0, _, _, h => by simpa using h
  | n + 1, [], _, h => by simp [V.dens] at h; subst h; simp [V.dens]
  | n + 1, c :: cs, _, h => by
    obtain ⟨u, us, rfl, h1, h2⟩ := h
    simpa using V.dens_drop n cs us h2
theorem V.dens_map_d : ∀ (ds : List D) (vs : List Value), V.dens B φ H w (ds.map .d) vs ↔ D.dens B w ds vs
  | [], vs => by simp [V.dens, D.dens]
  | x :: ds, vs => by simp only [List.map_cons, V.dens, D.dens, V.den, V.dens_map_d ds]
theorem D.dens_append : ∀ (cs ds : List D) (us vs : List Value), D.dens B w cs us → D.dens B w ds vs → D.dens B w (cs ++ ds) (us ++ vs)
  | [], ds, us, vs, h, k => by simp [D.dens] at h; subst h; simpa using k
  | c :: cs, ds, _, vs, h, k => by
    obtain ⟨u, us, rfl, h1, h2⟩ := h
    exact ⟨u, us ++ vs, by simp, h1, D.dens_append cs ds us vs h2 k⟩
theorem D.dens_take : ∀ (n : Nat) (cs : List D) (vs : List Value), D.dens B w cs vs → D.dens B w (cs.take n) (vs.take n)
  | 0, _, _, _ => by simp [D.dens]
  | n + 1, [], _, h => by simp [D.dens] at h; subst h; simp [D.dens]
  | n + 1, c :: cs, _, h => by
    obtain ⟨u, us, rfl, h1, h2⟩ := h
    exact ⟨u, us.take n, by simp, h1, D.dens_take n cs us h2⟩
theorem D.dens_drop : ∀ (n : Nat) (cs : List D) (vs : List Value), D.dens B w cs vs → D.dens B w (cs.drop n) (vs.drop n)
  | 0, _, _, h => by simpa using h
  | n + 1, [], _, h => by simp [D.dens] at h; subst h; simp [D.dens]
  | n + 1, c :: cs, _, h => by
    obtain ⟨u, us, rfl, h1, h2⟩ := h
    simpa using D.dens_drop n cs us h2
theorem D.dens_set : ∀ (i : Nat) (ds : List D) (vs : List Value) (x : D) (v : Value), D.dens B w ds vs → D.den B w x v → D.dens B w (ds.set i x) (vs.set i v)
  | _, [], _, _, _, h, _ => by simp [D.dens] at h; subst h; simp [D.dens]
  | 0, c :: cs, _, x, v, h, k => by
    obtain ⟨u, us, rfl, h1, h2⟩ := h
    exact ⟨v, us, by simp, k, h2⟩
  | i + 1, c :: cs, _, x, v, h, k => by
    obtain ⟨u, us, rfl, h1, h2⟩ := h
    exact ⟨u, us.set i v, by simp, h1, D.dens_set i cs us x v h2 k⟩
theorem allD_spec : ∀ (cs : List V) (ds : List D), allD cs = some ds → cs = ds.map .d
  | [], ds, h => by simp [allD] at h; subst h; rfl
  | .d x :: cs, ds, h => by
    simp only [allD, Option.map_eq_some_iff] at h
    obtain ⟨a, h1, rfl⟩ := h
    simp [allD_spec cs a h1]
  | .nils :: _, _, h | .agg _ :: _, _, h | .tup _ :: _, _, h | .ptr _ _ :: _, _, h | .osl _ _ :: _, _, h | .pe _ _ _ _ _ :: _, _, h | .pp _ _ :: _, _, h
  | .func _ _ _ :: _, _, h | .iface _ _ :: _, _, h | .junk :: _, _, h | .csl _ :: _, _, h | .rsl _ _ _ :: _, _, h | .mp _ :: _, _, h | .anyb :: _, _, h => by simp [allD] at h
theorem mkAgg_den (cs : List V) (a : Array Value) (h : V.dens B φ H w cs a.toList) (hf : Flat a.toList) : V.den B φ H w (mkAgg cs) (.agg a) := by
  unfold mkAgg
  split
  · rename_i ds hd
    have := allD_spec cs ds hd
    subst this
    exact ⟨a, rfl, (V.dens_map_d ds _).1 h, hf⟩
  · exact ⟨a, rfl, h, hf⟩
theorem D.den_one : ∀ (x : D) (v : Value), D.den B w x v → (∃ cs a, x = .agg cs ∧ v = .agg a) ∨ v.oneCell' = true ∧ x.cells = [x] ∧ v.cells = #[v]
  | .int _ _, _, h | .bool _, _, h | .nili, _, h | .nilp, _, h | .nilf, _, h | .nilm, _, h => by
    simp only [D.den] at h; subst h; exact .inr ⟨rfl, rfl, rfl⟩
  | .str l, _, h => by obtain ⟨s, rfl, _⟩ := h; exact .inr ⟨rfl, rfl, rfl⟩
  | .agg cs, _, h => by obtain ⟨a, rfl, _, _⟩ := h; exact .inl ⟨cs, a, rfl, rfl⟩
  | .sl es, _, h => by obtain ⟨b, l, c, rfl, _⟩ := h; exact .inr ⟨rfl, rfl, rfl⟩
  | .iface t x, _, h => by obtain ⟨u, rfl, _⟩ := h; exact .inr ⟨rfl, rfl, rfl⟩
  | .mp ks vs, _, h => by obtain ⟨m, es, c, rfl, _⟩ := h; exact .inr ⟨rfl, rfl, rfl⟩
theorem D.den_cells (x : D) (v : Value) (h : D.den B w x v) : D.dens B w x.cells v.cells.toList ∧ Flat v.cells.toList := by
  rcases D.den_one x v h with ⟨cs, a, rfl, rfl⟩ | ⟨h1, h2, h3⟩
  · obtain ⟨a', h1, h2, h3⟩ := h
    injection h1 with h1; subst h1
    exact ⟨h2, h3⟩
  · rw [h2, h3]
    exact ⟨⟨v, [], rfl, h, rfl⟩, by intro u hu; simp at hu; subst hu; exact h1⟩
theorem V.den_one (x : V) (v : Value) (us : List V) (hx : x.cells = some us) (h : V.den B φ H w x v) : V.dens B φ H w us v.cells.toList ∧ Flat v.cells.toList := by
  have one : ∀ (y : V), v.oneCell' = true → V.den B φ H w y v → V.dens B φ H w [y] v.cells.toList ∧ Flat v.cells.toList := by
    intro y h1 h2
    have h3 : v.cells = #[v] := by cases v <;> simp_all [Value.oneCell', Value.cells]
    rw [h3]
    exact ⟨⟨v, [], rfl, h2, rfl⟩, by intro u hu; simp at hu; subst hu; exact h1⟩
  cases x with
  | d x =>
    simp only [V.cells, Option.some.injEq] at hx; subst hx
    have := D.den_cells x v h
    exact ⟨(V.dens_map_d _ _).2 this.1, this.2⟩
  | nils => simp only [V.cells, Option.some.injEq] at hx; subst hx; exact one _ (by cases h; rfl) h
  | agg cs =>
    simp only [V.cells, Option.some.injEq] at hx; subst hx
    obtain ⟨a, rfl, h1, h2⟩ := h
    exact ⟨h1, h2⟩
  | tup vs => simp [V.cells] at hx
  | junk => simp [V.cells] at hx
  | ptr id off => simp only [V.cells, Option.some.injEq] at hx; subst hx; exact one _ h.1 h
  | osl id ep => simp only [V.cells, Option.some.injEq] at hx; subst hx; exact one _ h.1 h
  | pe id ep i sz off => simp only [V.cells, Option.some.injEq] at hx; subst hx; exact one _ h.1 h
  | pp cs off => simp only [V.cells, Option.some.injEq] at hx; subst hx; exact one _ (by obtain ⟨a, ev, _, rfl, _⟩ := h; rfl) h
  | func fn f c => simp only [V.cells, Option.some.injEq] at hx; subst hx; exact one _ (by obtain ⟨a, ev, rfl, _⟩ := h; rfl) h
  | iface t y => simp only [V.cells, Option.some.injEq] at hx; subst hx; exact one _ (by obtain ⟨a, rfl, _⟩ := h; rfl) h
  | csl es => simp only [V.cells, Option.some.injEq] at hx; subst hx; exact one _ (by obtain ⟨_, b, n, rfl⟩ := h; rfl) h
  | rsl id off n => simp only [V.cells, Option.some.injEq] at hx; subst hx; exact one _ h.1 h
  | mp id => simp only [V.cells, Option.some.injEq] at hx; subst hx; exact one _ h.1 h
  | yld id => simp only [V.cells, Option.some.injEq] at hx; subst hx; exact one _ h.1 h
  | anyb => simp only [V.cells, Option.some.injEq] at hx; subst hx; exact one _ (by obtain ⟨a, rfl⟩ := h; rfl) h
theorem ofScalar_den (v : Value) (h : v.oneCell' = true) : V.den B φ H w (V.ofScalar v) v := by
  cases v <;> simp_all only [Value.oneCell', V.ofScalar, V.den, D.den] <;> try trivial
  all_goals (try (split <;> simp_all [V.den, D.den]))
  all_goals (try first | (simp_all [D.den]; done) | simp_all)
theorem ofScalars_dens : ∀ (vs : List Value), Flat vs → V.dens B φ H w (vs.map V.ofScalar) vs
  | [], _ => rfl
  | v :: vs, h => ⟨v, vs, rfl, ofScalar_den v (h v (by simp)), ofScalars_dens vs fun u hu => h u (by simp [hu])⟩
end
end Go.Proofs.YtealblliddhgiaaGreat
