/- A part of the proofs of the statements BatchTells and BatchNumbers: Fl0, Vm0, Vm1, Vs0. Conditions: none of its own. -/
import GoSem.Core.Float
import GoSem.Op.FloatCmp
import GoSem.Conv.FloatToInt
import GoSem.Extern.MathFloor
import Derived.Calls
import Derived.Orders
import Derived.Laws.Cells
import Derived.Laws.CopyRow
set_option linter.unusedSimpArgs false
set_option linter.unusedVariables false
set_option linter.unnecessarySimpa false
set_option linter.all false
/-! Whole numbers below 2 ^ 53 as float64: exactly. -/
namespace Go.Fl
set_option exponentiation.threshold 2000

def fl (n : Nat) : Nat := Ieee.double.nearest false n 0

theorem log2_lt {n : Nat} (h0 : n ≠ 0) (h : n < 2 ^ 53) : n.log2 ≤ 52 := by
  have := (Nat.log2_lt h0).2 h
  omega

theorem scaled {n : Nat} (h0 : n ≠ 0) (h : n < 2 ^ 53) : 2 ^ 52 ≤ n * 2 ^ (52 - n.log2) ∧ n * 2 ^ (52 - n.log2) < 2 ^ 53 := by
  have hl := log2_lt h0 h
  have h1 := Nat.log2_self_le h0
  have h2 : n < 2 ^ (n.log2 + 1) := Nat.lt_log2_self
  constructor
  · calc 2 ^ 52 = 2 ^ n.log2 * 2 ^ (52 - n.log2) := by rw [← Nat.pow_add]; congr 1; omega
      _ ≤ n * 2 ^ (52 - n.log2) := Nat.mul_le_mul_right _ h1
  · calc n * 2 ^ (52 - n.log2) < 2 ^ (n.log2 + 1) * 2 ^ (52 - n.log2) := Nat.mul_lt_mul_of_pos_right h2 (Nat.two_pow_pos _)
      _ = 2 ^ 53 := by rw [← Nat.pow_add]; congr 1; omega

theorem cut_even_zero (neg : Bool) (n : Nat) : Ieee.Toward.even.cut neg n 0 = n := by
  unfold Ieee.Toward.cut
  simp [Nat.mod_one]

theorem fl_eq {n : Nat} (h0 : n ≠ 0) (h : n < 2 ^ 53) : fl n = (1022 + n.log2) * 2 ^ 52 + n * 2 ^ (52 - n.log2) := by
  have hl := log2_lt h0 h
  obtain ⟨h1, h2⟩ := scaled h0 h
  unfold fl Ieee.Format.nearest
  rw [if_neg h0]
  have hlast : max ((0 : Int) + n.log2 - Ieee.double.fractionBits) Ieee.double.leastPlace = (n.log2 : Int) - 52 := by
    have : Ieee.double.leastPlace = -1074 := by decide
    rw [this]
    have : Ieee.double.fractionBits = 52 := rfl
    rw [this]
    omega
  simp only [hlast]
  have e1 : ((n.log2 : Int) - 52 - 0).toNat = 0 := by omega
  have e2 : ((0 : Int) - ((n.log2 : Int) - 52)).toNat = 52 - n.log2 := by omega
  have e3 : ((n.log2 : Int) - 52 - Ieee.double.leastPlace).toNat = 1022 + n.log2 := by
    have : Ieee.double.leastPlace = -1074 := by decide
    rw [this]; omega
  rw [e1, e2, e3, cut_even_zero, Nat.shiftLeft_eq]
  have e4 : Ieee.double.binade = 2 ^ 52 := rfl
  have e5 : Ieee.double.infRung = 2047 * 2 ^ 52 := rfl
  rw [e4, e5]
  unfold Ieee.Format.word
  simp only [Bool.false_eq_true, if_false]
  rw [Nat.min_eq_left]
  omega

theorem read_fl {n : Nat} (h0 : n ≠ 0) (h : n < 2 ^ 53) : Ieee.double.read (fl n) = .number false (n * 2 ^ (52 - n.log2)) ((n.log2 : Int) - 52) := by
  have hl := log2_lt h0 h
  obtain ⟨h1, h2⟩ := scaled h0 h
  rw [fl_eq h0 h]
  generalize hm : n * 2 ^ (52 - n.log2) = m at *
  generalize n.log2 = l at *
  unfold Ieee.Format.read
  have e0 : Ieee.double.signWeight = 2 ^ 63 := rfl
  have e4 : Ieee.double.binade = 2 ^ 52 := rfl
  have e5 : Ieee.double.infRung = 2047 * 2 ^ 52 := rfl
  have e6 : Ieee.double.leastPlace = -1074 := by decide
  rw [e0, e4, e5, e6]
  have hw : (1022 + l) * 2 ^ 52 + m < 2 ^ 63 := by omega
  have d0 : ((1022 + l) * 2 ^ 52 + m) / 2 ^ 63 = 0 := Nat.div_eq_of_lt hw
  have d1 : ((1022 + l) * 2 ^ 52 + m) % 2 ^ 63 = (1022 + l) * 2 ^ 52 + m := Nat.mod_eq_of_lt hw
  simp only [d0, d1]
  rw [if_neg (by omega), if_pos (by omega)]
  have d2 : ((1022 + l) * 2 ^ 52 + m) / 2 ^ 52 = 1023 + l := by omega
  have d3 : ((1022 + l) * 2 ^ 52 + m) % 2 ^ 52 = m - 2 ^ 52 := by omega
  rw [d2, d3]
  have d4 : 2 ^ 52 + (m - 2 ^ 52) = m := by omega
  have d5 : ((0 % 2 : Nat) == 1) = false := rfl
  have d6 : (-1074 : Int) + ((1023 + l - 1 : Nat) : Int) = (l : Int) - 52 := by omega
  rw [d4, d5, d6]

theorem fl_zero : fl 0 = 0 := rfl
theorem read_zero : Ieee.double.read (fl 0) = .number false 0 (-1074) := by decide +kernel

/-- What a whole number's word stands for. -/
theorem read_any {n : Nat} (h : n < 2 ^ 53) : ∃ m i : Nat, Ieee.double.read (fl n) = .number false m (-(i : Int)) ∧ m = n * 2 ^ i ∧ i ≤ 1074 ∧ (n ≠ 0 → m < 2 ^ 53 ∧ 2 ^ 52 ≤ m ∧ i ≤ 52) := by
  by_cases h0 : n = 0
  · subst h0; exact ⟨0, 1074, read_zero, by simp, by omega, fun h => absurd rfl h⟩
  · have hl := log2_lt h0 h
    obtain ⟨h1, h2⟩ := scaled h0 h
    exact ⟨_, 52 - n.log2, by rw [read_fl h0 h, show (n.log2 : Int) - 52 = -((52 - n.log2 : Nat) : Int) from by omega], rfl, by omega, fun _ => ⟨h2, h1, by omega⟩⟩

theorem order_fl {a b : Nat} (ha : a < 2 ^ 53) (hb : b < 2 ^ 53) : Ieee.double.order (fl a) (fl b) = some (compare a b) := by
  obtain ⟨m, i, h1, hm, -, -⟩ := read_any ha
  obtain ⟨n, j, h2, hn, -, -⟩ := read_any hb
  unfold Ieee.Format.order
  rw [h1, h2]
  simp only [Ieee.Datum.order, Ieee.signed, Bool.false_eq_true, if_false]
  have e1 : (-(i : Int) - min (-(i : Int)) (-(j : Int))).toNat = max i j - i := by omega
  have e2 : (-(j : Int) - min (-(i : Int)) (-(j : Int))).toNat = max i j - j := by omega
  rw [e1, e2, Nat.shiftLeft_eq, Nat.shiftLeft_eq, hm, hn, Nat.mul_assoc, Nat.mul_assoc, ← Nat.pow_add, ← Nat.pow_add,
    show i + (max i j - i) = max i j from by omega, show j + (max i j - j) = max i j from by omega]
  have hp : 0 < 2 ^ max i j := Nat.two_pow_pos _
  generalize 2 ^ max i j = p at hp
  congr 1
  have l1 : ((a * p : Nat) : Int) < ((b * p : Nat) : Int) ↔ a < b := by
    rw [Int.ofNat_lt]
    exact Nat.mul_lt_mul_right hp
  have l2 : ((a * p : Nat) : Int) = ((b * p : Nat) : Int) ↔ a = b := by
    rw [Int.ofNat_inj]
    exact Nat.mul_left_inj (by omega)
  show compareOfLessAndEq _ _ = compareOfLessAndEq _ _
  unfold compareOfLessAndEq
  by_cases h1 : a < b
  · rw [if_pos h1, if_pos (l1.2 h1)]
  · rw [if_neg h1, if_neg (fun h => h1 (l1.1 h))]
    by_cases h2 : a = b
    · rw [if_pos h2, if_pos (l2.2 h2)]
    · rw [if_neg h2, if_neg (fun h => h2 (l2.1 h))]

theorem integral_fl {n : Nat} (h : n < 2 ^ 53) : (Ieee.double.read (fl n)).integral .zero = .number false n 0 := by
  obtain ⟨m, i, h1, hm, -, h3⟩ := read_any h
  rw [h1]
  unfold Ieee.Datum.integral
  have e1 : (-(i : Int)).toNat = 0 := by omega
  have e2 : (-(-(i : Int))).toNat = i := by omega
  simp only [e1, e2, Nat.shiftLeft_zero]
  congr 1
  unfold Ieee.Toward.cut
  simp only [Bool.toNat_false, Nat.add_zero, Nat.shiftLeft_eq, Nat.one_mul]
  by_cases h0 : n = 0
  · subst h0; simp at hm; subst hm; simp
  · obtain ⟨-, h4, h5⟩ := h3 h0
    have hl : 52 ≤ m.log2 := (Nat.le_log2 (by omega)).2 h4
    rw [Nat.min_eq_left (by omega), hm]
    exact Nat.mul_div_cancel _ (Nat.two_pow_pos _)

theorem toInt_fl {n : Nat} (h : n < 2 ^ 53) : (Ieee.double.read (fl n)).toInt .zero = some (n : Int) := by
  unfold Ieee.Datum.toInt
  rw [integral_fl h]
  simp [Ieee.signed]

theorem write_fl {n : Nat} : Ieee.double.write (.number false n 0) = fl n := rfl

theorem nearest_fl (n : Nat) : FloatKind.f64.nearest (n : Int) = fl n := by
  unfold FloatKind.nearest FloatKind.encode
  have : decide ((n : Int) < 0) = false := by simp
  rw [this]
  rfl

theorem fl_inj {a b : Nat} (ha : a < 2 ^ 53) (hb : b < 2 ^ 53) (h : fl a = fl b) : a = b := by
  have h1 := toInt_fl ha
  rw [h, toInt_fl hb] at h1
  injection h1 with h1
  omega

end Go.Fl
namespace Go.Vm

/-- Pure, immutable data. -/
inductive D where
  | int (k : IntKind) (n : Int)
  | bool (b : Bool)
  | float (k : FloatKind) (bits : Nat)
  | complex (k : FloatKind) (re im : Nat)
  | str (s : ByteArray)
  | lst (xs : List (List D))
  | nilp | nilm | nilf | nili
  deriving Inhabited

/-- What a temporary or a cell may hold. -/
inductive V where
  | d (x : D)
  | nils
  | arr (id off len : Nat)
  | ptr (id i k : Nat)
  | dptr (cells : List D) (k : Nat)
  | clo (f : FuncId) (first caps : List V)
  | agg (cells : List V)
  | tup (vs : List V)
  | bot
  deriving Inhabited

inductive Obj where
  | row (s : Nat) (xs : List (List D))
  | box (cells : List V)
  | imm (s : Nat) (xs : List (List D))
  deriving Inhabited

abbrev Store := List (Option Obj)

def Store.get (σ : Store) (i : Nat) : Option Obj := (σ[i]?).join
def Store.put (σ : Store) (i : Nat) (o : Option Obj) : Store :=
  if i < σ.length then σ.set i o else σ ++ List.replicate (i - σ.length) none ++ [o]

inductive O where
  | t (i : Nat)
  | k (v : V)
  deriving Inhabited

/-- An operation. -/
inductive X where
  | mv (x : O)
  | pick (c a b : O)
  | new (zero : List V)
  | box (n : Nat) (x : O)
  | build (zero : List V) (parts : List (Nat × Nat × O))
  | lit (s len : Nat) (zero : List V) (parts : List (Nat × O))
  | ld (agg : Bool) (n : Nat) (a : O)
  | st (n : Nat) (a x : O)
  | nchk (x : O)
  | fa (off : Nat) (x : O)
  | fld (agg : Bool) (off n : Nat) (x : O)
  | ixs (s : Nat) (x i : O)
  | ixa (len s : Nat) (x i : O)
  | sl (s : Nat) (x : O) (lo hi : Option O)
  | len (x : O)
  | slen (x : O)
  | cap (x : O)
  | app (s bytes : Nat) (a b : O)
  | appz (s bytes : Nat) (zero : List V) (a n : O)
  | cpy (s : Nat) (a b : O)
  | clr (s : Nat) (zero : List V) (a : O)
  | mks (s bytes : Nat) (zero : List V) (l c : O)
  | mkf (f : FuncId) (first caps : List O)
  | ext (x : O) (i : Nat)
  | call (f : FuncId) (args : List O)
  | callv (f : O) (args : List O)
  | bin (op : BinOp) (ty : TypeId) (x y : O)
  | isnil (kind : Nat) (neg : Bool) (x : O)
  | beq (neg : Bool) (x y : O)
  | not (x : O)
  | die
  | sidx (x i : O)
  | conv (k : IntKind) (x : O)
  | sc (o : Op) (ty : TypeId) (args : List O)
  deriving Inhabited

/-- An operation in its place: where it writes, what guards it. -/
structure Y where
  dst : Option Nat
  g : Option (Nat × Bool)
  x : X
  deriving Inhabited

inductive C where
  | skip
  | reg (ys : List Y)
  | any (ys : List Y) (free : List (Nat × Nat))
  | seq (a b : C)
  | cond (c : O) (a b : C)
  | blk (id : Nat) (a : C)
  | loop (live out : Nat) (a : C)
  | exit (id : Nat)
  | ret
  deriving Inhabited

structure F where
  ntmps : Nat
  nargs : Nat
  refs : List Bool
  own : List Bool
  results : List (Nat ⊕ (Bool × Nat × Nat))
  body : C
  deriving Inhabited

structure Fr where
  tmps : List V
  σ : Store
  deriving Inhabited

inductive Ex where
  | norm
  | exit (id : Nat)
  | ret

/-! ### Scalars -/
def pureRun {α : Type} (P : Program) : Sem α → Option α
  | .pure a => some a
  | .program k => pureRun P (k P)
  | .mark _ k => pureRun P k
  | _ => none

def D.val : D → Option Value
  | .int k n => some (.int k n)
  | .bool b => some (.bool b)
  | .float k b => some (.float k b)
  | .complex k a b => some (.complex k a b)
  | .str s => some (.string s)
  | .lst _ => none
  | .nilp => some (.pointer none)
  | .nilm => some (.map none)
  | .nilf => some .nilFunc
  | .nili => some .nilIface

def ofVal : Value → Option D
  | .int k n => some (.int k n)
  | .bool b => some (.bool b)
  | .float k b => some (.float k b)
  | .complex k a b => some (.complex k a b)
  | .string s => some (.str s)
  | .pointer none => some .nilp
  | .map none => some .nilm
  | .nilFunc => some .nilf
  | .nilIface => some .nili
  | _ => none

def leafVal : V → Option Value
  | .d x => x.val
  | .nils => some (.slice none 0 0)
  | _ => none
def leafOf (v : Value) : Option V := match v with | .slice none 0 0 => some .nils | v => (ofVal v).map .d

def V.val : V → Option Value
  | .d x => x.val
  | .nils => some (.slice none 0 0)
  | .agg cells => (cells.mapM leafVal).map fun (l : List Value) => .agg l.toArray
  | _ => none

def ofValV : Value → Option V
  | .slice none 0 0 => some .nils
  | .agg cs => (cs.toList.mapM leafOf).map V.agg
  | .tuple cs => (cs.toList.mapM leafOf).map V.tup
  | v => (ofVal v).map .d

def O.ev (ts : List V) : O → V
  | .t i => ts.getD i .bot
  | .k v => v

def evOpd (ts : List V) : Operand → Option Value
  | .tmp t => (ts.getD t .bot).val
  | .const v => some v
  | .func f => some (.func (.func f) #[] #[])
  | _ => none

/-- An operation on scalars alone: as the model has it. -/
def scal (P : Program) (ts : List V) (o : Op) (ty : TypeId) : Option V :=
  if o.operands.all fun x => (evOpd ts x).isSome then
    match pureRun P (execOp (fun x => (evOpd ts x).getD undef) { dst := none, op := o, type := ty, pos := "", after := #[], guard := none }) with
    | some (.value v) => ofValV v
    | _ => none
  else none

def binD (P : Program) (op : BinOp) (ty : TypeId) (a b : V) : Option V :=
  match a, b with
  | .d a, .d b =>
    match a, b with
    | .int k x, .int k' y =>
      if k = k' then (pureRun P (binOp op ty (.int k x) (.int k' y))).bind fun v => (ofVal v).map .d
      else match op with
        | .shl | .shr => (pureRun P (binOp op ty (.int k x) (.int k' y))).bind fun v => (ofVal v).map .d
        | _ => none
    | .str x, .str y => (pureRun P (binOp op ty (.string x) (.string y))).bind fun v => (ofVal v).map .d
    | .complex k x y, .complex k' x' y' => (pureRun P (binOp op ty (.complex k x y) (.complex k' x' y'))).bind fun v => (ofVal v).map .d
    | .float k x, .float k' y => (pureRun P (binOp op ty (.float k x) (.float k' y))).bind fun v => (ofVal v).map .d
    | _, _ => none
  | _, _ => none

/-! ### Freezing -/
/-- The elements of a slice. -/
def elems (σ : Store) : V → Option (List (List D))
  | .nils => some []
  | .d (.lst xs) => some xs
  | .arr id off len => match σ.get id with
    | some (.row _ xs) | some (.imm _ xs) => if off + len ≤ xs.length then some ((xs.drop off).take len) else none
    | _ => none
  | _ => none

def freezeCell (σ : Store) : V → Option D
  | .d x => some x
  | v => (elems σ v).map .lst

/-- The rows that a value's freezing freezes. -/
def frozenIds : V → List Nat
  | .arr id _ _ => [id]
  | .agg cells => cells.filterMap fun | .arr id _ _ => some id | _ => none
  | _ => []

def freezeV (σ : Store) : V → V
  | .agg cells => .agg (cells.map fun c => ((freezeCell σ c).map V.d).getD c)
  | v => ((freezeCell σ v).map V.d).getD v

def toImm : Option Obj → Option Obj
  | some (.row s xs) => some (.imm s xs)
  | o => o

def Store.freeze (σ : Store) (ids : List Nat) : Store := ids.foldl (fun σ i => σ.put i (toImm (σ.get i))) σ

def V.cells : V → List V
  | .agg cs => cs
  | v => [v]

/-! ### Memory -/
def readAt (σ : Store) (n : Nat) : V → Option (List V)
  | .ptr id i k => match σ.get id with
    | some (.box cs) => if i = 0 ∧ k + n ≤ cs.length then some ((cs.drop k).take n) else none
    | some (.row _ xs) | some (.imm _ xs) => match xs[i]? with
      | some x => if k + n ≤ x.length then some (((x.drop k).take n).map .d) else none
      | none => none
    | none => none
  | .dptr cs k => if k + n ≤ cs.length then some (((cs.drop k).take n).map .d) else none
  | _ => none

def okV : V → Bool
  | .bot | .tup _ => false
  | _ => true

def mkAgg (agg : Bool) (cs : List V) : Option V :=
  if agg then some (.agg cs) else match cs with | [c] => some c | _ => none

def splice {α : Type} (xs : List α) (k : Nat) (ys : List α) : List α := xs.take k ++ ys ++ xs.drop (k + ys.length)

/-- A store's delta. -/
abbrev Delta := List (Nat × Option Obj)
def Store.app (σ : Store) (δ : Delta) : Store := δ.foldl (fun σ p => σ.put p.1 p.2) σ

def frz (σ : Store) (ids : List Nat) : Delta := ids.map fun i => (i, toImm (σ.get i))

def writeAt (σ : Store) (n : Nat) (a x : V) : Option Delta :=
  if x.cells.length ≠ n ∨ okV x = false then none else
  match a with
  | .ptr id i k => match σ.get id with
    | some (.box cs) => if i = 0 ∧ k + n ≤ cs.length then some [(id, some (.box (splice cs k x.cells)))] else none
    | some (.row s xs) => match xs[i]?, x.cells.mapM (freezeCell σ) with
      | some e, some ds => if k + n ≤ e.length ∧ id ∉ frozenIds x then some (frz σ (frozenIds x) ++ [(id, some (.row s (xs.set i (splice e k ds))))]) else none
      | _, _ => none
    | _ => none
  | _ => none

def fill (cells : List V) : List (Nat × Nat × V) → Option (List V)
  | [] => some cells
  | (off, size, v) :: rest =>
    if v.cells.length ≠ size ∨ off + size > cells.length ∨ okV v = false then none else fill (splice cells off v.cells) rest

def asInt : V → Option Int
  | .d (.int _ n) => some n
  | _ => none

def bound (hi : Int) : Option V → (dflt : Nat) → Option Nat
  | none, dflt => some dflt
  | some v, _ => match asInt v with
    | some n => if 0 ≤ n ∧ n ≤ hi then some n.toNat else none
    | none => none

def sliceV (σ : Store) (s : Nat) (x : V) (lo hi : Option V) : Option V :=
  match x with
  | .d (.str t) => if s ≠ 0 then none else (bound t.size hi t.size).bind fun h => (bound h lo 0).bind fun l => some (.d (.str (t.extract l h)))
  | .nils => if s = 0 then none else (bound 0 hi 0).bind fun h => (bound h lo 0).bind fun _ => some .nils
  | .d (.lst xs) => if s = 0 ∨ xs.all (·.length == s) = false then none else (bound xs.length hi xs.length).bind fun h => (bound h lo 0).bind fun l => some (.d (.lst ((xs.take h).drop l)))
  | .arr id off len => match σ.get id with
    | some (.row s' xs) | some (.imm s' xs) =>
      if off + len ≤ xs.length ∧ s' = s then (bound ((xs.length - off : Nat) : Int) hi len).bind fun h => (bound h lo 0).bind fun l => some (.arr id (off + l) (h - l)) else none
    | _ => none
  | _ => none

def lenV : V → Option Nat
  | .nils => some 0
  | .d (.lst xs) => some xs.length
  | .arr _ _ len => some len
  | _ => none

/-- What is appended: as elements. -/
def srcElems (σ : Store) : V → Option (List (List D))
  | .d (.str s) => some (s.data.toList.map fun b => [D.int .u8 b.toNat])
  | v => elems σ v

def small (n bytes : Nat) : Bool := (n ≤ 4294967296 && bytes ≤ 4096) || (n ≤ 4398046511104 && bytes ≤ 32)

def appendV (σ : Store) (nxt s bytes : Nat) (a : V) (ys : List (List D)) : Option (V × Delta) :=
  if ys.length = 0 then (match lenV a with | some _ => some (a, []) | none => none) else
  if !ys.all (·.length == s) then none else
  match a with
  | .nils => if small ys.length bytes then some (.arr nxt 0 ys.length, [(nxt, some (.row s ys))]) else none
  | .arr id off len => match σ.get id with
    | some (.row s' xs) =>
      if s' ≠ s then none
      else if off + len = xs.length then
        if small (xs.length + ys.length) bytes then some (.arr nxt 0 (len + ys.length), [(id, none), (nxt, some (.row s (xs.drop off ++ ys)))]) else none
      else if off + len + ys.length ≤ xs.length then some (.arr id off (len + ys.length), [(id, some (.row s (splice xs (off + len) ys)))])
      else none
    | _ => none
  | _ => none

def copyV (σ : Store) (s : Nat) (a b : V) : Option (V × Delta) :=
  match a, elems σ b with
  | .nils, some _ => some (.d (.int .i64 0), [])
  | .arr id off len, some ys => match σ.get id with
    | some (.row s' xs) =>
      if s' = s ∧ off + len ≤ xs.length ∧ ys.all (·.length == s) then
        some (.d (.int .i64 (min ys.length len : Nat)), [(id, some (.row s (splice xs off (ys.take len))))])
      else none
    | _ => none
  | _, _ => none

def zeroD (zero : List V) : Option (List D) := zero.mapM fun | .d x => some x | .nils => some (.lst []) | _ => none

/-- A value that isn't nil, or is, by the kind of its type. -/
def nilRun (k : Nat) (v : V) : Option Bool := match k, v with
  | 0, .d .nilp | 1, .nils | 2, .d .nilm | 3, .d .nilf | 4, .d .nili => some true
  | 0, .ptr .. | 0, .dptr .. | 3, .clo .. => some false
  | 1, .arr _ _ len => if len = 0 then none else some false
  | 1, .d (.lst xs) => if xs.length = 0 then none else some false
  | _, _ => none

/-! ### Calls: what is passed on, and what comes back -/
/-- The ids in a value. -/
def V.ids : V → List Nat
  | .arr id _ _ => [id]
  | .ptr id _ _ => [id]
  | .clo _ first caps => idsL first ++ idsL caps
  | .agg cells => idsL cells
  | .tup vs => idsL vs
  | _ => []
where idsL : List V → List Nat
  | [] => []
  | v :: r => v.ids ++ idsL r

def Obj.ids : Obj → List Nat
  | .box cells => V.ids.idsL cells
  | _ => []

def V.ren (f : Nat → Option Nat) : V → V
  | .arr id off len => match f id with | some j => .arr j off len | none => .bot
  | .ptr id i k => match f id with | some j => .ptr j i k | none => .bot
  | .clo g first caps => .clo g (renL f first) (renL f caps)
  | .agg cells => .agg (renL f cells)
  | .tup vs => .tup (renL f vs)
  | v => v
where renL (f : Nat → Option Nat) : List V → List V
  | [] => []
  | v :: r => v.ren f :: renL f r

def Obj.ren (f : Nat → Option Nat) : Obj → Obj
  | .box cells => .box (V.ren.renL f cells)
  | o => o

/-- New ids only, in order. -/
def addIds (seen : List Nat) : List Nat → List Nat
  | [] => seen
  | i :: r => addIds (if seen.contains i then seen else seen ++ [i]) r

/-- What is reached from some ids. -/
def reach (σ : Store) : Nat → List Nat → List Nat
  | 0, seen => seen
  | n + 1, seen =>
    let more := addIds seen (seen.flatMap fun i => match σ.get i with | some o => o.ids | none => [])
    if more.length = seen.length then seen else reach σ n more

def live (σ : Store) (l : List Nat) : List Nat := l.filter fun i => (σ.get i).isSome

/-- The objects of some ids, told by their places. -/
def pack (σ : Store) (l : List Nat) : Store := l.map fun i => (σ.get i).map (Obj.ren fun j => l.idxOf? j)

/-- Forget what is not reached; number the rest anew (the first m stay). -/
def gc (m : Nat) (vs : List V) (σ : Store) : List V × Store :=
  let l := reach σ 64 (addIds (List.range m) (live σ (V.ids.idsL vs)))
  let l := l.filter fun i => i < m || (σ.get i).isSome
  (V.ren.renL (fun j => l.idxOf? j) vs, pack σ l)


/-- The store that a callee sees: the objects of its arguments' ids. -/
def callIds (σ : Store) (args : List V) : List Nat :=
  reach σ 64 (addIds [] (live σ (V.ids.idsL args)))

/-- Which arguments are frozen ahead of a call: those that aren't passed by reference. -/
def frzArgs (refs : List Bool) (args : List V) : List Nat :=
  (args.zipIdx.filter fun (_, i) => !refs.getD i false).flatMap fun (v, _) => frozenIds v
def passArgs (σ : Store) (refs : List Bool) (args : List V) : List V :=
  args.zipIdx.map fun (v, i) => if refs.getD i false then v else freezeV σ v

/-- No list in a value: nothing that it leads to lies in memory. -/
def D.flat : D → Bool
  | .lst _ => false
  | _ => true
def V.flat : V → Bool
  | .d x => x.flat
  | .agg cells => cells.all fun | .d x => x.flat | _ => false
  | .tup vs => vs.all fun | .d x => x.flat | _ => false
  | _ => false

abbrev Env := FuncId → List V → Store → Option (V × Store)

/-- One operation: its value, and how the store changes. New objects get the numbers nxt, nxt + 1, .. -/
def callX (Γ : Env) (refs : List Bool) (f : FuncId) (args : List V) (σ : Store) (nxt : Nat) : Option (V × Delta) :=
  let fr := frzArgs refs args
  let l := callIds σ (passArgs σ refs args)
  if (fr.any fun i => l.contains i) || (l.any fun i => nxt ≤ i) then none else
  match Γ f (V.ren.renL (fun j => l.idxOf? j) (passArgs σ refs args)) (pack σ l) with
  | none => none
  | some (v, σ') =>
    let back := fun j => if j < l.length then l[j]? else some (nxt + (j - l.length))
    some (v.ren back,
      (if l.isEmpty && v.flat && σ'.isEmpty then [] else frz σ fr) ++ (σ'.zipIdx.map fun (o, j) => ((back j).getD 0, o.map (Obj.ren back))))

def opV (P : Program) (Γ : Env) (R : FuncId → List Bool) (ts : List V) (σ : Store) (nxt : Nat) : X → Option (V × Delta)
  | .mv x => some (x.ev ts, [])
  | .pick c a b => match c.ev ts with
    | .d (.bool t) => some (bif t then a.ev ts else b.ev ts, [])
    | _ => none
  | .new zero => some (.ptr nxt 0 0, [(nxt, some (.box zero))])
  | .box n x => if (x.ev ts).cells.length = n ∧ okV (x.ev ts) = true then some (.ptr nxt 0 0, [(nxt, some (.box (x.ev ts).cells))]) else none
  | .build zero parts => (fill zero (parts.map fun (o, s, x) => (o, s, x.ev ts))).map fun cs => (.agg cs, [])
  | .lit s len zero parts =>
    if s = 0 ∨ zero.length ≠ s then none else
    match fill ((List.replicate len zero).flatten) (parts.map fun (i, x) => (i * s, s, x.ev ts)) with
    | some cs => match cs.mapM (freezeCell σ) with
      | some ds =>
        some (.arr nxt 0 len, frz σ (frozenIds (.agg cs)) ++ [(nxt, some (.row s ((List.range len).map fun i => (ds.drop (i * s)).take s)))])
      | none => none
    | none => none
  | .ld agg n a => (readAt σ n (a.ev ts)).bind fun cs => (mkAgg agg cs).map fun v => (v, [])
  | .st n a x => (writeAt σ n (a.ev ts) (x.ev ts)).map fun δ => (.bot, δ)
  | .nchk x => match x.ev ts with
    | .ptr id i k => some (.ptr id i k, [])
    | .dptr c k => some (.dptr c k, [])
    | .clo f a b => some (.clo f a b, [])
    | _ => none
  | .fa off x => match x.ev ts with
    | .ptr id i k => some (.ptr id i (k + off), [])
    | .dptr c k => some (.dptr c (k + off), [])
    | _ => none
  | .fld agg off n x => match x.ev ts with
    | .agg cs => if off + n ≤ cs.length then (mkAgg agg ((cs.drop off).take n)).map fun v => (v, []) else none
    | _ => none
  | .ixs s x i => match asInt (i.ev ts) with
    | none => none
    | some n =>
      if n < 0 then none else
      match x.ev ts with
      | .d (.lst xs) => match xs[n.toNat]? with
        | some e => if e.length = s then some (.dptr e 0, []) else none
        | none => none
      | .arr id off len => if n < len then match σ.get id with
        | some (.row s' xs) | some (.imm s' xs) => if s' = s ∧ off + n.toNat < xs.length then some (.ptr id (off + n.toNat) 0, []) else none
        | _ => none else none
      | _ => none
  | .ixa len s x i => match asInt (i.ev ts) with
    | none => none
    | some n =>
      if n < 0 ∨ len ≤ n then none else
      match x.ev ts with
      | .ptr id i k => some (.ptr id i (k + n.toNat * s), [])
      | .dptr c k => some (.dptr c (k + n.toNat * s), [])
      | _ => none
  | .sl s x lo hi => (sliceV σ s (x.ev ts) (lo.map (O.ev ts)) (hi.map (O.ev ts))).map fun v => (v, [])
  | .len x => (lenV (x.ev ts)).map fun n => (.d (.int .i64 n), [])
  | .slen x => match x.ev ts with
    | .d (.str s) => some (.d (.int .i64 s.size), [])
    | _ => none
  | .cap x => match x.ev ts with
    | .nils => some (.d (.int .i64 0), [])
    | _ => none
  | .app s bytes a b => (srcElems σ (b.ev ts)).bind fun ys => appendV σ nxt s bytes (a.ev ts) ys
  | .appz s bytes zero a n => match asInt (n.ev ts), zeroD zero with
    | some n, some z => if n < 0 ∨ z.length ≠ s ∨ ¬ small n.toNat bytes then none else appendV σ nxt s bytes (a.ev ts) (List.replicate n.toNat z)
    | _, _ => none
  | .cpy s a b => copyV σ s (a.ev ts) (b.ev ts)
  | .clr s zero a => match a.ev ts, zeroD zero with
    | .nils, some _ => some (.tup [], [])
    | .arr id off len, some z =>
      if len = 0 then some (.tup [], []) else
      (copyV σ s (.arr id off len) (.d (.lst (List.replicate len z)))).map fun p => (.tup [], p.2)
    | _, _ => none
  | .mks s bytes zero l c => match asInt (l.ev ts), asInt (c.ev ts), zeroD zero with
    | some l, some c, some z =>
      if 0 ≤ l ∧ l ≤ c ∧ small c.toNat bytes ∧ z.length = s ∧ s ≠ 0 then some (.arr nxt 0 l.toNat, [(nxt, some (.row s (List.replicate c.toNat z)))]) else none
    | _, _, _ => none
  | .mkf f first caps =>
    if (first ++ caps).all fun x => okV (x.ev ts) then some (.clo f (first.map (O.ev ts)) (caps.map (O.ev ts)), []) else none
  | .ext x i => match x.ev ts with
    | .tup vs => (vs[i]?).map fun v => (v, [])
    | _ => none
  | .call f args => callX Γ (R f) f (args.map (O.ev ts)) σ nxt
  | .callv f args => match f.ev ts with
    | .clo g first caps => callX Γ (R g) g (first ++ args.map (O.ev ts) ++ caps) σ nxt
    | _ => none
  | .bin op ty x y => (binD P op ty (x.ev ts) (y.ev ts)).map fun v => (v, [])
  | .isnil kind neg x => (nilRun kind (x.ev ts)).map fun b => (.d (.bool (bif neg then !b else b)), [])
  | .beq neg x y => match x.ev ts, y.ev ts with
    | .d (.bool a), .d (.bool b) => some (.d (.bool (bif neg then a != b else a == b)), [])
    | _, _ => none
  | .die => none
  | .not x => match x.ev ts with
    | .d (.bool b) => some (.d (.bool (!b)), [])
    | _ => none
  | .sidx x i => match x.ev ts, asInt (i.ev ts) with
    | .d (.str s), some n => if 0 ≤ n then match s.data[n.toNat]? with
      | some b => some (.d (.int .u8 b.toNat), [])
      | none => none else none
    | _, _ => none
  | .conv k x => match x.ev ts with
    | .d (.int _ n) => some (.d (.int k (k.wrap n)), [])
    | _ => none
  | .sc o ty _ => (scal P ts o ty).map fun v => (v, [])

def putO (ts : List V) (d : Option Nat) (v : V) : List V := match d with | some i => ts.set i v | none => ts

def wanted (ts : List V) (ys : List Y) : Option (Nat × Bool) → Option Bool
  | none => some true
  | some (j, b) => match (ys[j]?).bind (·.dst) with
    | some t => match ts.getD t .bot with
      | .d (.bool x) => some (x == b)
      | .tup [] => some false
      | _ => none
    | none => none

/-- Operations, one behind the other. -/
def ops (P : Program) (Γ : Env) (R : FuncId → List Bool) (all : List Y) : List Y → Fr → Option Fr
  | [], s => some s
  | y :: r, s => match wanted s.tmps all y.g with
    | some true => match opV P Γ R s.tmps s.σ s.σ.length y.x with
      | some (v, δ) => ops P Γ R all r ⟨putO s.tmps y.dst v, s.σ.app δ⟩
      | none => none
    | some false => ops P Γ R all r ⟨putO s.tmps y.dst (.tup []), s.σ⟩
    | none => none

/-- The operands of an operation. -/
def X.opds : X → List O
  | .mv x | .not x | .slen x | .conv _ x | .box _ x | .ld _ _ x | .nchk x | .fa _ x | .fld _ _ _ x | .len x | .cap x | .ext x _ | .isnil _ _ x | .clr _ _ x => [x]
  | .pick c a b => [c, a, b]
  | .new _ | .die | .sc _ _ _ => []
  | .build _ ps => ps.map (·.2.2)
  | .lit _ _ z ps => ps.map (·.2) ++ z.map .k
  | .st _ a x | .ixs _ a x | .ixa _ _ a x | .app _ _ a x | .appz _ _ _ a x | .cpy _ a x | .mks _ _ _ a x | .bin _ _ a x | .sidx a x | .beq _ a x => [a, x]
  | .sl _ x lo hi => [x] ++ lo.toList ++ hi.toList
  | .mkf _ a b => a ++ b
  | .call _ args => args
  | .callv f args => f :: args

/-- The operands through which an operation looks at the store: none, where its value is told by the operands alone. -/
def X.looks : X → List O
  | .mv _ | .pick .. | .fa .. | .nchk _ | .fld .. | .ixa .. | .len _ | .slen _ | .cap _ | .ext .. | .bin .. | .isnil .. | .not _ | .beq .. | .conv .. | .sidx .. | .mkf .. => []
  | x => x.opds

/-- What an operation may look at, and what it changes. -/
structure Tr where
  σ : Store
  vs : List V
  δ : Delta

def Tr.foot (t : Tr) : List Nat := reach t.σ 64 (addIds [] (V.ids.idsL t.vs))
def Tr.meets (a b : Tr) : Bool := a.δ.any fun p => b.foot.contains p.1 || b.δ.any fun q => q.1 == p.1

/-- Operations, with what they look at. -/
def opsT (P : Program) (Γ : Env) (R : FuncId → List Bool) (all : List Y) : List Y → Fr → Option (Fr × List Tr)
  | [], s => some (s, [])
  | y :: r, s => match wanted s.tmps all y.g with
    | some true => match opV P Γ R s.tmps s.σ s.σ.length y.x with
      | some (v, δ) => (opsT P Γ R all r ⟨putO s.tmps y.dst v, s.σ.app δ⟩).map fun p => (p.1, ⟨s.σ, y.x.looks.map (O.ev s.tmps), δ⟩ :: p.2)
      | none => none
    | some false => (opsT P Γ R all r ⟨putO s.tmps y.dst (.tup []), s.σ⟩).map fun p => (p.1, ⟨[], [], []⟩ :: p.2)
    | none => none

/-- No two operations whose order is open meet. -/
def clear (tr : List Tr) (free : List (Nat × Nat)) : Bool := free.all fun p => match tr[p.1]?, tr[p.2]? with
  | some a, some b => if a.δ.isEmpty = true ∧ b.δ.isEmpty = true then true else !(a.meets b) && !(b.meets a)
  | _, _ => false

/-- At a loop's head: what isn't live is forgotten. -/
def forget (m live : Nat) (s : Fr) : Fr :=
  let p := gc m (s.tmps.zipIdx.map fun (v, i) => if live.testBit i then v else .bot) s.σ
  ⟨p.1, p.2⟩

def rounds (body : Fr → Option (Ex × Fr)) (head tail : Fr → Fr) : Nat → Fr → Option (Ex × Fr)
  | 0, _ => none
  | n + 1, s => match body s with
    | some (.norm, s') => rounds body head tail n (head s')
    | some (e, s') => some (e, tail s')
    | none => none

def LOOPS : Nat := 4611686018427387904

def exec (P : Program) (Γ : Env) (R : FuncId → List Bool) (m : Nat) : C → Fr → Option (Ex × Fr)
  | .skip, s => some (.norm, s)
  | .reg ys, s => (ops P Γ R ys ys s).map fun s => (.norm, s)
  | .any ys free, s => match opsT P Γ R ys ys s with
    | some (s', tr) => if clear tr free = true then some (.norm, s') else none
    | none => none
  | .seq a b, s => match exec P Γ R m a s with
    | some (.norm, s') => exec P Γ R m b s'
    | r => r
  | .cond c a b, s => match c.ev s.tmps with
    | .d (.bool t) => bif t then exec P Γ R m a s else exec P Γ R m b s
    | _ => none
  | .blk id a, s => match exec P Γ R m a s with
    | some (.exit j, s') => if j = id then some (.norm, s') else some (.exit j, s')
    | r => r
  | .loop live out a, s => rounds (exec P Γ R m a) (forget m live) (forget m out) LOOPS (forget m live s)
  | .exit id, s => some (.exit id, s)
  | .ret, s => some (.ret, s)

def resultOf (s : Fr) : (Nat ⊕ (Bool × Nat × Nat)) → Option V
  | .inl t => some (s.tmps.getD t .bot)
  | .inr (agg, n, t) => (readAt s.σ n (s.tmps.getD t .bot)).bind (mkAgg agg)

def finish (F : F) (m : Nat) (s : Fr) : Option (V × Store) :=
  match F.results.mapM (resultOf s) with
  | none => none
  | some vs =>
    if !vs.all okV then none else
    let p := gc m (vs.zipIdx.map fun (v, i) => if F.own.getD i false then v else freezeV s.σ v) (s.σ.app (frz s.σ ((vs.zipIdx.filter fun (_, i) => !F.own.getD i false).flatMap fun (v, _) => frozenIds v)))
    some (match p.1 with | [v] => v | vs => .tup vs, p.2)

def runF (P : Program) (Γ : Env) (R : FuncId → List Bool) (F : F) (args : List V) (σ : Store) : Option (V × Store) :=
  if args.length ≠ F.nargs ∨ F.ntmps < F.nargs then none else
  match exec P Γ R σ.length F.body ⟨args ++ List.replicate (F.ntmps - F.nargs) .bot, σ⟩ with
  | some (.norm, s) | some (.ret, s) => finish F σ.length s
  | _ => none

def refsOf (T : FuncId → Option F) (g : FuncId) : List Bool := match T g with | some F => F.refs | none => []

/-- The whole machine: T tells the compiled functions, E what some others do. -/
def run (P : Program) (E : Env) (T : FuncId → Option F) : Nat → FuncId → List V → Store → Option (V × Store)
  | 0, _, _, _ => none
  | n + 1, f, args, σ => match T f with
    | some F => runF P (run P E T n) (refsOf T) F args σ
    | none => E f args σ

end Go.Vm
namespace Go.Vm

/-! ### From the model's code to the machine's -/
def vOf : Value → Option V
  | .slice none 0 0 => some .nils
  | .agg cs => (cs.toList.mapM leafOf).map V.agg
  | v => (ofVal v).map .d

def oOf : Operand → Option O
  | .tmp t => some (.t t)
  | .const v => (vOf v).map .k
  | .func f => some (.k (.clo f [] []))
  | .global _ => none

def szP (P : Program) (t : TypeId) : Option Nat := (P.info? t).map (·.size)
def bytesP (P : Program) (t : TypeId) : Option Nat := (P.info? t).map (·.bytes)
def aggP (P : Program) (t : TypeId) : Option Bool := (P.underlying t).map fun | .struct _ => true | .array _ _ => true | _ => false
def zeroP (P : Program) (t : TypeId) : Option (List V) := ((P.info? t).bind (·.zero)).bind fun v => (vOf v).map V.cells
def elemP (P : Program) (t : TypeId) : Option TypeId := (P.underlying t).bind fun | .slice e => some e | _ => none

def plainT (P : Program) (t : TypeId) : Bool := match P.underlying t with
  | some (.int _) | some (.float _) | some (.complex _) | some .string => true
  | _ => false

def kindP (P : Program) (t : TypeId) : Option Nat := match P.underlying t with
  | some (.pointer _) => some 0
  | some (.slice _) => some 1
  | some (.map _ _) => some 2
  | some (.func _ _ _) => some 3
  | some (.interface _) => some 4
  | _ => none
def nilOf : Nat → Operand → Bool
  | 0, .const (.pointer none) | 1, .const (.slice none 0 0) | 2, .const (.map none) | 3, .const .nilFunc | 4, .const .nilIface => true
  | _, _ => false

def isNilC : Operand → Bool
  | .const (.pointer none) | .const (.slice none 0 0) | .const (.map none) | .const .nilFunc | .const .nilIface => true
  | _ => false

def compCall (P : Program) (c : Call) (o : Op) (ty : TypeId) (xs : List O) : Option X :=
  match c.callee with
  | .value (.func f) => (P.funcs[f]?).bind fun fn => if fn.body.isNone = true then some (.sc o ty xs) else some (.call f xs)
  | .value f => (oOf f).map fun f => .callv f xs
  | .invoke .. => none
  | .builtin b =>
    match b, xs, c.argTypes.toList with
    | .len, [x], [t] => match P.underlying t with
      | some (.slice _) => some (.len x)
      | some .string => some (.slen x)
      | _ => some (.sc o ty xs)
    | .cap, [x], [t] => match P.underlying t with
      | some (.slice _) => some (.cap x)
      | _ => none
    | .append, [a, x], [t, u] => do
      let e ← elemP P t
      let s ← szP P e
      let bs ← bytesP P e
      let z ← zeroP P e
      if s = 0 ∨ z.length ≠ s then none
      match P.underlying u with
      | some (.int _) => return .appz s bs z a x
      | some (.slice _) | some .string => return .app s bs a x
      | _ => none
    | .copy, [a, x], [t, _] => do
      let e ← elemP P t
      let s ← szP P e
      if s = 0 then none
      return .cpy s a x
    | .clear, [a], [t] => do
      let e ← elemP P t
      let s ← szP P e
      let z ← zeroP P e
      if s = 0 ∨ z.length ≠ s then none
      return .clr s z a
    | .min, _, _ | .max, _, _ | .real, _, _ | .imag, _, _ | .complex, _, _ => some (.sc o ty xs)
    | _, _, _ => none

def comp (P : Program) (o : Op) (ty : TypeId) : Option X :=
  match o with
  | .move x | .assign x => (oOf x).map .mv
  | .pick c a b => do return .pick (← oOf c) (← oOf a) (← oOf b)
  | .alloc e => (zeroP P e).map .new
  | .box e x => do return .box (← szP P e) (← oOf x)
  | .build t parts => do
    let z ← zeroP P t
    let xs ← parts.toList.mapM fun (i, x) => do return (i, ← oOf x)
    match P.underlying t with
    | some (.struct fields) => do
      let pl ← fields.toList.mapM fun f => (P.info? f.type).map fun i => (f.offset, i.size)
      let ps ← xs.mapM fun (i, x) => do
        let p ← pl[i]?
        return (p.1, p.2, x)
      return .build z ps
    | some (.array _ e) => do
      let s ← szP P e
      return .build z (xs.map fun (i, x) => (i * s, s, x))
    | _ => none
  | .buildSlice t len parts => do
    let e ← elemP P t
    let s ← szP P e
    if s = 0 ∨ len * s > 2 ^ 24 then none
    let xs ← parts.toList.mapM fun (i, x) => do return (i, ← oOf x)
    let z ← zeroP P e
    if z.length ≠ s then none
    return .lit s len z xs
  | .load t a => do return .ld (← aggP P t) (← szP P t) (← oOf a)
  | .store t a x => do return .st (← szP P t) (← oOf a) (← oOf x)
  | .nilCheck x => (oOf x).map .nchk
  | .binOp op t x y _ =>
    if plainT P t then do return .bin op t (← oOf x) (← oOf y)
    else match op, P.underlying t with
      | .eql, some .bool => do return .beq false (← oOf x) (← oOf y)
      | .neq, some .bool => do return .beq true (← oOf x) (← oOf y)
      | .eql, _ => match kindP P t with
        | some k => if nilOf k y then (oOf x).map (.isnil k false) else if nilOf k x then (oOf y).map (.isnil k false) else none
        | none => do return .sc o ty [← oOf x, ← oOf y]
      | .neq, _ => match kindP P t with
        | some k => if nilOf k y then (oOf x).map (.isnil k true) else if nilOf k x then (oOf y).map (.isnil k true) else none
        | none => do return .sc o ty [← oOf x, ← oOf y]
      | _, _ => none
  | .unOp .not _ x => (oOf x).map .not
  | .unOp _ _ x => do return .sc o ty [← oOf x]
  | .convert src dst x => match P.underlying src, P.underlying dst with
    | some (.int _), some (.int k) => (oOf x).map (.conv k)
    | _, _ => do return .sc o ty [← oOf x]
  | .makeInterface _ x => do return .sc o ty [← oOf x]
  | .makeFunc (.func f) first caps => do return .mkf f (← first.toList.mapM oOf) (← caps.toList.mapM oOf)
  | .makeSlice t l c => do
    let e ← elemP P t
    let s ← szP P e
    let z ← zeroP P e
    if s = 0 ∨ z.length ≠ s then none
    return .mks s (← bytesP P e) z (← oOf l) (← oOf c)
  | .slice t x lo hi none => match P.underlying t with
    | some (.slice e) => do
      let lo ← lo.elim (some none) (fun x => (oOf x).map some)
      let hi ← hi.elim (some none) (fun x => (oOf x).map some)
      let s ← szP P e
      if s = 0 then none
      return .sl s (← oOf x) lo hi
    | some .string => do
      let lo ← lo.elim (some none) (fun x => (oOf x).map some)
      let hi ← hi.elim (some none) (fun x => (oOf x).map some)
      return .sl 0 (← oOf x) lo hi
    | _ => none
  | .fieldAddr t x j => match P.underlying t with
    | some (.struct fields) => do
      let f ← fields[j]?
      if (← szP P f.type) = 0 then none
      return .fa f.offset (← oOf x)
    | _ => none
  | .field t x j => match P.underlying t with
    | some (.struct fields) => do
      let f ← fields[j]?
      return .fld (← aggP P f.type) f.offset (← szP P f.type) (← oOf x)
    | _ => none
  | .indexAddr t x i => match P.underlying t with
    | some (.slice e) => do
      let s ← szP P e
      if s = 0 then none
      return .ixs s (← oOf x) (← oOf i)
    | some (.array n e) => do
      let s ← szP P e
      if s = 0 ∨ n ≤ 1 then none
      return .ixa n s (← oOf x) (← oOf i)
    | _ => none
  | .index t x i => match P.underlying t with
    | some .string => do return .sidx (← oOf x) (← oOf i)
    | _ => none
  | .extract x i => (oOf x).map fun x => .ext x i
  | .panic _ => some .die
  | .call c => do
    let xs ← c.args.toList.mapM oOf
    compCall P c o ty xs
  | _ => none

def compY (P : Program) (o : Oper) : Option Y := (comp P o.op o.type).map fun x => ⟨o.dst, o.guard, x⟩

/-- What comes ahead of each operation, in every order. -/
def befs : List Oper → List (List Nat) → List (List Nat)
  | [], acc => acc
  | o :: r, acc => befs r (acc ++ [(o.after.toList.filter (Region.binds .any)).flatMap fun e => e.on :: acc.getD e.on []])

/-- Pairs of operations between which the order is open. -/
def openPairs (ops : Array Oper) : List (Nat × Nat) :=
  let b := befs ops.toList []
  (List.range ops.size).flatMap fun j => (List.range j).filterMap fun i => if (b.getD j []).contains i then none else some (i, j)

/-- The slots that an operation looks at. -/
def Y.slots (all : List Y) (y : Y) : List Nat :=
  (match y.g with | some (j, _) => ((all[j]?).bind (·.dst)).toList | none => []) ++
  (y.x.opds.filterMap fun | .t i => some i | .k _ => none) ++
  (match y.x with | .sc o _ _ => o.operands.toList.filterMap (fun | .tmp i => some i | _ => none) | _ => [])

def Y.free (all : List Y) (a b : Y) : Bool := match a.dst with
  | some i => !((b.slots all).contains i) && b.dst != some i
  | none => true

/-- Operations come behind earlier ones only. -/
def edgesOk (ops : Array Oper) : Bool := ops.toList.zipIdx.all fun p => p.1.after.toList.all fun e => !Region.binds .any e || decide (e.on < p.2)

def Y.plain (y : Y) : Bool := match y.x with | .sc (.select _ _) _ _ => false | _ => true

/-- No two operations whose order is open write or look at the same slot. -/
def slotsOk (ys : List Y) (free : List (Nat × Nat)) : Bool := ys.all Y.plain && free.all fun p => match ys[p.1]?, ys[p.2]? with
  | some a, some b => a.free ys b && b.free ys a
  | _, _ => false

def compC (P : Program) : Code → Option C
  | .skip => some .skip
  | .region _ ops false => (ops.toList.mapM (compY P)).map .reg
  | .region _ ops true => (ops.toList.mapM (compY P)).bind fun ys => if slotsOk ys (openPairs ops) = true ∧ edgesOk ops = true then some (.any ys (openPairs ops)) else none
  | .seq a b => do return .seq (← compC P a) (← compC P b)
  | .cond c a b => do return .cond (← oOf c) (← compC P a) (← compC P b)
  | .block id a => (compC P a).map (.blk id)
  | .loop a => (compC P a).map (.loop 0 0)
  | .exit id => some (.exit id)
  | .scope a => compC P a
  | .ret => some .ret
  | _ => none

/-! ### Which slots are live at a loop's head -/
def O.bit : O → Nat
  | .t i => 2 ^ i
  | .k _ => 0
def bits (l : List O) : Nat := l.foldl (fun n o => n ||| o.bit) 0

def X.reads : X → Nat
  | .mv x | .not x | .slen x | .conv _ x | .box _ x | .ld _ _ x | .nchk x | .fa _ x | .fld _ _ _ x | .len x | .cap x | .ext x _ | .isnil _ _ x | .clr _ _ x => x.bit
  | .pick c a b => bits [c, a, b]
  | .new _ | .die => 0
  | .build _ ps => bits (ps.map (·.2.2))
  | .lit _ _ _ ps => bits (ps.map (·.2))
  | .st _ a x | .ixs _ a x | .ixa _ _ a x | .app _ _ a x | .appz _ _ _ a x | .cpy _ a x | .mks _ _ _ a x | .bin _ _ a x | .sidx a x | .beq _ a x => bits [a, x]
  | .sl _ x lo hi => bits ([x] ++ lo.toList ++ hi.toList)
  | .mkf _ a b => bits (a ++ b)
  | .call _ args => bits args
  | .callv f args => bits (f :: args)
  | .sc _ _ xs => bits xs

def without (n : Nat) (d : Option Nat) : Nat := match d with | some i => if n.testBit i then n ^^^ 2 ^ i else n | none => n

def liveYs (all : List Y) : List Y → Nat → Nat
  | [], out => out
  | y :: r, out =>
    let o := liveYs all r out
    let g := match y.g with | some (j, _) => (match (all[j]?).bind (·.dst) with | some t => 2 ^ t | none => 0) | none => 0
    without o y.dst ||| y.x.reads ||| g

/-- What is live ahead of code, and the code with its loops' heads told. -/
def liveC (ret : Nat) : C → (ex : List (Nat × Nat)) → (out : Nat) → Nat × C
  | .skip, _, out => (out, .skip)
  | .reg ys, _, out => (liveYs ys ys out, .reg ys)
  | .any ys f, _, out => (liveYs ys ys out, .any ys f)
  | .seq a b, ex, out =>
    let (o, b) := liveC ret b ex out
    let (o, a) := liveC ret a ex o
    (o, .seq a b)
  | .cond c a b, ex, out =>
    let (x, a) := liveC ret a ex out
    let (y, b) := liveC ret b ex out
    (x ||| y ||| c.bit, .cond c a b)
  | .blk id a, ex, out =>
    let (o, a) := liveC ret a ((id, out) :: ex) out
    (o, .blk id a)
  | .loop _ _ a, ex, _ =>
    let o := (liveC ret a ex 0).1
    let o := (liveC ret a ex o).1
    let (o, a) := liveC ret a ex o
    (o, .loop o (ex.foldl (fun n p => n ||| p.2) ret) a)
  | .exit id, ex, _ => ((ex.find? (·.1 == id)).elim 0 (·.2), .exit id)
  | .ret, _, _ => (ret, .ret)

def compRes (P : Program) : ResultVar → Option (Nat ⊕ (Bool × Nat × Nat))
  | .tmp t => some (.inl t)
  | .cell a t => do return .inr (← aggP P t, ← szP P t, a)

def compF (P : Program) (fn : Func) (refs own : List Bool) : Option F := do
  let c ← compC P (← fn.body)
  let rs ← fn.results.toList.mapM (compRes P)
  let ret := rs.foldl (fun n r => n ||| 2 ^ (match r with | .inl t => t | .inr (_, _, t) => t)) 0
  let (_, c) := liveC ret c [] ret
  return { ntmps := fn.ntmps, nargs := fn.params.size + fn.nfree, refs, own, results := rs, body := c }

end Go.Vm
namespace Go.Vm

/-! ### What a value of the machine says of the model's memory -/
def one (v : Value) : Prop := v.oneCell' = true

structure Loc where
  blk : Nat
  base : Nat
  s : Nat
  cap : Nat

abbrev Lmap := Nat → Option Loc

inductive RD (w : World) (N : Nat → Prop) : D → Value → Prop
  | int (k : IntKind) (n : Int) : RD w N (.int k n) (.int k n)
  | bool (b : Bool) : RD w N (.bool b) (.bool b)
  | float (k : FloatKind) (b : Nat) : RD w N (.float k b) (.float k b)
  | complex (k : FloatKind) (a b : Nat) : RD w N (.complex k a b) (.complex k a b)
  | str (s : ByteArray) : RD w N (.str s) (.string s)
  | nilp : RD w N .nilp (.pointer none)
  | nilm : RD w N .nilm (.map none)
  | nilf : RD w N .nilf .nilFunc
  | nili : RD w N .nili .nilIface
  | lst (xs : List (List D)) (a : Option Addr) (cap s : Nat) (cs : Nat → Nat → Value)
      (hcap : xs.length ≤ cap)
      (hs : ∀ (i : Nat) (x : List D), xs[i]? = some x → x.length = s)
      (ha : xs ≠ [] → ∃ b o, a = some ⟨b, o, none⟩ ∧ N b ∧ ∀ (i : Nat) (x : List D) (k : Nat) (y : D), xs[i]? = some x → x[k]? = some y → w.cell? ⟨b, o + (i * s + k), none⟩ = some (cs i k))
      (hr : ∀ (i : Nat) (x : List D) (k : Nat) (y : D), xs[i]? = some x → x[k]? = some y → RD w N y (cs i k)) :
      RD w N (.lst xs) (.slice a xs.length cap)

inductive RV (w : World) (N : Nat → Prop) (L : Lmap) : V → Value → Prop
  | d (x : D) (c : Value) : RD w N x c → RV w N L (.d x) c
  | nils : RV w N L .nils (.slice none 0 0)
  | arr (id off len : Nat) (l : Loc) (a : Option Addr) (cap : Nat) (hl : L id = some l) (hc : off + cap = l.cap) (hle : len ≤ cap)
      (ha : 0 < cap → a = some ⟨l.blk, l.base + off * l.s, none⟩) : RV w N L (.arr id off len) (.slice a len cap)
  | ptr (id i k : Nat) (l : Loc) (hl : L id = some l) : RV w N L (.ptr id i k) (.pointer (some ⟨l.blk, l.base + (i * l.s + k), none⟩))
  | dptr (cells : List D) (k b o : Nat) (cs : Nat → Value) (hN : N b)
      (hc : ∀ (j : Nat) y, cells[j]? = some y → w.cell? ⟨b, o + j, none⟩ = some (cs j))
      (hr : ∀ (j : Nat) y, cells[j]? = some y → RD w N y (cs j)) : RV w N L (.dptr cells k) (.pointer (some ⟨b, o + k, none⟩))
  | clo (f : FuncId) (first caps : List V) (a b : Array Value) (ha : a.size = first.length) (hb : b.size = caps.length)
      (h1 : ∀ (i : Nat) v c, first[i]? = some v → a[i]? = some c → RV w N L v c)
      (h2 : ∀ (i : Nat) v c, caps[i]? = some v → b[i]? = some c → RV w N L v c) : RV w N L (.clo f first caps) (.func (.func f) a b)
  | agg (cells : List V) (cs : Array Value) (hl : cs.size = cells.length) (h1 : ∀ (i : Nat) c, cs[i]? = some c → one c)
      (h : ∀ (i : Nat) v c, cells[i]? = some v → cs[i]? = some c → RV w N L v c) : RV w N L (.agg cells) (.agg cs)
  | tup (vs : List V) (cs : Array Value) (hl : cs.size = vs.length)
      (h : ∀ (i : Nat) v c, vs[i]? = some v → cs[i]? = some c → RV w N L v c) : RV w N L (.tup vs) (.tuple cs)
  | bot (c : Value) (h : one c) : RV w N L .bot c

/-- What a slot holds: of a slot that was forgotten nothing is said. -/
def RS (w : World) (N : Nat → Prop) (L : Lmap) (v : V) (c : Value) : Prop := v = .bot ∨ RV w N L v c

def Obj.owned : Obj → Bool
  | .imm .. => false
  | _ => true

def ORel (w : World) (N : Nat → Prop) (L : Lmap) (id : Nat) : Obj → Prop
  | .row s xs => ∃ l cells e, L id = some l ∧ l.s = s ∧ 0 < s ∧ xs.length ≤ l.cap ∧ w.heap[l.blk]? = some (.cells cells e (0, 0)) ∧ cells.size = l.base + l.cap * s ∧
      (∀ (i : Nat) (x : List D), xs[i]? = some x → x.length = s) ∧ ∀ (i : Nat) (x : List D) (k : Nat) (y : D), xs[i]? = some x → x[k]? = some y → ∃ c, cells[l.base + (i * s + k)]? = some c ∧ RD w N y c
  | .box vs => ∃ l cells e, L id = some l ∧ l.base = 0 ∧ w.heap[l.blk]? = some (.cells cells e (0, 0)) ∧ cells.size = vs.length ∧
      ∀ (k : Nat) v, vs[k]? = some v → ∃ c, cells[k]? = some c ∧ RV w N L v c ∧ one c
  | .imm s xs => ∃ l, L id = some l ∧ l.s = s ∧ 0 < s ∧ xs.length ≤ l.cap ∧ N l.blk ∧
      (∀ (i : Nat) (x : List D), xs[i]? = some x → x.length = s) ∧ ∀ (i : Nat) (x : List D) (k : Nat) (y : D), xs[i]? = some x → x[k]? = some y → ∃ c, w.cell? ⟨l.blk, l.base + (i * s + k), none⟩ = some c ∧ RD w N y c

/-- The blocks that the store's objects own. -/
def Own (L : Lmap) (σ : Store) (b : Nat) : Prop := ∃ id o l, σ.get id = some o ∧ o.owned = true ∧ L id = some l ∧ l.blk = b

structure SRel (w : World) (N : Nat → Prop) (L : Lmap) (σ : Store) : Prop where
  obj : ∀ id o, σ.get id = some o → ORel w N L id o
  apart : ∀ b, N b → ¬ Own L σ b
  inj : ∀ id id' o o' l l', σ.get id = some o → σ.get id' = some o' → o.owned = true → o'.owned = true → L id = some l → L id' = some l' → l.blk = l'.blk → id = id'
  lt : ∀ b, N b → b < w.heap.size

structure Evo (w : World) (N : Nat → Prop) (L : Lmap) (σ : Store) (w' : World) (N' : Nat → Prop) (L' : Lmap) (σ' : Store) : Prop where
  os : w'.os = w.os
  tape : w'.tape = w.tape
  output : w'.output = w.output
  cold : ∀ a, w'.frozen? a = w.frozen? a
  size : w.heap.size ≤ w'.heap.size
  keep : ∀ b, b < w.heap.size → ¬ Own L σ b → w'.heap[b]? = w.heap[b]?
  nmono : ∀ b, N b → N' b
  nnew : ∀ b, N' b → N b ∨ w.heap.size ≤ b ∨ Own L σ b
  onew : ∀ b, Own L' σ' b → w.heap.size ≤ b ∨ Own L σ b

theorem Evo.refl (w : World) (N : Nat → Prop) (L : Lmap) (σ : Store) : Evo w N L σ w N L σ :=
  ⟨rfl, rfl, rfl, fun _ => rfl, Nat.le_refl _, fun _ _ _ => rfl, fun _ h => h, fun _ h => .inl h, fun _ h => .inr h⟩

theorem Evo.trans {w w' w'' : World} {N N' N'' : Nat → Prop} {L L' L'' : Lmap} {σ σ' σ'' : Store} (h : Evo w N L σ w' N' L' σ') (h' : Evo w' N' L' σ' w'' N'' L'' σ'') : Evo w N L σ w'' N'' L'' σ'' where
  os := h'.os.trans h.os
  tape := h'.tape.trans h.tape
  output := h'.output.trans h.output
  cold a := (h'.cold a).trans (h.cold a)
  size := Nat.le_trans h.size h'.size
  keep b hb ho := by
    rw [h'.keep b (Nat.lt_of_lt_of_le hb h.size) (fun hn => ?_), h.keep b hb ho]
    rcases h.onew b hn with h1 | h1
    · omega
    · exact ho h1
  nmono b hb := h'.nmono b (h.nmono b hb)
  nnew b hb := by
    rcases h'.nnew b hb with h1 | h1 | h1
    · exact h.nnew b h1
    · exact .inr (.inl (Nat.le_trans h.size h1))
    · exact .inr (h.onew b h1)
  onew b hb := by
    rcases h'.onew b hb with h1 | h1
    · exact .inl (Nat.le_trans h.size h1)
    · exact h.onew b h1

theorem cell_of_heap {w w' : World} {b : Nat} (h : w'.heap[b]? = w.heap[b]?) (o : Nat) : w'.cell? ⟨b, o, none⟩ = w.cell? ⟨b, o, none⟩ := by
  simp [World.cell?, h]

theorem RD.mono {w w' : World} {N N' : Nat → Prop} (hn : ∀ b, N b → N' b) (hw : ∀ b, N b → w'.heap[b]? = w.heap[b]?) {x : D} {c : Value} (h : RD w N x c) : RD w' N' x c := by
  induction h with
  | int k n => exact .int k n
  | bool b => exact .bool b
  | float k b => exact .float k b
  | complex k a b => exact .complex k a b
  | str s => exact .str s
  | nilp => exact .nilp
  | nilm => exact .nilm
  | nilf => exact .nilf
  | nili => exact .nili
  | lst xs a cap s cs hcap hs ha hr ih =>
    refine .lst xs a cap s cs hcap hs (fun hne => ?_) ih
    obtain ⟨b, o, e, hb, hc⟩ := ha hne
    exact ⟨b, o, e, hn b hb, fun i x k y hi hk => by rw [cell_of_heap (hw b hb)]; exact hc i x k y hi hk⟩

theorem RV.mono {w w' : World} {N N' : Nat → Prop} {L L' : Lmap} (hn : ∀ b, N b → N' b) (hw : ∀ b, N b → w'.heap[b]? = w.heap[b]?) (hL : ∀ id l, L id = some l → L' id = some l)
    {x : V} {c : Value} (h : RV w N L x c) : RV w' N' L' x c := by
  induction h with
  | d x c h => exact .d x c (h.mono hn hw)
  | nils => exact .nils
  | arr id off len l a cap hl hc hle ha => exact .arr id off len l a cap (hL _ _ hl) hc hle ha
  | ptr id i k l hl => exact .ptr id i k l (hL _ _ hl)
  | dptr cells k b o cs hN hc hr => exact .dptr cells k b o cs (hn _ hN) (fun j y hj => by rw [cell_of_heap (hw b hN)]; exact hc j y hj) (fun j y hj => (hr j y hj).mono hn hw)
  | clo f first caps a b ha hb h1 h2 ih1 ih2 => exact .clo f first caps a b ha hb ih1 ih2
  | agg cells cs hl h1 h ih => exact .agg cells cs hl h1 ih
  | tup vs cs hl h ih => exact .tup vs cs hl ih
  | bot c h => exact .bot c h

theorem RS.mono {w w' : World} {N N' : Nat → Prop} {L L' : Lmap} (hn : ∀ b, N b → N' b) (hw : ∀ b, N b → w'.heap[b]? = w.heap[b]?) (hL : ∀ id l, L id = some l → L' id = some l)
    {x : V} {c : Value} (h : RS w N L x c) : RS w' N' L' x c := h.imp id (·.mono hn hw hL)

theorem SRel.kept {w w' : World} {N N' : Nat → Prop} {L L' : Lmap} {σ σ' : Store} (h : SRel w N L σ) (e : Evo w N L σ w' N' L' σ') : ∀ b, N b → w'.heap[b]? = w.heap[b]? :=
  fun b hb => e.keep b (h.lt b hb) (h.apart b hb)

/-- An object that isn't touched stays what it was. -/
theorem ORel.mono {w w' : World} {N N' : Nat → Prop} {L L' : Lmap} {id : Nat} {o : Obj} (hn : ∀ b, N b → N' b) (hw : ∀ b, N b → w'.heap[b]? = w.heap[b]?) (hL : ∀ id l, L id = some l → L' id = some l)
    (hb : o.owned = true → ∀ l, L id = some l → w'.heap[l.blk]? = w.heap[l.blk]?) (h : ORel w N L id o) : ORel w' N' L' id o := by
  cases o with
  | row s xs =>
    obtain ⟨l, cells, e, hl, hs, h0, hc, hh, hz, hx, hy⟩ := h
    exact ⟨l, cells, e, hL _ _ hl, hs, h0, hc, by rw [hb rfl l hl]; exact hh, hz, hx, fun i x k y hi hk => by
      obtain ⟨c, hc, hr⟩ := hy i x k y hi hk
      exact ⟨c, hc, hr.mono hn hw⟩⟩
  | box vs =>
    obtain ⟨l, cells, e, hl, h0, hh, hz, hy⟩ := h
    exact ⟨l, cells, e, hL _ _ hl, h0, by rw [hb rfl l hl]; exact hh, hz, fun k v hk => by
      obtain ⟨c, hc, hr, h1⟩ := hy k v hk
      exact ⟨c, hc, hr.mono hn hw hL, h1⟩⟩
  | imm s xs =>
    obtain ⟨l, hl, hs, h0, hc, hN, hx, hy⟩ := h
    exact ⟨l, hL _ _ hl, hs, h0, hc, hn _ hN, hx, fun i x k y hi hk => by
      obtain ⟨c, hc, hr⟩ := hy i x k y hi hk
      exact ⟨c, by rw [cell_of_heap (hw _ hN)]; exact hc, hr.mono hn hw⟩⟩

/-! ### The store's get and put -/
theorem get_put (σ : Store) (i : Nat) (o : Option Obj) (j : Nat) : (σ.put i o).get j = if j = i then o else σ.get j := by
  unfold Store.put Store.get
  by_cases h : i < σ.length
  · rw [if_pos h, List.getElem?_set]
    by_cases hj : i = j
    · subst hj; simp [h]
    · rw [if_neg hj, if_neg (fun e => hj e.symm)]
  · rw [if_neg h]
    by_cases hj : j = i
    · subst hj
      rw [if_pos rfl, List.getElem?_append_right (by simp; omega)]
      have : j - (σ ++ List.replicate (j - σ.length) none).length = 0 := by simp; omega
      rw [this]; rfl
    · rw [if_neg hj]
      by_cases hlt : j < σ.length
      · rw [List.append_assoc, List.getElem?_append_left hlt]
      · have hn : σ[j]? = none := List.getElem?_eq_none (by omega)
        rw [hn]
        by_cases h2 : j < i
        · rw [List.getElem?_append_left (by simp; omega), List.getElem?_append_right (by omega)]
          rw [List.getElem?_replicate]
          split <;> rfl
        · rw [List.getElem?_eq_none (by simp; omega)]
theorem length_put (σ : Store) (i : Nat) (o : Option Obj) : (σ.put i o).length = max σ.length (i + 1) := by
  unfold Store.put; split <;> simp <;> omega
theorem get_lt {σ : Store} {i : Nat} {o : Obj} (h : σ.get i = some o) : i < σ.length := by
  unfold Store.get at h
  rcases Nat.lt_or_ge i σ.length with h1 | h1
  · exact h1
  · rw [List.getElem?_eq_none h1] at h; cases h
@[simp] theorem app_nil (σ : Store) : σ.app [] = σ := rfl
theorem app_cons (σ : Store) (p : Nat × Option Obj) (δ : Delta) : σ.app (p :: δ) = (σ.put p.1 p.2).app δ := rfl
theorem app_append (σ : Store) (δ ε : Delta) : σ.app (δ ++ ε) = (σ.app δ).app ε := by simp [Store.app]
theorem length_app (σ : Store) : ∀ δ : Delta, σ.length ≤ (σ.app δ).length
  | [] => Nat.le_refl _
  | p :: δ => by rw [app_cons]; exact Nat.le_trans (by rw [length_put]; omega) (length_app _ δ)
theorem lt_length_app : ∀ (δ : Delta) (σ : Store), ∀ p ∈ δ, p.1 < (σ.app δ).length
  | [], _, _, h => by cases h
  | q :: δ, σ, p, h => by
    rw [app_cons]
    rcases List.mem_cons.1 h with rfl | h
    · exact Nat.lt_of_lt_of_le (by rw [length_put]; omega) (length_app _ δ)
    · exact lt_length_app δ _ p h

end Go.Vm
