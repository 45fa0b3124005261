/- A part of the proofs of the statements BatchTells and BatchNumbers: Fl6, C0, C1, C2, C9, C10, C11, C12, C13, C14, C15. Conditions: none of its own. -/
import Derived.Test.YtoaafpebcdfniaaGreatT11
import Derived.Test.YtoaafpebcdfniaaGreatT10
set_option linter.unusedSimpArgs false
set_option linter.unusedVariables false
set_option linter.unnecessarySimpa false
set_option linter.all false
namespace Go.Vm
open Go.Fl
variable {P : Program}
theorem scal_real {ts : List V} {t ty u a b : Nat} (h : ts.getD t .bot = .d (.complex .f64 a b)) :
    scal P ts (.call { callee := .builtin .real, args := #[(.tmp t)], argTypes := #[u] }) ty = some (.d (.float .f64 a)) := by
  have e0 : evOpd ts (.tmp t) = some (.complex .f64 a b) := by
    show (ts.getD t .bot).val = _
    rw [h]; rfl
  unfold scal
  rw [if_pos (by simp [Op.operands, Call.operands, e0])]
  have hrun : pureRun P (execOp (fun x => (evOpd ts x).getD undef) { dst := none, op := .call { callee := .builtin .real, args := #[(.tmp t)], argTypes := #[u] }, type := ty, pos := "", after := #[], guard := none }) = some (.value (.float .f64 a)) := by
    have : (#[Operand.tmp t].map fun x => (evOpd ts x).getD undef) = #[.complex .f64 a b] := by simp [e0]
    simp only [execOp, resolve, this]
    rfl
  rw [hrun]
  rfl
theorem scal_imag {ts : List V} {t ty u a b : Nat} (h : ts.getD t .bot = .d (.complex .f64 a b)) :
    scal P ts (.call { callee := .builtin .imag, args := #[(.tmp t)], argTypes := #[u] }) ty = some (.d (.float .f64 b)) := by
  have e0 : evOpd ts (.tmp t) = some (.complex .f64 a b) := by
    show (ts.getD t .bot).val = _
    rw [h]; rfl
  unfold scal
  rw [if_pos (by simp [Op.operands, Call.operands, e0])]
  have hrun : pureRun P (execOp (fun x => (evOpd ts x).getD undef) { dst := none, op := .call { callee := .builtin .imag, args := #[(.tmp t)], argTypes := #[u] }, type := ty, pos := "", after := #[], guard := none }) = some (.value (.float .f64 b)) := by
    have : (#[Operand.tmp t].map fun x => (evOpd ts x).getD undef) = #[.complex .f64 a b] := by simp [e0]
    simp only [execOp, resolve, this]
    rfl
  rw [hrun]
  rfl
theorem scal_complex {ts : List V} {ty u1 u2 a b : Nat} {x y : Operand} (hx : evOpd ts x = some (.float .f64 a)) (hy : evOpd ts y = some (.float .f64 b)) :
    scal P ts (.call { callee := .builtin .complex, args := #[x, y], argTypes := #[u1, u2] }) ty = some (.d (.complex .f64 a b)) := by
  unfold scal
  rw [if_pos (by simp [Op.operands, Call.operands, hx, hy])]
  have hrun : pureRun P (execOp (fun x => (evOpd ts x).getD undef) { dst := none, op := .call { callee := .builtin .complex, args := #[x, y], argTypes := #[u1, u2] }, type := ty, pos := "", after := #[], guard := none }) = some (.value (.complex .f64 a b)) := by
    have : (#[x, y].map fun x => (evOpd ts x).getD undef) = #[.float .f64 a, .float .f64 b] := by simp [hx, hy]
    simp only [execOp, resolve, this]
    rfl
  rw [hrun]
  rfl
end Go.Vm
namespace Go.Vm.B
open Go.Fl Go.Proofs
def E0 : Env := fun _ _ _ => none
theorem trunc_run (P : Program) (hP : ∀ (ts : List V) (ty n : Nat), n < 9007199254740992 → ts.getD 3 .bot = .d (.float .f64 (fl n)) → scal P ts (.call { callee := .value (.func 137), args := #[(.tmp 3)], argTypes := #[71] }) ty = some (.d (.float .f64 (fl n)))) (d n : Nat) (hn : n < 9007199254740992) : run P E0 T (d + 1) 134 [.d (.float .f64 (fl n))] [] = some (.d (.float .f64 (fl n)), []) := by
  rw [run_succ _ _ _ _ _ _ _ _ T_134]
  have h := fun (ts : List V) (ty : Nat) (h : ts.getD 3 .bot = .d (.float .f64 (fl n))) => hP ts ty n hn h
  simp [v134, h]
end Go.Vm.B
namespace Go.Vm.B
open Go.Fl
theorem of_run (P : Program) (E : Env) (hI : P.underlying 2 = some (.int .i64)) (hF : P.underlying 71 = some (.float .f64)) (d a b : Nat) :
    run P E T (d + 1) 60 [.d (.int .i64 (a : Int)), .d (.int .i64 (b : Int))] [] = some (.d (.complex .f64 (fl a) (fl b)), []) := by
  rw [run_succ _ _ _ _ _ _ _ _ T_60]
  have e1 : ∀ (v2 v3 v4 v6 v7 v8 v9 : V), scal P [.d (.int .i64 (a : Int)), .d (.int .i64 (b : Int)), v2, v3, v4, .d (.int .i64 (a : Int)), v6, v7, v8, v9] (.convert 2 71 (.tmp 5)) 71 = some (.d (.float .f64 (fl a))) := fun _ _ _ _ _ _ _ => scal_i2f rfl hI hF
  have e2 : ∀ (v2 v3 v4 v5 v6 v8 v9 : V), scal P [.d (.int .i64 (a : Int)), .d (.int .i64 (b : Int)), v2, v3, v4, v5, v6, .d (.int .i64 (b : Int)), v8, v9] (.convert 2 71 (.tmp 7)) 71 = some (.d (.float .f64 (fl b))) := fun _ _ _ _ _ _ _ => scal_i2f rfl hI hF
  have e3 : ∀ (v0 v1 v2 v3 v4 v5 v7 v9 : V), scal P [v0, v1, v2, v3, v4, v5, .d (.float .f64 (fl a)), v7, .d (.float .f64 (fl b)), v9] (.call { callee := .builtin .complex, args := #[(.tmp 6), (.tmp 8)], argTypes := #[71, 71] }) 53 = some (.d (.complex .f64 (fl a) (fl b))) := fun _ _ _ _ _ _ _ _ => scal_complex rfl rfl
  simp [v60, e1, e2, e3]
end Go.Vm.B
namespace Go.Vm.B
open Go.Fl
theorem fl0 : (0 : Nat) = fl 0 := rfl
theorem flmax : (4832362400168542208 : Nat) = fl 1125899906842624 := by decide +kernel
theorem ge0 (P : Program) (ty n : Nat) (hn : n < 9007199254740992) : binD P .geq ty (.d (.float .f64 (fl n))) (.d (.float .f64 0)) = some (.d (.bool true)) := by
  have h : binD P .geq ty (.d (.float .f64 (fl n))) (.d (.float .f64 0)) = some (.d (.bool (decide (0 ≤ n)))) := by
    have := fl_geq (P := P) (ty := ty) (a := n) (b := 0) hn (by decide)
    rwa [← fl0] at this
  simpa using h
theorem lemax (P : Program) (ty n : Nat) (hn : n < 9007199254740992) : binD P .leq ty (.d (.float .f64 (fl n))) (.d (.float .f64 4832362400168542208)) = some (.d (.bool (decide (n ≤ 1125899906842624)))) := by
  rw [flmax]
  exact fl_leq hn (by decide)
theorem whole_run (P : Program) (E : Env) (htr : ∀ (d n : Nat), n < 9007199254740992 → run P E T (d + 1) 134 [.d (.float .f64 (fl n))] [] = some (.d (.float .f64 (fl n)), [])) (d n : Nat) (hn : n < 9007199254740992) :
    run P E T (d + 2) 122 [.d (.float .f64 (fl n))] [] = some (.d (.bool (decide (n ≤ 1125899906842624))), []) := by
  rw [run_succ _ _ _ _ _ _ _ _ T_122]
  have h1 := ge0 P 71 n hn
  have h2 := lemax P 71 n hn
  have h3 := fl_eql (P := P) (ty := 71) (a := n) (b := n) hn hn
  have h4 := htr d n hn
  by_cases hm : n ≤ 1125899906842624
  · simp [v122, h1, h2, h3, h4, hm]
  · simp [v122, h1, h2, h3, h4, hm]
end Go.Vm.B
namespace Go.Vm
open Go.Fl
variable {P : Program}
/-! Operations on scalars, told by what their operands hold. -/
def scal1 (P : Program) (o : Op) (ty : TypeId) (v : V) : Option V := scal P [v] o ty
def scal2 (P : Program) (o : Op) (ty : TypeId) (v w : V) : Option V := scal P [v, w] o ty
@[simp] theorem scal_conv (ts : List V) (s d : TypeId) (t ty : Nat) : scal P ts (.convert s d (.tmp t)) ty = scal1 P (.convert s d (.tmp 0)) ty (ts.getD t .bot) := by
  unfold scal1 scal
  simp [Op.operands, Call.operands, execOp, resolve, evOpd]
@[simp] theorem scal_re (ts : List V) (t u ty : Nat) : scal P ts (.call { callee := .builtin .real, args := #[(.tmp t)], argTypes := #[u] }) ty = scal1 P (.call { callee := .builtin .real, args := #[(.tmp 0)], argTypes := #[u] }) ty (ts.getD t .bot) := by
  unfold scal1 scal
  simp [Op.operands, Call.operands, execOp, resolve, evOpd]
@[simp] theorem scal_im (ts : List V) (t u ty : Nat) : scal P ts (.call { callee := .builtin .imag, args := #[(.tmp t)], argTypes := #[u] }) ty = scal1 P (.call { callee := .builtin .imag, args := #[(.tmp 0)], argTypes := #[u] }) ty (ts.getD t .bot) := by
  unfold scal1 scal
  simp [Op.operands, Call.operands, execOp, resolve, evOpd]
@[simp] theorem scal_neg (ts : List V) (s t ty : Nat) : scal P ts (.unOp .neg s (.tmp t)) ty = scal1 P (.unOp .neg s (.tmp 0)) ty (ts.getD t .bot) := by
  unfold scal1 scal
  simp [Op.operands, Call.operands, execOp, resolve, evOpd]
@[simp] theorem scal_max (ts : List V) (t u u' ty : Nat) (c : Value) : scal P ts (.call { callee := .builtin .max, args := #[(.tmp t), .const c], argTypes := #[u, u'] }) ty = scal1 P (.call { callee := .builtin .max, args := #[(.tmp 0), .const c], argTypes := #[u, u'] }) ty (ts.getD t .bot) := by
  unfold scal1 scal
  simp [Op.operands, Call.operands, execOp, resolve, evOpd]
@[simp] theorem scal_cx (ts : List V) (t t' u u' ty : Nat) : scal P ts (.call { callee := .builtin .complex, args := #[(.tmp t), (.tmp t')], argTypes := #[u, u'] }) ty = scal2 P (.call { callee := .builtin .complex, args := #[(.tmp 0), (.tmp 1)], argTypes := #[u, u'] }) ty (ts.getD t .bot) (ts.getD t' .bot) := by
  unfold scal2 scal
  simp [Op.operands, Call.operands, execOp, resolve, evOpd]
@[simp] theorem s1_re (a b u ty : Nat) : scal1 P (.call { callee := .builtin .real, args := #[(.tmp 0)], argTypes := #[u] }) ty (.d (.complex .f64 a b)) = some (.d (.float .f64 a)) := scal_real rfl
@[simp] theorem s1_im (a b u ty : Nat) : scal1 P (.call { callee := .builtin .imag, args := #[(.tmp 0)], argTypes := #[u] }) ty (.d (.complex .f64 a b)) = some (.d (.float .f64 b)) := scal_imag rfl
@[simp] theorem s2_cx (a b u u' ty : Nat) : scal2 P (.call { callee := .builtin .complex, args := #[(.tmp 0), (.tmp 1)], argTypes := #[u, u'] }) ty (.d (.float .f64 a)) (.d (.float .f64 b)) = some (.d (.complex .f64 a b)) := scal_complex rfl rfl
@[simp] theorem s1_neg (n : Int) (s ty : Nat) : scal1 P (.unOp .neg s (.tmp 0)) ty (.d (.int .i64 n)) = some (.d (.int .i64 (IntKind.i64.wrap (0 - n)))) := by
  unfold scal1 scal
  rw [if_pos (by simp [Op.operands, Call.operands, evOpd, V.val, D.val])]
  rfl
@[simp] theorem s1_max (n m : Int) (u u' ty : Nat) : scal1 P (.call { callee := .builtin .max, args := #[(.tmp 0), .const (.int .i64 m)], argTypes := #[u, u'] }) ty (.d (.int .i64 n)) = some (.d (.int .i64 (max n m))) := by
  unfold scal1 scal
  rw [if_pos (by simp [Op.operands, Call.operands, evOpd, V.val, D.val])]
  have : pureRun P (execOp (fun x => (evOpd [.d (.int .i64 n)] x).getD undef) { dst := none, op := .call { callee := .builtin .max, args := #[(.tmp 0), .const (.int .i64 m)], argTypes := #[u, u'] }, type := ty, pos := "", after := #[], guard := none }) = some (.value (.int .i64 (max n m))) := by
    have e : (if m > n then m else n) = max n m := by split <;> omega
    rw [← e]
    simp only [execOp, resolve]
    have : (#[Operand.tmp 0, .const (.int .i64 m)].map fun x => (evOpd [V.d (D.int IntKind.i64 n)] x).getD undef) = #[.int .i64 n, .int .i64 m] := by simp [evOpd, V.val, D.val]
    rw [this]
    rfl
  rw [this]
  rfl
theorem cmp_cx {a b : Nat} (ha : a < 2 ^ 53) (hb : b < 2 ^ 53) : Op.floatCmp .eql .f64 (fl a) (fl b) = pure (.bool (decide (a = b))) := by
  simp only [Op.floatCmp, cmp_fl ha hb]
  congr 2
  rw [Bool.eq_iff_iff]
  simp [Nat.compare_eq_eq]
theorem cx_eql {ty : TypeId} {a b c d : Nat} (ha : a < 2 ^ 53) (hb : b < 2 ^ 53) (hc : c < 2 ^ 53) (hd : d < 2 ^ 53) : binD P .eql ty (.d (.complex .f64 (fl a) (fl b))) (.d (.complex .f64 (fl c) (fl d))) = some (.d (.bool (decide (a = c) && decide (b = d)))) := by
  simp [binD, binOp, Op.complexOp, Op.Complex.cmp, asBool, cmp_cx ha hc, cmp_cx hb hd, pureRun, ofVal, pure, pureRun_bind]
theorem cx_neq {ty : TypeId} {a b c d : Nat} (ha : a < 2 ^ 53) (hb : b < 2 ^ 53) (hc : c < 2 ^ 53) (hd : d < 2 ^ 53) : binD P .neq ty (.d (.complex .f64 (fl a) (fl b))) (.d (.complex .f64 (fl c) (fl d))) = some (.d (.bool (!(decide (a = c) && decide (b = d))))) := by
  simp [binD, binOp, Op.complexOp, Op.Complex.cmp, asBool, cmp_cx ha hc, cmp_cx hb hd, pureRun, ofVal, pure, pureRun_bind]
end Go.Vm
namespace Go.Vm.B
open Go.Fl
/-- What is asked of the program's types, and of math.Trunc. -/
structure Good (P : Program) (E : Env) : Prop where
  i : P.underlying 2 = some (.int .i64)
  f : P.underlying 71 = some (.float .f64)
  tr : ∀ d n : Nat, n < 9007199254740992 → run P E T (d + 1) 134 [.d (.float .f64 (fl n))] [] = some (.d (.float .f64 (fl n)), [])
theorem Good.c1 {P : Program} {E : Env} (g : Good P E) (n ty : Nat) : scal1 P (.convert 2 71 (.tmp 0)) ty (.d (.int .i64 (n : Int))) = some (.d (.float .f64 (fl n))) := scal_i2f rfl g.i g.f
theorem Good.c1' {P : Program} {E : Env} (g : Good P E) (n : Int) (ty : Nat) (hn : 0 ≤ n) : scal1 P (.convert 2 71 (.tmp 0)) ty (.d (.int .i64 n)) = some (.d (.float .f64 (fl n.toNat))) := by
  have := g.c1 n.toNat ty
  rwa [Int.toNat_of_nonneg hn] at this
theorem Good.c2 {P : Program} {E : Env} (g : Good P E) (n ty : Nat) (hn : n < 2 ^ 53) : scal1 P (.convert 71 2 (.tmp 0)) ty (.d (.float .f64 (fl n))) = some (.d (.int .i64 (n : Int))) := scal_f2i rfl hn g.f g.i
abbrev M : Nat := 1125899906842624
/-- A tally of a net. -/
def tnD (n : Int) : D := .complex .f64 (fl n.toNat) (fl (-n).toNat)
def tn (n : Int) : V := .d (tnD n)
theorem tn0 : tnD 0 = .complex .f64 0 0 := rfl
theorem net_parts (n : Int) : (n.toNat : Int) - ((-n).toNat : Int) = n := by omega
theorem wrapZ {n : Int} (h : -9223372036854775808 ≤ n) (h' : n < 9223372036854775808) : IntKind.i64.wrap n = n := by
  simp [IntKind.wrap, IntKind.bits, IntKind.signed]; omega

attribute [local irreducible] IntKind.wrap Go.Fl.fl
variable {P : Program} {E : Env}
theorem tRight_run (g : Good P E) (d : Nat) (n : Int) (h1 : -1125899906842624 ≤ n) (h2 : n ≤ 1125899906842624) : run P E T (d + 3) 98 [tn n] [] = some (.d (.bool true), []) := by
  rw [run_succ _ _ _ _ _ _ _ _ T_98]
  have ha := whole_run P E g.tr d n.toNat (by omega)
  have hb := whole_run P E g.tr d (-n).toNat (by omega)
  rw [decide_eq_true (by omega)] at ha hb
  simp -implicitDefEqProofs [v98, tn, tnD, ha, hb, S_122]
theorem tParts_run (g : Good P E) (d : Nat) (n : Int) (h1 : -1125899906842624 ≤ n) (h2 : n ≤ 1125899906842624) : run P E T (d + 4) 113 [tn n] [] = some (.tup [.d (.int .i64 n.toNat), .d (.int .i64 (-n).toNat), .d (.bool true)], []) := by
  rw [run_succ _ _ _ _ _ _ _ _ T_113]
  have ha := tRight_run g d n h1 h2
  have e1 := fun ty => g.c2 n.toNat ty (by omega)
  have e2 := fun ty => g.c2 (-n).toNat ty (by omega)
  simp only [tn, tnD] at ha
  simp -implicitDefEqProofs [v113, tn, tnD, ha, S_98, e1, e2]
theorem tNet_run (g : Good P E) (d : Nat) (n : Int) (h1 : -1125899906842624 ≤ n) (h2 : n ≤ 1125899906842624) : run P E T (d + 5) 82 [tn n] [] = some (.d (.int .i64 n), []) := by
  rw [run_succ _ _ _ _ _ _ _ _ T_82]
  have ha := tParts_run g d n h1 h2
  have hw : IntKind.i64.wrap ((n.toNat : Int) - ((-n).toNat : Int)) = n := by rw [net_parts]; exact wrapZ (by omega) (by omega)
  have hw' : IntKind.i64.wrap (max n 0 - max (-n) 0) = n := by rw [show max n 0 - max (-n) 0 = n by omega]; exact wrapZ (by omega) (by omega)
  simp only [tn, tnD] at ha
  simp -implicitDefEqProofs [v82, tn, tnD, ha, S_113, hw, hw']
theorem of_run' (g : Good P E) (d : Nat) (a b : Int) (ha : 0 ≤ a) (hb : 0 ≤ b) : run P E T (d + 1) 60 [.d (.int .i64 a), .d (.int .i64 b)] [] = some (.d (.complex .f64 (fl a.toNat) (fl b.toNat)), []) := by
  rw [run_succ _ _ _ _ _ _ _ _ T_60]
  simp -implicitDefEqProofs [v60, g.c1' a 71 ha, g.c1' b 71 hb]
theorem refOf_run (g : Good P E) (d : Nat) (a b : Int) (ha : 0 ≤ a) (hb : 0 ≤ b) : run P E T (d + 1) 41 [.d (.int .i64 a), .d (.int .i64 b)] [] = some (.d (.complex .f64 (fl a.toNat) (fl b.toNat)), []) := by
  rw [run_succ _ _ _ _ _ _ _ _ T_41]
  simp -implicitDefEqProofs [v41, g.c1' a 71 ha, g.c1' b 71 hb]
theorem tof_run (g : Good P E) (d : Nat) (n : Int) (h1 : -1125899906842624 ≤ n) (h2 : n ≤ 1125899906842624) : run P E T (d + 2) 128 [.d (.int .i64 n)] [] = some (tn n, []) := by
  rw [run_succ _ _ _ _ _ _ _ _ T_128]
  have h := of_run' g d (max n 0) (max (-n) 0) (by omega) (by omega)
  have e1 : (max n 0).toNat = n.toNat := by omega
  have e2 : (max (-n) 0).toNat = (-n).toNat := by omega
  rw [e1, e2] at h
  have hw : IntKind.i64.wrap (0 - n) = -n := by rw [wrapZ (by omega) (by omega)]; omega
  have hw' : IntKind.i64.wrap (-n) = -n := by rw [wrapZ (by omega) (by omega)]
  simp -implicitDefEqProofs [v128, h, hw, hw', S_60, tn, tnD]
theorem tsome_run (g : Good P E) (d : Nat) (n : Int) (h1 : -1125899906842624 ≤ n) (h2 : n ≤ 1125899906842624) : run P E T (d + 3) 127 [.d (.int .i64 n), .d (.bool true)] [] = some (.tup [tn n, .d (.bool true)], []) := by
  rw [run_succ _ _ _ _ _ _ _ _ T_127]
  have h := tof_run g d n h1 h2
  have hw : IntKind.i64.wrap (0 - n) = -n := by rw [wrapZ (by omega) (by omega)]; omega
  have hw' : IntKind.i64.wrap (-n) = -n := by rw [wrapZ (by omega) (by omega)]
  have e1 : ¬ (1125899906842624 < n) := by omega
  have e2 : ¬ (1125899906842624 < -n) := by omega
  simp only [tn, tnD] at h ⊢
  simp -implicitDefEqProofs [v127, h, hw', S_128, e1, e2]
theorem tAdd_run (g : Good P E) (d : Nat) (n m : Int) (h1 : -1125899906842624 ≤ n) (h2 : n ≤ 1125899906842624) (h3 : -1125899906842624 ≤ m) (h4 : m ≤ 1125899906842624) (h5 : -1125899906842624 ≤ n + m) (h6 : n + m ≤ 1125899906842624) :
    run P E T (d + 6) 103 [tn n, tn m] [] = some (.tup [tn (n + m), .d (.bool true)], []) := by
  rw [run_succ _ _ _ _ _ _ _ _ T_103]
  have ha := tNet_run g d n h1 h2
  have hb := tNet_run g d m h3 h4
  have hc := tRight_run g (d + 2) n h1 h2
  have hd := tRight_run g (d + 2) m h3 h4
  have he := tsome_run g (d + 2) (n + m) h5 h6
  have hw : IntKind.i64.wrap (n + m) = n + m := wrapZ (by omega) (by omega)
  simp only [tn, tnD, Nat.add_assoc, Nat.reduceAdd] at ha hb hc hd he ⊢
  simp -implicitDefEqProofs [v103, ha, hb, hc, hd, he, hw, S_82, S_98, S_127]
theorem tReduce_run (g : Good P E) (d : Nat) (n : Int) (h1 : -1125899906842624 ≤ n) (h2 : n ≤ 1125899906842624) : run P E T (d + 6) 105 [tn n] [] = some (tn n, []) := by
  rw [run_succ _ _ _ _ _ _ _ _ T_105]
  have ha := tNet_run g d n h1 h2
  have hb := tof_run g (d + 3) n h1 h2
  simp only [tn, tnD, Nat.add_assoc, Nat.reduceAdd] at ha hb ⊢
  simp -implicitDefEqProofs [v105, ha, hb, S_82, S_128]
theorem tFlip_run (g : Good P E) (d : Nat) (n : Int) (h1 : -1125899906842624 ≤ n) (h2 : n ≤ 1125899906842624) : run P E T (d + 4) 71 [tn n] [] = some (tn (-n), []) := by
  rw [run_succ _ _ _ _ _ _ _ _ T_71]
  have ha := tRight_run g d n h1 h2
  simp only [tn, tnD, Int.neg_neg] at ha ⊢
  simp -implicitDefEqProofs [v71, ha, S_98]
end Go.Vm.B
namespace Go.Vm.B
open Go.Fl
attribute [local irreducible] IntKind.wrap Go.Fl.fl
variable {P : Program} {E : Env}
set_option maxHeartbeats 1000000 in
theorem rParts_run (g : Good P E) (d : Nat) (n : Int) (h1 : -1125899906842624 ≤ n) (h2 : n ≤ 1125899906842624) : run P E T (d + 1) 25 [tn n] [] = some (.tup [.d (.int .i64 n.toNat), .d (.int .i64 (-n).toNat), .d (.bool true)], []) := by
  rw [run_succ _ _ _ _ _ _ _ _ T_25]
  have a1 := ge0 P 71 n.toNat (by omega)
  have a2 := lemax P 71 n.toNat (by omega)
  have b1 := ge0 P 71 (-n).toNat (by omega)
  have b2 := lemax P 71 (-n).toNat (by omega)
  rw [decide_eq_true (by omega)] at a2 b2
  have e1 := g.c2 n.toNat 2 (by omega)
  have e2 := g.c2 (-n).toNat 2 (by omega)
  have c1 := g.c1 n.toNat 71
  have c2 := g.c1 (-n).toNat 71
  have c1' := g.c1' (max n 0) 71 (by omega)
  have c2' := g.c1' (max (-n) 0) 71 (by omega)
  rw [show (max n 0).toNat = n.toNat by omega] at c1'
  rw [show (max (-n) 0).toNat = (-n).toNat by omega] at c2'
  have n1 := fl_neq (P := P) (ty := 71) (a := n.toNat) (b := n.toNat) (by omega) (by omega)
  have n2 := fl_neq (P := P) (ty := 71) (a := (-n).toNat) (b := (-n).toNat) (by omega) (by omega)
  rw [decide_eq_true rfl] at n1 n2
  simp only [Bool.not_true] at n1 n2
  simp -implicitDefEqProofs [v25, tn, tnD, a1, a2, b1, b2, e1, e2, c1, c2, c1', c2', n1, n2]
theorem rNet_run (g : Good P E) (d : Nat) (n : Int) (h1 : -1125899906842624 ≤ n) (h2 : n ≤ 1125899906842624) : run P E T (d + 2) 51 [tn n] [] = some (.d (.int .i64 n), []) := by
  rw [run_succ _ _ _ _ _ _ _ _ T_51]
  have ha := rParts_run g d n h1 h2
  have hw : IntKind.i64.wrap ((n.toNat : Int) - ((-n).toNat : Int)) = n := by rw [net_parts]; exact wrapZ (by omega) (by omega)
  have hw' : IntKind.i64.wrap (max n 0 - max (-n) 0) = n := by rw [show max n 0 - max (-n) 0 = n by omega]; exact wrapZ (by omega) (by omega)
  simp only [tn, tnD] at ha
  simp -implicitDefEqProofs [v51, tn, tnD, ha, hw, hw']
theorem rof_run (g : Good P E) (d : Nat) (n : Int) (h1 : -1125899906842624 ≤ n) (h2 : n ≤ 1125899906842624) : run P E T (d + 2) 50 [.d (.int .i64 n)] [] = some (.tup [tn n, .d (.bool true)], []) := by
  rw [run_succ _ _ _ _ _ _ _ _ T_50]
  have e1 : (1125899906842624 < n) = False := by simp; omega
  have e2 : (n < -1125899906842624) = False := by simp; omega
  have hw' : IntKind.i64.wrap (-n) = -n := by rw [wrapZ (by omega) (by omega)]
  by_cases h0 : n < 0
  · have h := refOf_run g d 0 (-n) (by omega) (by omega)
    have e3 : fl 0 = fl n.toNat := by rw [show n.toNat = 0 by omega]
    simp only [Int.toNat_zero, e3] at h
    simp -implicitDefEqProofs [v50, tn, tnD, h, h0, hw', e1, e2]
  · have h := refOf_run g d n 0 (by omega) (by omega)
    have e3 : fl 0 = fl (-n).toNat := by rw [show (-n).toNat = 0 by omega]
    simp only [Int.toNat_zero, e3] at h
    simp -implicitDefEqProofs [v50, tn, tnD, h, h0, hw', e1, e2]
theorem rReduce_run (g : Good P E) (d : Nat) (n : Int) (h1 : -1125899906842624 ≤ n) (h2 : n ≤ 1125899906842624) : run P E T (d + 3) 30 [tn n] [] = some (tn n, []) := by
  rw [run_succ _ _ _ _ _ _ _ _ T_30]
  have ha := rNet_run g d n h1 h2
  have hb := rof_run g d n h1 h2
  simp only [tn, tnD] at ha hb ⊢
  simp -implicitDefEqProofs [v30, ha, hb]
theorem rFlip_run (g : Good P E) (d : Nat) (n : Int) (h1 : -1125899906842624 ≤ n) (h2 : n ≤ 1125899906842624) : run P E T (d + 2) 76 [tn n] [] = some (tn (-n), []) := by
  rw [run_succ _ _ _ _ _ _ _ _ T_76]
  have ha := rParts_run g d n h1 h2
  have hb := refOf_run g d (max (-n) 0) (max n 0) (by omega) (by omega)
  rw [show (max n 0).toNat = n.toNat by omega, show (max (-n) 0).toNat = (-n).toNat by omega] at hb
  simp only [tn, tnD] at ha ⊢
  simp -implicitDefEqProofs [v76, ha, hb]
theorem rAdd_run (g : Good P E) (d : Nat) (n m : Int) (h1 : -1125899906842624 ≤ n) (h2 : n ≤ 1125899906842624) (h3 : -1125899906842624 ≤ m) (h4 : m ≤ 1125899906842624) (h5 : -1125899906842624 ≤ n + m) (h6 : n + m ≤ 1125899906842624) :
    run P E T (d + 3) 29 [tn n, tn m] [] = some (.tup [tn (n + m), .d (.bool true)], []) := by
  rw [run_succ _ _ _ _ _ _ _ _ T_29]
  have ha := rParts_run g (d + 1) n h1 h2
  have hb := rParts_run g (d + 1) m h3 h4
  have hc := rNet_run g d n h1 h2
  have hd := rNet_run g d m h3 h4
  have he := rof_run g d (n + m) h5 h6
  have hw : IntKind.i64.wrap (n + m) = n + m := wrapZ (by omega) (by omega)
  simp only [tn, tnD, Nat.add_assoc, Nat.reduceAdd] at ha hb hc hd he ⊢
  simp -implicitDefEqProofs [v29, ha, hb, hc, hd, he, hw]
/-- A row's item. -/
def itc (x : Row × Int) : List D := [.lst x.1.c, tnD x.2]
def itv (x : Row × Int) : V := .agg [.d (.lst x.1.c), tn x.2]
theorem tn_eql0 (ty : TypeId) (n : Int) (h1 : -1125899906842624 ≤ n) (h2 : n ≤ 1125899906842624) : binD P .eql ty (tn n) (.d (.complex .f64 0 0)) = some (.d (.bool (decide (n = 0)))) := by
  have := cx_eql (P := P) (ty := ty) (a := n.toNat) (b := (-n).toNat) (c := 0) (d := 0) (by omega) (by omega) (by omega) (by omega)
  rw [show fl 0 = 0 from fl_zero] at this
  rw [tn, tnD, this]
  congr 3
  rw [Bool.eq_iff_iff]
  simp
  omega
theorem tn_neq0 (ty : TypeId) (n : Int) (h1 : -1125899906842624 ≤ n) (h2 : n ≤ 1125899906842624) : binD P .neq ty (tn n) (.d (.complex .f64 0 0)) = some (.d (.bool (!decide (n = 0)))) := by
  have := cx_neq (P := P) (ty := ty) (a := n.toNat) (b := (-n).toNat) (c := 0) (d := 0) (by omega) (by omega) (by omega) (by omega)
  rw [show fl 0 = 0 from fl_zero] at this
  rw [tn, tnD, this]
  congr 4
  rw [Bool.eq_iff_iff]
  simp
  omega
theorem tn_neq (ty : TypeId) (n m : Int) (h1 : -1125899906842624 ≤ n) (h2 : n ≤ 1125899906842624) (h3 : -1125899906842624 ≤ m) (h4 : m ≤ 1125899906842624) : binD P .neq ty (tn n) (tn m) = some (.d (.bool (!decide (n = m)))) := by
  have := cx_neq (P := P) (ty := ty) (a := n.toNat) (b := (-n).toNat) (c := m.toNat) (d := (-m).toNat) (by omega) (by omega) (by omega) (by omega)
  rw [tn, tnD, tn, tnD, this]
  congr 4
  rw [Bool.eq_iff_iff]
  simp
  omega
end Go.Vm.B
namespace Go.Vm.B
open Go.Fl
attribute [local irreducible] IntKind.wrap Go.Fl.fl
theorem refSame_run (P : Program) (E : Env) (d : Nat) (a b : Row) (ha : a.length < 4611686018427387904) (hb : b.length < 4611686018427387904) :
    run P E T (d + 4) 28 [.d (.lst a.c), .d (.lst b.c)] [] = some (.d (.bool (a.right && b.right && !decide (Row.cmp a b < 0) && !decide (Row.cmp b a < 0) && decide (a.length = b.length))), []) := by
  have h1 : run P E T (d + 3) 26 [.d (.lst a.c)] [] = some (.d (.bool a.right), []) := refRow_run P E (d + 1) a ha
  have h2 : run P E T (d + 3) 26 [.d (.lst b.c)] [] = some (.d (.bool b.right), []) := refRow_run P E (d + 1) b hb
  have h3 := refRowLess_run P E d a b ha hb
  have h4 := refRowLess_run P E d b a hb ha
  generalize decide (Row.cmp a b < 0) = u at *
  generalize decide (Row.cmp b a < 0) = v at *
  generalize a.right = p at *
  generalize b.right = q at *
  rw [run_succ _ _ _ _ _ _ _ _ T_28]
  cases p with
  | false => simp -implicitDefEqProofs [v28, h1]
  | true =>
    cases q with
    | false => simp -implicitDefEqProofs [v28, h1, h2]
    | true =>
      simp only [Bool.and_true, Bool.true_and] at h3 h4 ⊢
      cases u with
      | true => simp -implicitDefEqProofs [v28, h1, h2, h3]
      | false =>
        cases v with
        | true => simp -implicitDefEqProofs [v28, h1, h2, h3, h4]
        | false =>
          by_cases hl : a.length = b.length
          · rw [decide_eq_true hl]
            simp -implicitDefEqProofs [v28, h1, h2, h3, h4, Row.c_len, hl]
          · rw [decide_eq_false hl]
            have hl' : ¬ ((a.length : Int) = b.length) := by omega
            simp -implicitDefEqProofs [v28, h1, h2, h3, h4, Row.c_len, hl']
abbrev Col := ByteArray × Int
def colc (c : Col) : List D := [.str c.1, .int .i64 c.2]
def colsc (l : List Col) : List (List D) := l.map colc
theorem colsc_len (l : List Col) : (colsc l).length = l.length := by simp [colsc]
theorem colsc_get {l : List Col} {i : Nat} (h : i < l.length) : (colsc l)[i]? = some (colc l[i]) := by simp [colsc, h]
@[simp] theorem colsc_getElem (l : List Col) (i : Nat) (h : i < (colsc l).length) : (colsc l)[i] = colc (l[i]'(by rwa [colsc_len] at h)) := by simp [colsc]
def fits : List Col → Row → Bool
  | [], [] => true
  | c :: cs, v :: r => v.right && decide (v.k = c.2) && fits cs r
  | _, _ => false
theorem fits_len : ∀ (cs : List Col) (r : Row), fits cs r = true → cs.length = r.length
  | [], [], _ => rfl
  | c :: cs, v :: r, h => by
    simp only [fits, Bool.and_eq_true] at h
    simp [fits_len cs r h.2]
  | [], _ :: _, h => by cases h
  | _ :: _, [], h => by cases h
def fr40 (a b : V) (i : Nat) : Fr := ⟨[a, b, .bot, .bot, .bot, .d (.int .i64 i), .bot, .bot, .bot, .bot, .bot, .bot, .bot, .bot, .bot, .bot, .bot, .bot, .bot, .bot, .bot, .bot, .bot, .bot, .bot, .bot, .bot, .bot, .bot, .bot, .bot, .bot, .bot, .bot, .bot, .bot], []⟩
def fe40 (c : V) : Fr := ⟨[.bot, .bot, .bot, .bot, c, .bot, .bot, .bot, .bot, .bot, .bot, .bot, .bot, .bot, .bot, .bot, .bot, .bot, .bot, .bot, .bot, .bot, .bot, .bot, .bot, .bot, .bot, .bot, .bot, .bot, .bot, .bot, .bot, .bot, .bot, .bot], []⟩
set_option maxHeartbeats 1000000 in
theorem rounds40 (P : Program) (E : Env) (d : Nat) (cs : List Col) (r : Row) (hl : cs.length = r.length) (hr : r.length < 4611686018427387904) : ∀ (m i f : Nat), m = r.length - i → i ≤ r.length → m < f →
    rounds (exec P (run P E T (d + 1)) (refsOf T) 0 v40_0) (forget 0 35) (forget 0 16) f (fr40 (.d (.lst (colsc cs))) (.d (.lst r.c)) i) =
      if fits (cs.drop i) (r.drop i) then some (.exit 0, fe40 .bot) else some (.ret, fe40 (.d (.bool false))) := by
  intro m
  induction m with
  | zero =>
    intro i f hm hi hf
    obtain ⟨f, rfl⟩ : ∃ f', f = f' + 1 := ⟨f - 1, by omega⟩
    have : i = r.length := by omega
    subst this
    have hd : cs.drop r.length = [] := List.drop_eq_nil_of_le (by omega)
    rw [rounds, List.drop_length, hd, fits, if_pos rfl]
    simp -implicitDefEqProofs [exB v40_0.eq_1, fr40, fe40, Row.c_len]
  | succ m ih =>
    intro i f hm hi hf
    obtain ⟨f, rfl⟩ : ∃ f', f = f' + 1 := ⟨f - 1, by omega⟩
    have hlt : i < r.length := by omega
    have hlt2 : i < cs.length := by omega
    rw [rounds]
    have hx := Row.c_get hlt
    have hy := colsc_get hlt2
    rw [List.drop_eq_getElem_cons hlt, List.drop_eq_getElem_cons hlt2, fits]
    have hc := refRight_run P E d r[i]
    simp only [Val.v] at hc
    generalize hxe : r[i] = x at *
    generalize hye : cs[i] = y at *
    cases h1 : x.right with
    | false =>
      rw [h1] at hc
      rw [if_neg (by simp)]
      simp -implicitDefEqProofs [exB v40_0.eq_1, fr40, fe40, Row.c_len, colsc_len, hlt, hlt2, hxe, hye, hx, hy, Val.c, colc, hc]
    | true =>
      rw [h1] at hc
      by_cases h2 : x.k = y.2
      · have hw : IntKind.i64.wrap ((i : Int) + 1) = (i : Int) + 1 := wrap_small (by omega) (by omega)
        rw [decide_eq_true h2, Bool.and_true, Bool.true_and, ← ih (i + 1) f (by omega) (by omega) (by omega)]
        rw [h2] at hc
        simp -implicitDefEqProofs [exB v40_0.eq_1, fr40, Row.c_len, colsc_len, hlt, hlt2, hxe, hye, hx, hy, Val.c, colc, hc, h2, hw]
      · rw [decide_eq_false h2, if_neg (by simp)]
        simp -implicitDefEqProofs [exB v40_0.eq_1, fr40, fe40, Row.c_len, colsc_len, hlt, hlt2, hxe, hye, hx, hy, Val.c, colc, hc, h2]
theorem refFits_run (P : Program) (E : Env) (d : Nat) (cs : List Col) (r : Row) (hr : r.length < 4611686018427387904) :
    run P E T (d + 2) 40 [.d (.lst (colsc cs)), .d (.lst r.c)] [] = some (.d (.bool (fits cs r)), []) := by
  rw [run_succ _ _ _ _ _ _ _ _ T_40]
  by_cases hl : cs.length = r.length
  · have h := rounds40 P E d cs r hl hr _ 0 LOOPS rfl (by omega) (by unfold LOOPS; omega)
    have h0 : ((0 : Nat) : Int) = 0 := rfl
    simp only [fr40, List.drop_zero] at h
    rw [h0] at h
    cases hf : fits cs r with
    | true =>
      rw [hf, if_pos rfl] at h
      simp -implicitDefEqProofs [v40, h, fe40, colsc_len, Row.c_len, hl]
    | false =>
      rw [hf, if_neg Bool.false_ne_true] at h
      simp -implicitDefEqProofs [v40, h, fe40, colsc_len, Row.c_len, hl]
  · have hf : fits cs r = false := by
      cases hf : fits cs r with
      | true => exact absurd (fits_len _ _ hf) hl
      | false => rfl
    have hl' : ¬ ((cs.length : Int) = r.length) := by omega
    simp -implicitDefEqProofs [v40, colsc_len, Row.c_len, hl, hl', hf]
def fr57 (a b : V) (n i : Nat) : Fr := ⟨[a, .bot, .bot, .bot, .bot, .bot, .bot, .bot, .bot, .bot, .bot, .bot, b, .d (.int .i64 n), .d (.int .i64 i), .bot, .bot, .bot, .bot, .bot, .bot, .bot, .bot, .bot, .bot, .bot, .bot, .bot, .bot, .bot, .bot, .bot, .bot], []⟩
def fe57 (c : V) : Fr := ⟨[.bot, .bot, .bot, .bot, c, .bot, .bot, .bot, .bot, .bot, .bot, .bot, .bot, .bot, .bot, .bot, .bot, .bot, .bot, .bot, .bot, .bot, .bot, .bot, .bot, .bot, .bot, .bot, .bot, .bot, .bot, .bot, .bot], []⟩
set_option maxHeartbeats 1000000 in
theorem rounds57 (P : Program) (E : Env) (d : Nat) (cs : List Col) (r : Row) (hl : cs.length = r.length) (hr : r.length < 4611686018427387904) : ∀ (m i f : Nat), m = r.length - i → i ≤ r.length → m < f →
    rounds (exec P (run P E T (d + 1)) (refsOf T) 0 v57_0) (forget 0 28673) (forget 0 16) f (fr57 (.d (.lst (colsc cs))) (.d (.lst r.c)) r.length i) =
      if fits (cs.drop i) (r.drop i) then some (.exit 0, fe57 .bot) else some (.ret, fe57 (.d (.bool false))) := by
  intro m
  induction m with
  | zero =>
    intro i f hm hi hf
    obtain ⟨f, rfl⟩ : ∃ f', f = f' + 1 := ⟨f - 1, by omega⟩
    have : i = r.length := by omega
    subst this
    have hd : cs.drop r.length = [] := List.drop_eq_nil_of_le (by omega)
    rw [rounds, List.drop_length, hd, fits, if_pos rfl]
    simp -implicitDefEqProofs [exB v57_0.eq_1, fr57, fe57, Row.c_len]
  | succ m ih =>
    intro i f hm hi hf
    obtain ⟨f, rfl⟩ : ∃ f', f = f' + 1 := ⟨f - 1, by omega⟩
    have hlt : i < r.length := by omega
    have hlt2 : i < cs.length := by omega
    rw [rounds]
    have hx := Row.c_get hlt
    have hy := colsc_get hlt2
    rw [List.drop_eq_getElem_cons hlt, List.drop_eq_getElem_cons hlt2, fits]
    have hc := valRight_run P E d r[i]
    simp only [Val.v] at hc
    generalize hxe : r[i] = x at *
    generalize hye : cs[i] = y at *
    cases h1 : x.right with
    | false =>
      rw [h1] at hc
      rw [if_neg (by simp)]
      simp -implicitDefEqProofs [exB v57_0.eq_1, fr57, fe57, Row.c_len, colsc_len, hlt, hlt2, hxe, hye, hx, hy, Val.c, colc, hc]
    | true =>
      rw [h1] at hc
      by_cases h2 : x.k = y.2
      · have hw : IntKind.i64.wrap ((i : Int) + 1) = (i : Int) + 1 := wrap_small (by omega) (by omega)
        rw [decide_eq_true h2, Bool.and_true, Bool.true_and, ← ih (i + 1) f (by omega) (by omega) (by omega)]
        rw [h2] at hc
        simp -implicitDefEqProofs [exB v57_0.eq_1, fr57, Row.c_len, colsc_len, hlt, hlt2, hxe, hye, hx, hy, Val.c, colc, hc, h2, hw]
      · rw [decide_eq_false h2, if_neg (by simp)]
        simp -implicitDefEqProofs [exB v57_0.eq_1, fr57, fe57, Row.c_len, colsc_len, hlt, hlt2, hxe, hye, hx, hy, Val.c, colc, hc, h2]
theorem fits_run (P : Program) (E : Env) (d : Nat) (cs : List Col) (r : Row) (hr : r.length < 4611686018427387904) :
    run P E T (d + 2) 57 [.d (.lst (colsc cs)), .d (.lst r.c)] [] = some (.d (.bool (fits cs r)), []) := by
  rw [run_succ _ _ _ _ _ _ _ _ T_57]
  by_cases hl : cs.length = r.length
  · have h := rounds57 P E d cs r hl hr _ 0 LOOPS rfl (by omega) (by unfold LOOPS; omega)
    have h0 : ((0 : Nat) : Int) = 0 := rfl
    simp only [fr57, List.drop_zero] at h
    rw [h0] at h
    cases hf : fits cs r with
    | true =>
      rw [hf, if_pos rfl] at h
      simp -implicitDefEqProofs [v57, h, fe57, colsc_len, Row.c_len, hl]
    | false =>
      rw [hf, if_neg Bool.false_ne_true] at h
      simp -implicitDefEqProofs [v57, h, fe57, colsc_len, Row.c_len, hl]
  · have hf : fits cs r = false := by
      cases hf : fits cs r with
      | true => exact absurd (fits_len _ _ hf) hl
      | false => rfl
    have hl' : ¬ ((cs.length : Int) = r.length) := by omega
    simp -implicitDefEqProofs [v57, colsc_len, Row.c_len, hl, hl', hf]
end Go.Vm.B
namespace Go.Vm.B
open Go.Fl
attribute [local irreducible] IntKind.wrap Go.Fl.fl
theorem all3 (r : Row) : (r.c.all fun x => x.length == 3) = true := by
  rw [List.all_eq_true]; intro x hx; rw [row_len3 r x hx]; rfl
theorem Row.c_ne {r : Row} (h : r ≠ []) : r.c ≠ [] := by cases r with | nil => exact absurd rfl h | cons a t => simp [Row.c]
theorem bad3 (r : Row) : (∃ x, x ∈ r.c ∧ ¬ x.length = 3) = False := by
  simp only [eq_iff_iff, iff_false, not_exists, not_and, Decidable.not_not]; exact row_len3 r
theorem cloneRow_run (P : Program) (E : Env) (d : Nat) (r : Row) (h : r ≠ []) (hl : r.length ≤ 4294967296) : run P E T (d + 1) 107 [.d (.lst r.c)] [] = some (.d (.lst r.c), []) := by
  rw [run_succ _ _ _ _ _ _ _ _ T_107]
  have h1 := Row.c_ne h
  have h2 := bad3 r
  have h4 : List.take r.length r.c = r.c := List.take_of_length_le (by rw [Row.c_len]; exact Nat.le_refl _)
  simp -implicitDefEqProofs [v107, h1, h2, h4, hl, Row.c_len, h]
theorem item_run (P : Program) (E : Env) (d : Nat) (r : Row) (n : Int) (h : r ≠ []) (hl : r.length ≤ 4294967296) : run P E T (d + 2) 70 [.d (.lst r.c), tn n] [] = some (itv (r, n), []) := by
  rw [run_succ _ _ _ _ _ _ _ _ T_70]
  have h1 := cloneRow_run P E d r h hl
  simp -implicitDefEqProofs [v70, h1, tn, itv]
abbrev Set := List (Row × Int)
def setc (s : Set) : List (List D) := s.map itc
theorem setc_len (s : Set) : (setc s).length = s.length := by simp [setc]
theorem setc_get {s : Set} {i : Nat} (h : i < s.length) : (setc s)[i]? = some (itc s[i]) := by simp [setc, h]
@[simp] theorem setc_getElem (s : Set) (i : Nat) (h : i < (setc s).length) : (setc s)[i] = itc (s[i]'(by rwa [setc_len] at h)) := by simp [setc]
/-- A slice that is made by and by. -/
def accV (xs : List (List D)) : V := if xs = [] then .nils else .arr 0 0 xs.length
def accS (s : Nat) (xs : List (List D)) : Store := if xs = [] then [] else [some (.row s xs)]
def fr59 (a : V) (n i : Nat) (xs : List (List D)) : Fr := ⟨[.bot, .bot, .bot, accV xs, .bot, .bot, a, .d (.int .i64 n), .d (.int .i64 i), .bot, .bot, .bot, .bot, .bot, .bot, .bot, .bot, .bot, .bot, .bot, .bot, .bot], accS 2 xs⟩
def fe59 (xs : List (List D)) : Fr := ⟨[.bot, .bot, .bot, accV xs, .bot, .bot, .bot, .bot, .bot, .bot, .bot, .bot, .bot, .bot, .bot, .bot, .bot, .bot, .bot, .bot, .bot, .bot], accS 2 xs⟩
set_option maxHeartbeats 1000000 in
theorem rounds59 (P : Program) (E : Env) (d : Nat) (s : Set) (hr : ∀ x ∈ s, x.1 ≠ [] ∧ x.1.length ≤ 4294967296) (hl : s.length ≤ 4294967296) : ∀ (m i f : Nat), m = s.length - i → i ≤ s.length → m < f →
    rounds (exec P (run P E T (d + 2)) (refsOf T) 0 v59_0) (forget 0 456) (forget 0 12) f (fr59 (.d (.lst (setc s))) s.length i (setc (s.take i))) = some (.exit 0, fe59 (setc s)) := by
  intro m
  induction m with
  | zero =>
    intro i f hm hi hf
    obtain ⟨f, rfl⟩ : ∃ f', f = f' + 1 := ⟨f - 1, by omega⟩
    have : i = s.length := by omega
    subst this
    rw [rounds, List.take_length]
    by_cases h0 : setc s = []
    · simp -implicitDefEqProofs [exB v59_0.eq_1, fr59, fe59, setc_len, accV, accS, h0]
    · simp -implicitDefEqProofs [exB v59_0.eq_1, fr59, fe59, setc_len, accV, accS, h0]
  | succ m ih =>
    intro i f hm hi hf
    obtain ⟨f, rfl⟩ : ∃ f', f = f' + 1 := ⟨f - 1, by omega⟩
    have hlt : i < s.length := by omega
    rw [rounds, ← ih (i + 1) f (by omega) (by omega) (by omega)]
    have hx := setc_get hlt
    have hrx := hr _ (List.getElem_mem hlt)
    have hc := item_run P E d s[i].1 s[i].2 hrx.1 hrx.2
    have htk : setc (s.take (i + 1)) = setc (s.take i) ++ [itc s[i]] := by unfold setc; rw [List.take_succ_eq_append_getElem hlt, List.map_append]; rfl
    have hw : IntKind.i64.wrap ((i : Int) + 1) = (i : Int) + 1 := wrap_small (by omega) (by omega)
    rw [htk]
    have hi0 : (setc (s.take i)).length = i := by rw [setc_len, List.length_take]; omega
    generalize setc (s.take i) = xs at *
    generalize hxe : s[i] = x at *
    simp only [tn, itv] at hc
    have hii : i + 1 ≤ 4294967296 := by omega
    by_cases h0 : xs = []
    · subst h0
      simp only [List.length_nil] at hi0
      subst hi0
      have hw1 : IntKind.i64.wrap 1 = 1 := wrap_small (by omega) (by omega)
      simp -implicitDefEqProofs [exB v59_0.eq_1, fr59, fe59, setc_len, accV, accS, hxe, hx, itc, hc, hlt, hw, hw1]
    · simp -implicitDefEqProofs [exB v59_0.eq_1, fr59, fe59, setc_len, accV, accS, h0, hxe, hx, itc, hc, hlt, hw, hi0, hii]
end Go.Vm.B
namespace Go.Vm.B
open Go.Fl
attribute [local irreducible] IntKind.wrap Go.Fl.fl tnD
/-- A set as it may be. -/
structure GS (s : Set) : Prop where
  right : ∀ x ∈ s, x.1.right = true
  lo : ∀ x ∈ s, -1125899906842624 ≤ x.2
  hi : ∀ x ∈ s, x.2 ≤ 1125899906842624
  nz : ∀ x ∈ s, x.2 ≠ 0
  ord : ∀ (i : Nat) (h : i + 1 < s.length), Row.cmp s[i].1 s[i + 1].1 < 0
  len : s.length ≤ 4294967296
theorem right_len {r : Row} (h : r.right = true) : 0 < r.length ∧ r.length ≤ 6 := by
  simp only [Row.right, Bool.and_eq_true, decide_eq_true_eq] at h; exact h.1
theorem right_ne {r : Row} (h : r.right = true) : r ≠ [] := by
  have := (right_len h).1; intro e; rw [e] at this; simp at this
variable {P : Program} {E : Env}
theorem copy_run (P : Program) (E : Env) (d : Nat) (s : Set) (h : GS s) : run P E T (d + 3) 59 [.d (.lst (setc s))] [] = some (.d (.lst (setc s)), []) := by
  rw [run_succ _ _ _ _ _ _ _ _ T_59]
  have h := rounds59 P E d s (fun x hx => ⟨right_ne (h.right x hx), by have := right_len (h.right x hx); omega⟩) h.len _ 0 LOOPS rfl (by omega) (by have := h.len; unfold LOOPS; omega)
  have h0 : ((0 : Nat) : Int) = 0 := rfl
  simp only [fr59, List.take_zero, setc, List.map_nil, accV, accS, if_true] at h
  rw [h0] at h
  by_cases he : s = []
  · subst he
    simp -implicitDefEqProofs [v59, setc]
    simp at h
    simp -implicitDefEqProofs [h, fe59, setc, accV, accS]
  · have he' : s.map itc ≠ [] := by simpa using he
    have ht : List.take s.length (s.map itc) = s.map itc := List.take_of_length_le (by simp)
    simp -implicitDefEqProofs [v59, setc, h, fe59, accV, accS, he', he, ht]
def fr69 (a : V) (n i : Nat) : Fr := ⟨[a, .bot, .bot, .bot, .bot, a, .d (.int .i64 n), .d (.int .i64 i), .bot, .bot, .bot, .bot, .bot, .bot, .bot, .bot, .bot, .bot, .bot, .bot, .bot, .bot, .bot, .bot, .bot, .bot, .bot, .bot, .bot, .bot, .bot, .bot, .bot, .bot, .bot, .bot, .bot, .bot, .bot, .bot, .bot, .bot, .bot, .bot, .bot, .bot, .bot, .bot, .bot, .bot, .bot, .bot], []⟩
def fe69 : Fr := ⟨[.bot, .bot, .bot, .bot, .bot, .bot, .bot, .bot, .bot, .bot, .bot, .bot, .bot, .bot, .bot, .bot, .bot, .bot, .bot, .bot, .bot, .bot, .bot, .bot, .bot, .bot, .bot, .bot, .bot, .bot, .bot, .bot, .bot, .bot, .bot, .bot, .bot, .bot, .bot, .bot, .bot, .bot, .bot, .bot, .bot, .bot, .bot, .bot, .bot, .bot, .bot, .bot], []⟩
set_option maxHeartbeats 2000000 in
theorem rounds69 (g : Good P E) (d : Nat) (s : Set) (h : GS s) : ∀ (m i f : Nat), m = s.length - i → i ≤ s.length → m < f →
    rounds (exec P (run P E T (d + 6)) (refsOf T) 0 v69_0) (forget 0 225) (forget 0 4) f (fr69 (.d (.lst (setc s))) s.length i) = some (.exit 0, fe69) := by
  intro m
  have hsl := h.len
  induction m with
  | zero =>
    intro i f hm hi hf
    obtain ⟨f, rfl⟩ : ∃ f', f = f' + 1 := ⟨f - 1, by omega⟩
    have : i = s.length := by omega
    subst this
    rw [rounds]
    simp -implicitDefEqProofs [exB v69_0.eq_1, fr69, fe69, setc_len]
  | succ m ih =>
    intro i f hm hi hf
    obtain ⟨f, rfl⟩ : ∃ f', f = f' + 1 := ⟨f - 1, by omega⟩
    have hlt : i < s.length := by omega
    rw [rounds, ← ih (i + 1) f (by omega) (by omega) (by omega)]
    have hx := setc_get hlt
    have hm := List.getElem_mem hlt
    have hr := h.right _ hm
    have hc1 : run P E T (d + 6) 97 [.d (.lst s[i].1.c)] [] = some (.d (.bool s[i].1.right), []) := rowRight_run P E (d + 1) s[i].1 (by have := right_len hr; omega)
    have hc2 : run P E T (d + 6) 98 [tn s[i].2] [] = some (.d (.bool true), []) := tRight_run g (d + 3) s[i].2 (h.lo _ hm) (h.hi _ hm)
    have hc3 := tReduce_run g d s[i].2 (h.lo _ hm) (h.hi _ hm)
    have hb1 := tn_eql0 (P := P) 53 s[i].2 (h.lo _ hm) (h.hi _ hm)
    have hb2 := tn_neq (P := P) 53 s[i].2 s[i].2 (h.lo _ hm) (h.hi _ hm) (h.lo _ hm) (h.hi _ hm)
    rw [decide_eq_false (h.nz _ hm)] at hb1
    rw [decide_eq_true rfl] at hb2
    have hw : IntKind.i64.wrap ((i : Int) + 1) = (i : Int) + 1 := wrap_small (by omega) (by omega)
    rw [hr] at hc1
    simp only [tn, Bool.not_true] at hc2 hc3 hb1 hb2
    rcases i with _ | j
    · have hw1 : IntKind.i64.wrap 1 = 1 := wrap_small (by omega) (by omega)
      generalize hxe : s[0] = x at *
      simp -implicitDefEqProofs [exB v69_0.eq_1, fr69, setc_len, hxe, hx, itc, hc1, hc2, hc3, hb1, hb2, hlt, hw, hw1]
    · have hlt2 : j < s.length := by omega
      have hy := setc_get hlt2
      have hry := h.right _ (List.getElem_mem hlt2)
      have hc4 := rowLess_run P E d s[j].1 s[j + 1].1 (by have := right_len hry; omega) (by have := right_len hr; omega)
      rw [hr, hry, decide_eq_true (h.ord j hlt)] at hc4
      simp only [Bool.and_true] at hc4
      have hw2 : IntKind.i64.wrap (j : Int) = j := wrap_small (by omega) (by omega)
      have hw3 : IntKind.i64.wrap ((j : Int) + 1 + 1) = (j : Int) + 1 + 1 := wrap_small (by omega) (by omega)
      generalize hxe : s[j + 1] = x at *
      generalize hye : s[j] = y at *
      have hpos : (0 : Int) < (j : Int) + 1 := by omega
      have hlt3 : (j : Int) + 1 < s.length := by omega
      have hnn : ((j : Int) + 1 < 0) = False := by simp; omega
      have htn : ((j : Int) + 1).toNat = j + 1 := by omega
      simp -implicitDefEqProofs [exB v69_0.eq_1, fr69, setc_len, hxe, hx, hye, hy, itc, hc1, hc2, hc3, hc4, hb1, hb2, hlt, hlt2, hlt3, hw2, hw3, hpos, hnn, htn]
theorem zRight_run (g : Good P E) (d : Nat) (s : Set) (h : GS s) : run P E T (d + 7) 69 [.d (.lst (setc s))] [] = some (.d (.bool true), []) := by
  rw [run_succ _ _ _ _ _ _ _ _ T_69]
  have h := rounds69 g d s h _ 0 LOOPS rfl (by omega) (by have := h.len; unfold LOOPS; omega)
  have h0 : ((0 : Nat) : Int) = 0 := rfl
  simp only [fr69] at h
  rw [h0] at h
  simp -implicitDefEqProofs [v69, h, fe69, setc_len]
end Go.Vm.B
namespace Go.Vm.B
open Go.Fl
attribute [local irreducible] IntKind.wrap Go.Fl.fl tnD
variable {P : Program} {E : Env}
theorem parts_ne {n : Int} (h : n ≠ 0) : (decide ((n.toNat : Int) = 0) == decide (((-n).toNat : Int) = 0)) = false := by
  by_cases h0 : 0 < n
  · have e1 : ¬ ((n.toNat : Int) = 0) := by omega
    have e2 : ((-n).toNat : Int) = 0 := by omega
    rw [decide_eq_false e1, decide_eq_true e2]; rfl
  · have e1 : ((n.toNat : Int) = 0) := by omega
    have e2 : ¬ ((-n).toNat : Int) = 0 := by omega
    rw [decide_eq_true e1, decide_eq_false e2]; rfl
theorem parts_ne' {n : Int} (h : n ≠ 0) : (max n 0 = 0 ∧ max (-n) 0 = 0 ∨ ¬ max n 0 = 0 ∧ ¬ max (-n) 0 = 0) = False := by
  simp only [eq_iff_iff, iff_false]; omega
def fr75 (a : V) (i : Nat) : Fr := ⟨[a, .bot, .bot, .d (.int .i64 i), .bot, .bot, .bot, .bot, .bot, .bot, .bot, .bot, .bot, .bot, .bot, .bot, .bot, .bot, .bot, .bot, .bot, .bot, .bot, .bot, .bot, .bot, .bot, .bot, .bot, .bot, .bot, .bot, .bot, .bot, .bot, .bot, .bot, .bot, .bot, .bot, .bot, .bot, .bot, .bot, .bot, .bot, .bot, .bot, .bot, .bot, .bot, .bot, .bot, .bot, .bot, .bot, .bot, .bot, .bot, .bot], []⟩
def fe75 : Fr := ⟨[.bot, .bot, .bot, .bot, .bot, .bot, .bot, .bot, .bot, .bot, .bot, .bot, .bot, .bot, .bot, .bot, .bot, .bot, .bot, .bot, .bot, .bot, .bot, .bot, .bot, .bot, .bot, .bot, .bot, .bot, .bot, .bot, .bot, .bot, .bot, .bot, .bot, .bot, .bot, .bot, .bot, .bot, .bot, .bot, .bot, .bot, .bot, .bot, .bot, .bot, .bot, .bot, .bot, .bot, .bot, .bot, .bot, .bot, .bot, .bot], []⟩
set_option maxHeartbeats 2000000 in
theorem rounds75 (g : Good P E) (d : Nat) (s : Set) (h : GS s) : ∀ (m i f : Nat), m = s.length - i → i ≤ s.length → m < f →
    rounds (exec P (run P E T (d + 3)) (refsOf T) 0 v75_0) (forget 0 9) (forget 0 4) f (fr75 (.d (.lst (setc s))) i) = some (.exit 0, fe75) := by
  intro m
  have hsl := h.len
  induction m with
  | zero =>
    intro i f hm hi hf
    obtain ⟨f, rfl⟩ : ∃ f', f = f' + 1 := ⟨f - 1, by omega⟩
    have : i = s.length := by omega
    subst this
    rw [rounds]
    simp -implicitDefEqProofs [exB v75_0.eq_1, fr75, fe75, setc_len]
  | succ m ih =>
    intro i f hm hi hf
    obtain ⟨f, rfl⟩ : ∃ f', f = f' + 1 := ⟨f - 1, by omega⟩
    have hlt : i < s.length := by omega
    rw [rounds, ← ih (i + 1) f (by omega) (by omega) (by omega)]
    have hx := setc_get hlt
    have hm := List.getElem_mem hlt
    have hr := h.right _ hm
    have hc1 : run P E T (d + 3) 26 [.d (.lst s[i].1.c)] [] = some (.d (.bool s[i].1.right), []) := refRow_run P E (d + 1) s[i].1 (by have := right_len hr; omega)
    have hc2 : run P E T (d + 3) 25 [tn s[i].2] [] = _ := rParts_run g (d + 2) s[i].2 (h.lo _ hm) (h.hi _ hm)
    have hb1 := parts_ne (h.nz _ hm)
    have hb2 := parts_ne' (h.nz _ hm)
    have hw : IntKind.i64.wrap ((i : Int) + 1) = (i : Int) + 1 := wrap_small (by omega) (by omega)
    rw [hr] at hc1
    simp only [tn] at hc2
    rcases i with _ | j
    · have hw1 : IntKind.i64.wrap 1 = 1 := wrap_small (by omega) (by omega)
      generalize hxe : s[0] = x at *
      generalize (x.2.toNat : Int) = p at *
      generalize ((-x.2).toNat : Int) = q at *
      simp -implicitDefEqProofs [exB v75_0.eq_1, fr75, setc_len, hxe, hx, itc, hc1, hc2, hb1, hlt, hw, hw1]
    · have hlt2 : j < s.length := by omega
      have hy := setc_get hlt2
      have hry := h.right _ (List.getElem_mem hlt2)
      have hc4 := refRowLess_run P E d s[j].1 s[j + 1].1 (by have := right_len hry; omega) (by have := right_len hr; omega)
      rw [hr, hry, decide_eq_true (h.ord j hlt)] at hc4
      simp only [Bool.and_true] at hc4
      have hw2 : IntKind.i64.wrap (j : Int) = j := wrap_small (by omega) (by omega)
      have hw3 : IntKind.i64.wrap ((j : Int) + 1 + 1) = (j : Int) + 1 + 1 := wrap_small (by omega) (by omega)
      generalize hxe : s[j + 1] = x at *
      generalize hye : s[j] = y at *
      generalize (x.2.toNat : Int) = p at *
      generalize ((-x.2).toNat : Int) = q at *
      have hpos : (0 : Int) < (j : Int) + 1 := by omega
      have hlt3 : (j : Int) + 1 < s.length := by omega
      have hnn : ((j : Int) + 1 < 0) = False := by simp; omega
      have htn : ((j : Int) + 1).toNat = j + 1 := by omega
      simp -implicitDefEqProofs [exB v75_0.eq_1, fr75, setc_len, hxe, hx, hye, hy, itc, hc1, hc2, hc4, hb1, hlt, hlt2, hlt3, hw2, hw3, hpos, hnn, htn]
theorem rRight_run (g : Good P E) (d : Nat) (s : Set) (h : GS s) : run P E T (d + 4) 75 [.d (.lst (setc s))] [] = some (.d (.bool true), []) := by
  rw [run_succ _ _ _ _ _ _ _ _ T_75]
  have h := rounds75 g d s h _ 0 LOOPS rfl (by omega) (by have := h.len; unfold LOOPS; omega)
  have h0 : ((0 : Nat) : Int) = 0 := rfl
  simp only [fr75] at h
  rw [h0] at h
  simp -implicitDefEqProofs [v75, h, fe75, setc_len]
/-- No tally is below nought. -/
def plainS (s : Set) : Prop := ∀ x ∈ s, 0 ≤ x.2
def fe74 (a : V) : Fr := ⟨[a, .bot, .bot, .bot, .bot, .bot, .bot, .bot, .bot, .bot, .bot, .bot, .bot, .bot, .bot, .bot, .bot, .bot, .bot], []⟩
def fr74 (a : V) (i : Nat) : Fr := ⟨[a, .bot, .bot, .d (.int .i64 i), .bot, .bot, .bot, .bot, .bot, .bot, .bot, .bot, .bot, .bot, .bot, .bot, .bot, .bot, .bot], []⟩
set_option maxHeartbeats 2000000 in
theorem rounds74 (g : Good P E) (d : Nat) (s : Set) (h : GS s) (hp : plainS s) : ∀ (m i f : Nat), m = s.length - i → i ≤ s.length → m < f →
    rounds (exec P (run P E T (d + 2)) (refsOf T) 0 v74_0) (forget 0 9) (forget 0 5) f (fr74 (.d (.lst (setc s))) i) = some (.exit 0, fe74 (.d (.lst (setc s)))) := by
  intro m
  have hsl := h.len
  induction m with
  | zero =>
    intro i f hm hi hf
    obtain ⟨f, rfl⟩ : ∃ f', f = f' + 1 := ⟨f - 1, by omega⟩
    have : i = s.length := by omega
    subst this
    rw [rounds]
    simp -implicitDefEqProofs [exB v74_0.eq_1, fr74, fe74, setc_len]
  | succ m ih =>
    intro i f hm hi hf
    obtain ⟨f, rfl⟩ : ∃ f', f = f' + 1 := ⟨f - 1, by omega⟩
    have hlt : i < s.length := by omega
    rw [rounds, ← ih (i + 1) f (by omega) (by omega) (by omega)]
    have hx := setc_get hlt
    have hm := List.getElem_mem hlt
    have hc2 := rNet_run g d s[i].2 (h.lo _ hm) (h.hi _ hm)
    have hb : (s[i].2 < 0) = False := by have := hp _ hm; simp; omega
    have hw : IntKind.i64.wrap ((i : Int) + 1) = (i : Int) + 1 := wrap_small (by omega) (by omega)
    simp only [tn] at hc2
    generalize hxe : s[i] = x at *
    simp -implicitDefEqProofs [exB v74_0.eq_1, fr74, setc_len, hxe, hx, itc, hc2, hb, hlt, hw]
theorem rPlain_run (g : Good P E) (d : Nat) (s : Set) (h : GS s) (hp : plainS s) : run P E T (d + 5) 74 [.d (.lst (setc s))] [] = some (.d (.bool true), []) := by
  rw [run_succ _ _ _ _ _ _ _ _ T_74]
  have h2 := rRight_run g d s h
  have h := rounds74 g (d + 2) s h hp _ 0 LOOPS rfl (by omega) (by have := h.len; unfold LOOPS; omega)
  have h0 : ((0 : Nat) : Int) = 0 := rfl
  simp only [fr74] at h
  rw [h0] at h
  simp -implicitDefEqProofs [v74, h, fe74, setc_len, h2]
theorem ixFrom_none (q : List D → Bool) : ∀ (xs : List (List D)) (i : Nat), (∀ x ∈ xs, q x = false) → ixFrom q xs i = -1
  | [], i, _ => rfl
  | x :: r, i, h => by
    rw [ixFrom, h x (by simp)]
    exact ixFrom_none q r (i + 1) fun y hy => h y (by simp [hy])
theorem zPlain_run (g : Good P E) (d : Nat) (s : Set) (h : GS s) (hp : plainS s) : run P E T (d + 9) 54 [.d (.lst (setc s))] [] = some (.d (.bool true), []) := by
  have h81 : ∀ x ∈ setc s, callX (run P E T (d + 6)) (refsOf T 81) 81 [.agg (x.map V.d)] [] 0 = some (.d (.bool false), []) := by
    intro x hx
    obtain ⟨y, hy, rfl⟩ := List.mem_map.1 hx
    have hc := tNet_run g d y.2 (h.lo _ hy) (h.hi _ hy)
    have hb : (y.2 < 0) = False := by have := hp _ hy; simp; omega
    simp only [tn] at hc
    have : run P E T (d + 6) 81 [.agg [.d (.lst y.1.c), .d (tnD y.2)]] [] = some (.d (.bool false), []) := by
      rw [run_succ _ _ _ _ _ _ _ _ T_81]
      simp -implicitDefEqProofs [v81, hc, hb]
    simp -implicitDefEqProofs [itc, this]
  have hl2 : ∀ x ∈ setc s, x.length = 2 := by
    intro x hx
    obtain ⟨y, hy, rfl⟩ := List.mem_map.1 hx
    rfl
  have h83 := ixA_run P E (d + 6) (N := 83) (s := 2) (by rw [T_83, ix83]) 81 (fun _ => false) (setc s) hl2 (by rw [setc_len]; have := h.len; omega) h81 (by decide)
  rw [ixFrom_none _ _ _ (fun _ _ => rfl)] at h83
  have h55 : run P E T (d + 8) 55 [.d (.lst (setc s)), .clo 81 [] []] [] = some (.d (.bool false), []) := by
    rw [run_succ _ _ _ _ _ _ _ _ T_55]
    simp -implicitDefEqProofs [v55, h83]
  have h69 : run P E T (d + 8) 69 [.d (.lst (setc s))] [] = some (.d (.bool true), []) := zRight_run g (d + 1) s h
  rw [run_succ _ _ _ _ _ _ _ _ T_54]
  simp -implicitDefEqProofs [v54, h55, h69]
end Go.Vm.B
