/- A part of the proofs of the statements BatchTells and BatchNumbers: C33, C34, C35, C36, C37. Conditions: none of its own. -/
import Derived.Test.YtoaafpebcdfniaaGreatT14
set_option linter.unusedSimpArgs false
set_option linter.unusedVariables false
set_option linter.unnecessarySimpa false
set_option linter.all false
set_option maxRecDepth 100000
namespace Go.Vm.B
open Go.Fl
attribute [local irreducible] IntKind.wrap Go.Fl.fl tnD
variable {P : Program} {E : Env}

def rotA (m : Nat) : Nat → Nat → Nat → Set → Nat × Set
  | 0, i, _, l => (i, l)
  | k + 1, i, j, l => if i = j then (i, l) else if j < i then rotA m k (i - j) j (swapR (m - i) m j 0 l) else rotA m k i (j - i) (swapR (m - i) (m + j - i) i 0 l)
/-- slices.rotate. -/
def rotS (a m b : Nat) (l : Set) : Set := swapR (m - (rotA m (b - a) (m - a) (b - m) l).1) m (rotA m (b - a) (m - a) (b - m) l).1 0 (rotA m (b - a) (m - a) (b - m) l).2
theorem rotA_spec (m : Nat) : ∀ (k i j : Nat) (l : Set), (rotA m k i j l).2.length = l.length ∧ (∀ (p : Row × Int → Prop), (∀ x ∈ l, p x) → ∀ x ∈ (rotA m k i j l).2, p x) ∧ (rotA m k i j l).1 ≤ i ∧ (0 < i → 0 < j → 0 < (rotA m k i j l).1) ∧ (0 < i → 0 < j → i + j ≤ k + 1 → (rotA m k i j l).1 ≤ j)
  | 0, i, j, l => ⟨rfl, fun p h => h, Nat.le_refl _, fun h _ => h, fun h1 h2 h3 => by simp [rotA]; omega⟩
  | k + 1, i, j, l => by
    rw [rotA]
    split
    · rename_i e
      exact ⟨rfl, fun p h => h, Nat.le_refl _, fun h _ => h, fun _ _ _ => by simp; omega⟩
    · split
      · rename_i h1 h2
        obtain ⟨q1, q2, q3, q4, q5⟩ := rotA_spec m k (i - j) j (swapR (m - i) m j 0 l)
        exact ⟨by rw [q1, swapR_len], fun p h => q2 p (swapR_mem _ _ _ _ l p h), by omega, fun a b => q4 (by omega) b, fun a b c => q5 (by omega) b (by omega)⟩
      · rename_i h1 h2
        obtain ⟨q1, q2, q3, q4, q5⟩ := rotA_spec m k i (j - i) (swapR (m - i) (m + j - i) i 0 l)
        exact ⟨by rw [q1, swapR_len], fun p h => q2 p (swapR_mem _ _ _ _ l p h), q3, fun a b => q4 a (by omega), fun a b c => by have := q5 a (by omega) (by omega); omega⟩
theorem rotS_len (a m b : Nat) (l : Set) : (rotS a m b l).length = l.length := by unfold rotS; rw [swapR_len, (rotA_spec _ _ _ _ _).1]
theorem rotS_mem (a m b : Nat) (l : Set) (p : Row × Int → Prop) (h : ∀ x ∈ l, p x) : ∀ x ∈ rotS a m b l, p x := swapR_mem _ _ _ _ _ p ((rotA_spec _ _ _ _ _).2.1 p h)
def fr139 (len m i j : Nat) (l : Set) : Fr := ⟨[.arr 0 0 len, .bot, .d (.int .i64 m), .bot, .clo 101 [] [], .bot, .bot, .bot, .bot, .bot, .d (.int .i64 i), .d (.int .i64 j), .bot, .bot, .bot, .bot, .bot, .bot, .bot, .bot, .bot, .bot, .bot, .bot, .bot, .bot, .bot, .bot, .bot, .bot, .bot, .bot, .bot, .bot, .bot, .bot, .bot, .bot, .bot, .bot, .bot, .bot, .bot, .bot, .bot, .bot, .bot, .bot, .bot, .bot, .bot, .bot, .bot, .bot, .bot, .bot, .bot, .bot], [some (.row 2 (setc l))]⟩
def fe139 (len m i : Nat) (l : Set) : Fr := ⟨[.arr 0 0 len, .bot, .d (.int .i64 m), .bot, .clo 101 [] [], .bot, .bot, .bot, .bot, .bot, .d (.int .i64 i), .bot, .bot, .bot, .bot, .bot, .bot, .bot, .bot, .bot, .bot, .bot, .bot, .bot, .bot, .bot, .bot, .bot, .bot, .bot, .bot, .bot, .bot, .bot, .bot, .bot, .bot, .bot, .bot, .bot, .bot, .bot, .bot, .bot, .bot, .bot, .bot, .bot, .bot, .bot, .bot, .bot, .bot, .bot, .bot, .bot, .bot, .bot], [some (.row 2 (setc l))]⟩
set_option maxHeartbeats 8000000 in
theorem rounds139 (d : Nat) (m : Nat) : ∀ (k i j : Nat) (l : Set) (f : Nat), k < f → i + j ≤ k + 1 → 0 < i → 0 < j → i ≤ m → m + j ≤ l.length → l.length ≤ 100000 →
    rounds (exec P (run P E T (d + 1)) (refsOf T) 1 v139_0) (forget 1 3093) (forget 1 1045) f (fr139 l.length m i j l) = some (.exit 0, fe139 l.length m (rotA m k i j l).1 (rotA m k i j l).2) := by
  intro k
  induction k with
  | zero => intro i j l f hf h1 h2 h3; omega
  | succ k ih =>
    intro i j l f hf h1 h2 h3 him hmj hl
    obtain ⟨f, rfl⟩ : ∃ f', f = f' + 1 := ⟨f - 1, by omega⟩
    rw [rounds, rotA]
    by_cases e : i = j
    · rw [if_pos e]
      have eI : (i : Int) = j := by omega
      simp -implicitDefEqProofs [exB v139_0.eq_1, fr139, fe139, eI, e, List.range_succ]
    · rw [if_neg e]
      have eI : ¬ (i : Int) = j := by omega
      have w1 : IntKind.i64.wrap ((m : Int) - i) = ((m - i : Nat) : Int) := by rw [wrap_small (by omega) (by omega)]; omega
      by_cases e2 : j < i
      · rw [if_pos e2]
        have e2I : (j : Int) < i := by omega
        have ih := ih (i - j) j (swapR (m - i) m j 0 l) f (by omega) (by omega) (by omega) h3 (by omega) (by rw [swapR_len]; exact hmj) (by rw [swapR_len]; exact hl)
        rw [swapR_len] at ih
        rw [← ih]
        have hs := swap_run P E d (m - i) m j l (by omega) (by omega) hmj hl
        have w2 : IntKind.i64.wrap ((i : Int) - j) = ((i - j : Nat) : Int) := by rw [wrap_small (by omega) (by omega)]; omega
        generalize (m - i) = q at *
        generalize (i - j) = z at *
        simp -implicitDefEqProofs [exB v139_0.eq_1, fr139, eI, e2I, e, e2, w1, w2, hs, List.range_succ, callX, callIds, frzArgs, passArgs, S_144, List.idxOf?_cons]
      · rw [if_neg e2]
        have e2I : ¬ (j : Int) < i := by omega
        have ih := ih i (j - i) (swapR (m - i) (m + j - i) i 0 l) f (by omega) (by omega) h2 (by omega) him (by rw [swapR_len]; omega) (by rw [swapR_len]; exact hl)
        rw [swapR_len] at ih
        rw [← ih]
        have hs := swap_run P E d (m - i) (m + j - i) i l (by omega) (by omega) (by omega) hl
        have w2 : IntKind.i64.wrap ((j : Int) - i) = ((j - i : Nat) : Int) := by rw [wrap_small (by omega) (by omega)]; omega
        have w3 : IntKind.i64.wrap ((m : Int) + j) = (m : Int) + j := wrap_small (by omega) (by omega)
        have w4 : IntKind.i64.wrap ((m : Int) + j - i) = ((m + j - i : Nat) : Int) := by rw [wrap_small (by omega) (by omega)]; omega
        generalize (m + j - i) = r at *
        generalize (m - i) = q at *
        generalize (j - i) = z at *
        simp -implicitDefEqProofs [exB v139_0.eq_1, fr139, eI, e2I, e, e2, w1, w2, w3, w4, hs, List.range_succ, callX, callIds, frzArgs, passArgs, S_144, List.idxOf?_cons]
theorem rotate_run (P : Program) (E : Env) (d : Nat) (a m b : Nat) (l : Set) (h1 : a < m) (h2 : m < b) (hb : b ≤ l.length) (hl : l.length ≤ 100000) :
    run P E T (d + 2) 139 [.arr 0 0 l.length, .d (.int .i64 a), .d (.int .i64 m), .d (.int .i64 b), .clo 101 [] []] [some (.row 2 (setc l))] = some (.tup [], [some (.row 2 (setc (rotS a m b l)))]) := by
  rw [run_succ _ _ _ _ _ _ _ _ T_139]
  have h := rounds139 (P := P) (E := E) d m (b - a) (m - a) (b - m) l LOOPS (by unfold LOOPS; omega) (by omega) (by omega) (by omega) (by omega) (by omega) hl
  obtain ⟨q1, q2, q3, q4, q5⟩ := rotA_spec m (b - a) (m - a) (b - m) l
  have q4 := q4 (by omega) (by omega)
  have q5 := q5 (by omega) (by omega) (by omega)
  unfold rotS
  generalize rotA m (b - a) (m - a) (b - m) l = z at *
  have hs := swap_run P E d (m - z.1) m z.1 z.2 (by omega) (by omega) (by omega) (by omega)
  rw [q1] at hs
  simp only [fr139, fe139] at h
  have w1 : IntKind.i64.wrap ((m : Int) - a) = ((m - a : Nat) : Int) := by rw [wrap_small (by omega) (by omega)]; omega
  have w2 : IntKind.i64.wrap ((b : Int) - m) = ((b - m : Nat) : Int) := by rw [wrap_small (by omega) (by omega)]; omega
  have w3 : IntKind.i64.wrap ((m : Int) - z.1) = ((m - z.1 : Nat) : Int) := by rw [wrap_small (by omega) (by omega)]; omega
  generalize (m - z.1) = q at *
  generalize (m - a) = r at *
  generalize (b - m) = t at *
  simp -implicitDefEqProofs [v139, h, w1, w2, w3, hs, List.range_succ, callX, callIds, frzArgs, passArgs, S_144, List.idxOf?_cons]
end Go.Vm.B
namespace Go.Vm.B
open Go.Fl
theorem wrapU {n : Int} (h0 : 0 ≤ n) (h1 : n < 18446744073709551616) : IntKind.u64.wrap n = n := by
  simp [IntKind.wrap, IntKind.bits, IntKind.signed]; omega
theorem shr1 (P : Program) (ty : TypeId) (n : Nat) : binD P .shr ty (.d (.int .u64 (n : Int))) (.d (.int .u64 1)) = some (.d (.int .u64 ((n / 2 : Nat) : Int))) := by
  have h : (n : Int).fdiv (2 ^ (min (1 : Int).toNat IntKind.u64.bits)) = ((n / 2 : Nat) : Int) := by
    rw [show (2 : Int) ^ (min (1 : Int).toNat IntKind.u64.bits) = 2 from rfl, Int.fdiv_eq_ediv_of_nonneg _ (by omega)]
    omega
  rw [← h]
  rfl
attribute [local irreducible] IntKind.wrap Go.Fl.fl tnD
variable {P : Program} {E : Env}
theorem shr1' (P : Program) (ty : TypeId) (i j : Nat) : binD P .shr ty (.d (.int .u64 ((i : Int) + j))) (.d (.int .u64 1)) = some (.d (.int .u64 (((i + j) / 2 : Nat) : Int))) := shr1 P ty (i + j)
/-- The search by halves. -/
def bsG (p : Nat → Bool) : Nat → Nat → Nat → Nat
  | 0, i, _ => i
  | k + 1, i, j => if i < j then if p ((i + j) / 2) then bsG p k ((i + j) / 2 + 1) j else bsG p k i ((i + j) / 2) else i
def rowAt (l : Set) (h : Nat) : Row := (l[h]?.map (·.1)).getD []
theorem rowAt_eq {l : Set} {h : Nat} (hh : h < l.length) : rowAt l h = l[h].1 := by simp [rowAt, hh]

def fh136_0 (len a i j : Nat) (l : Set) : Fr := ⟨[.arr 0 0 len, .d (.int .i64 (a : Nat)), .bot, .bot, .clo 101 [] [], .bot, .bot, .bot, .bot, .bot, .d (.int .i64 (i : Nat)), .d (.int .i64 (j : Nat)), .bot, .bot, .bot, .bot, .bot, .bot, .bot, .bot, .bot, .bot, .bot, .bot, .bot, .bot, .bot, .bot, .bot, .bot, .bot, .bot, .bot, .bot, .bot, .bot, .bot, .bot, .bot, .bot, .bot, .bot, .bot, .bot, .bot, .bot, .bot, .bot, .bot, .bot, .bot, .bot, .bot, .bot, .bot, .bot, .bot, .bot, .bot, .bot, .bot, .bot, .bot, .bot, .bot, .bot, .bot, .bot, .bot, .bot, .bot, .bot, .bot, .bot, .bot, .bot, .bot, .bot, .bot, .bot, .bot, .bot, .bot, .bot, .bot, .bot, .bot, .bot, .bot, .bot, .bot, .bot, .bot, .bot, .bot, .bot, .bot, .bot, .bot, .bot, .bot, .bot, .bot, .bot, .bot, .bot, .bot, .bot, .bot, .bot, .bot, .bot, .bot, .bot, .bot, .bot, .bot, .bot, .bot, .bot, .bot, .bot, .bot, .bot, .bot, .bot, .bot, .bot, .bot, .bot, .bot, .bot, .bot, .bot, .bot, .bot, .bot, .bot, .bot, .bot, .bot, .bot, .bot, .bot, .bot, .bot, .bot, .bot, .bot, .bot, .bot, .bot, .bot, .bot, .bot, .bot, .bot, .bot, .bot, .bot, .bot, .bot, .bot, .bot, .bot, .bot, .bot, .bot, .bot, .bot, .bot, .bot, .bot, .bot, .bot, .bot, .bot, .bot, .bot, .bot, .bot, .bot, .bot, .bot, .bot, .bot, .bot, .bot, .bot, .bot, .bot, .bot, .bot, .bot, .bot, .bot, .bot, .bot, .bot, .bot, .bot, .bot, .bot, .bot, .bot, .bot, .bot, .bot, .bot, .bot, .bot, .bot, .bot, .bot, .bot, .bot, .bot, .bot, .bot, .bot], [some (.row 2 (setc l))]⟩
def fe136_0 (len a i : Nat) (l : Set) : Fr := ⟨[.arr 0 0 len, .d (.int .i64 (a : Nat)), .bot, .bot, .bot, .bot, .bot, .bot, .bot, .bot, .d (.int .i64 (i : Nat)), .bot, .bot, .bot, .bot, .bot, .bot, .bot, .bot, .bot, .bot, .bot, .bot, .bot, .bot, .bot, .bot, .bot, .bot, .bot, .bot, .bot, .bot, .bot, .bot, .bot, .bot, .bot, .bot, .bot, .bot, .bot, .bot, .bot, .bot, .bot, .bot, .bot, .bot, .bot, .bot, .bot, .bot, .bot, .bot, .bot, .bot, .bot, .bot, .bot, .bot, .bot, .bot, .bot, .bot, .bot, .bot, .bot, .bot, .bot, .bot, .bot, .bot, .bot, .bot, .bot, .bot, .bot, .bot, .bot, .bot, .bot, .bot, .bot, .bot, .bot, .bot, .bot, .bot, .bot, .bot, .bot, .bot, .bot, .bot, .bot, .bot, .bot, .bot, .bot, .bot, .bot, .bot, .bot, .bot, .bot, .bot, .bot, .bot, .bot, .bot, .bot, .bot, .bot, .bot, .bot, .bot, .bot, .bot, .bot, .bot, .bot, .bot, .bot, .bot, .bot, .bot, .bot, .bot, .bot, .bot, .bot, .bot, .bot, .bot, .bot, .bot, .bot, .bot, .bot, .bot, .bot, .bot, .bot, .bot, .bot, .bot, .bot, .bot, .bot, .bot, .bot, .bot, .bot, .bot, .bot, .bot, .bot, .bot, .bot, .bot, .bot, .bot, .bot, .bot, .bot, .bot, .bot, .bot, .bot, .bot, .bot, .bot, .bot, .bot, .bot, .bot, .bot, .bot, .bot, .bot, .bot, .bot, .bot, .bot, .bot, .bot, .bot, .bot, .bot, .bot, .bot, .bot, .bot, .bot, .bot, .bot, .bot, .bot, .bot, .bot, .bot, .bot, .bot, .bot, .bot, .bot, .bot, .bot, .bot, .bot, .bot, .bot, .bot, .bot, .bot, .bot, .bot, .bot, .bot], [some (.row 2 (setc l))]⟩
def p136_0 (l : Set) (a h : Nat) : Bool := decide (Row.cmp (rowAt l h) (rowAt l a) < 0)
set_option maxHeartbeats 1600000 in
theorem rounds136_0 (d : Nat) (a : Nat) (l : Set) (hl : l.length ≤ 100000) (hr : ∀ x ∈ l, x.1.length ≤ 6) (ha : a < l.length) : ∀ (k i j f : Nat), j - i ≤ k → k < f → j ≤ l.length →
    rounds (exec P (run P E T (d + 6)) (refsOf T) 1 v136_0) (forget 1 3091) (forget 1 1027) f (fh136_0 l.length a i j l) = some (.exit 0, fe136_0 l.length a (bsG (p136_0 l a) k i j) l) := by
  intro k
  induction k with
  | zero =>
    intro i j f hk hf hj
    obtain ⟨f, rfl⟩ : ∃ f', f = f' + 1 := ⟨f - 1, by omega⟩
    have e : ¬ ((i : Int) < j) := by omega
    rw [rounds, bsG]
    simp -implicitDefEqProofs [exB v136_0.eq_1, fh136_0, fe136_0, e, List.range_succ]
  | succ k ih =>
    intro i j f hk hf hj
    obtain ⟨f, rfl⟩ : ∃ f', f = f' + 1 := ⟨f - 1, by omega⟩
    rw [rounds, bsG]
    by_cases hij : i < j
    · rw [if_pos hij]
      have e : ((i : Int) < j) := by omega
      have hwU : IntKind.u64.wrap ((i : Int) + j) = (i : Int) + j := wrapU (by omega) (by omega)
      have hwA : IntKind.i64.wrap ((i : Int) + j) = (i : Int) + j := wrap_small (by omega) (by omega)
      have hsh := shr1' P 113 i j
      obtain ⟨h, hh⟩ : ∃ h, h = (i + j) / 2 := ⟨_, rfl⟩
      rw [← hh] at hsh ⊢
      have hlo : i ≤ h := by omega
      have hhi : h < j := by omega
      have ih1 := ih (h + 1) j f (by omega) (by omega) (by omega)
      have ih2 := ih i h f (by omega) (by omega) (by omega)
      have hwH : IntKind.i64.wrap (h : Int) = h := wrap_small (by omega) (by omega)
      have hwH1 : IntKind.i64.wrap ((h : Int) + 1) = (h : Int) + 1 := wrap_small (by omega) (by omega)

      have hxl : h < l.length := by omega
      have hyl : a < l.length := by omega
      have hx := setc_get hxl
      have hy := setc_get hyl
      have hxI : ((h : Nat) : Int) < l.length := by omega
      have hyI : ((a : Nat) : Int) < l.length := by omega
      have hp : p136_0 l a h =  decide (Row.cmp l[h].1 l[a].1 < 0) := by unfold p136_0; rw [rowAt_eq hxl, rowAt_eq hyl]
      rw [hp]
      have hc := cmpItem_run P E d l[h] l[a] (by have := hr _ (List.getElem_mem hxl); omega) (by have := hr _ (List.getElem_mem hyl); omega)
      clear hh hp
      generalize hxe : l[h] = x at *
      generalize hye : l[a] = y at *
      by_cases h0 : Row.cmp x.1 y.1 < 0
      · rw [decide_eq_true h0]
        simp only [Bool.not_true, if_true, Bool.false_eq_true, if_false]
        rw [← ih1]
        simp -implicitDefEqProofs [exB v136_0.eq_1, fh136_0, setc_len, e, hwU, hwA, hsh, hwH, hwH1, hx, hy, hxe, hye, hxl, hyl, hxI, hyI, itc, hc, h0, List.range_succ]
      · rw [decide_eq_false h0]
        simp only [Bool.not_false, if_true, Bool.false_eq_true, if_false]
        rw [← ih2]
        simp -implicitDefEqProofs [exB v136_0.eq_1, fh136_0, setc_len, e, hwU, hwA, hsh, hwH, hwH1, hx, hy, hxe, hye, hxl, hyl, hxI, hyI, itc, hc, h0, List.range_succ]
    · rw [if_neg hij]
      have e : ¬ ((i : Int) < j) := by omega
      simp -implicitDefEqProofs [exB v136_0.eq_1, fh136_0, fe136_0, e, List.range_succ]

def fh136_2 (len m i j : Nat) (l : Set) : Fr := ⟨[.arr 0 0 len, .bot, .d (.int .i64 (m : Nat)), .bot, .clo 101 [] [], .bot, .bot, .bot, .bot, .bot, .bot, .bot, .bot, .bot, .d (.int .i64 (i : Nat)), .d (.int .i64 (j : Nat)), .bot, .bot, .bot, .bot, .bot, .bot, .bot, .bot, .bot, .bot, .bot, .bot, .bot, .bot, .bot, .bot, .bot, .bot, .bot, .bot, .bot, .bot, .bot, .bot, .bot, .bot, .bot, .bot, .bot, .bot, .bot, .bot, .bot, .bot, .bot, .bot, .bot, .bot, .bot, .bot, .bot, .bot, .bot, .bot, .bot, .bot, .bot, .bot, .bot, .bot, .bot, .bot, .bot, .bot, .bot, .bot, .bot, .bot, .bot, .bot, .bot, .bot, .bot, .bot, .bot, .bot, .bot, .bot, .bot, .bot, .bot, .bot, .bot, .bot, .bot, .bot, .bot, .bot, .bot, .bot, .bot, .bot, .bot, .bot, .bot, .bot, .bot, .bot, .bot, .bot, .bot, .bot, .bot, .bot, .bot, .bot, .bot, .bot, .bot, .bot, .bot, .bot, .bot, .bot, .bot, .bot, .bot, .bot, .bot, .bot, .bot, .bot, .bot, .bot, .bot, .bot, .bot, .bot, .bot, .bot, .bot, .bot, .bot, .bot, .bot, .bot, .bot, .bot, .bot, .bot, .bot, .bot, .bot, .bot, .bot, .bot, .bot, .bot, .bot, .bot, .bot, .bot, .bot, .bot, .bot, .bot, .bot, .bot, .bot, .bot, .bot, .bot, .bot, .bot, .bot, .bot, .bot, .bot, .bot, .bot, .bot, .bot, .bot, .bot, .bot, .bot, .bot, .bot, .bot, .bot, .bot, .bot, .bot, .bot, .bot, .bot, .bot, .bot, .bot, .bot, .bot, .bot, .bot, .bot, .bot, .bot, .bot, .bot, .bot, .bot, .bot, .bot, .bot, .bot, .bot, .bot, .bot, .bot, .bot, .bot, .bot, .bot, .bot, .bot], [some (.row 2 (setc l))]⟩
def fe136_2 (len m i : Nat) (l : Set) : Fr := ⟨[.arr 0 0 len, .bot, .d (.int .i64 (m : Nat)), .bot, .bot, .bot, .bot, .bot, .bot, .bot, .bot, .bot, .bot, .bot, .d (.int .i64 (i : Nat)), .bot, .bot, .bot, .bot, .bot, .bot, .bot, .bot, .bot, .bot, .bot, .bot, .bot, .bot, .bot, .bot, .bot, .bot, .bot, .bot, .bot, .bot, .bot, .bot, .bot, .bot, .bot, .bot, .bot, .bot, .bot, .bot, .bot, .bot, .bot, .bot, .bot, .bot, .bot, .bot, .bot, .bot, .bot, .bot, .bot, .bot, .bot, .bot, .bot, .bot, .bot, .bot, .bot, .bot, .bot, .bot, .bot, .bot, .bot, .bot, .bot, .bot, .bot, .bot, .bot, .bot, .bot, .bot, .bot, .bot, .bot, .bot, .bot, .bot, .bot, .bot, .bot, .bot, .bot, .bot, .bot, .bot, .bot, .bot, .bot, .bot, .bot, .bot, .bot, .bot, .bot, .bot, .bot, .bot, .bot, .bot, .bot, .bot, .bot, .bot, .bot, .bot, .bot, .bot, .bot, .bot, .bot, .bot, .bot, .bot, .bot, .bot, .bot, .bot, .bot, .bot, .bot, .bot, .bot, .bot, .bot, .bot, .bot, .bot, .bot, .bot, .bot, .bot, .bot, .bot, .bot, .bot, .bot, .bot, .bot, .bot, .bot, .bot, .bot, .bot, .bot, .bot, .bot, .bot, .bot, .bot, .bot, .bot, .bot, .bot, .bot, .bot, .bot, .bot, .bot, .bot, .bot, .bot, .bot, .bot, .bot, .bot, .bot, .bot, .bot, .bot, .bot, .bot, .bot, .bot, .bot, .bot, .bot, .bot, .bot, .bot, .bot, .bot, .bot, .bot, .bot, .bot, .bot, .bot, .bot, .bot, .bot, .bot, .bot, .bot, .bot, .bot, .bot, .bot, .bot, .bot, .bot, .bot, .bot, .bot, .bot, .bot, .bot, .bot, .bot], [some (.row 2 (setc l))]⟩
def p136_2 (l : Set) (m h : Nat) : Bool := !decide (Row.cmp (rowAt l m) (rowAt l h) < 0)
set_option maxHeartbeats 1600000 in
theorem rounds136_2 (d : Nat) (m : Nat) (l : Set) (hl : l.length ≤ 100000) (hr : ∀ x ∈ l, x.1.length ≤ 6) (hm : m < l.length) : ∀ (k i j f : Nat), j - i ≤ k → k < f → j ≤ l.length →
    rounds (exec P (run P E T (d + 6)) (refsOf T) 1 v136_2) (forget 1 49173) (forget 1 16389) f (fh136_2 l.length m i j l) = some (.exit 4, fe136_2 l.length m (bsG (p136_2 l m) k i j) l) := by
  intro k
  induction k with
  | zero =>
    intro i j f hk hf hj
    obtain ⟨f, rfl⟩ : ∃ f', f = f' + 1 := ⟨f - 1, by omega⟩
    have e : ¬ ((i : Int) < j) := by omega
    rw [rounds, bsG]
    simp -implicitDefEqProofs [exB v136_2.eq_1, fh136_2, fe136_2, e, List.range_succ]
  | succ k ih =>
    intro i j f hk hf hj
    obtain ⟨f, rfl⟩ : ∃ f', f = f' + 1 := ⟨f - 1, by omega⟩
    rw [rounds, bsG]
    by_cases hij : i < j
    · rw [if_pos hij]
      have e : ((i : Int) < j) := by omega
      have hwU : IntKind.u64.wrap ((i : Int) + j) = (i : Int) + j := wrapU (by omega) (by omega)
      have hwA : IntKind.i64.wrap ((i : Int) + j) = (i : Int) + j := wrap_small (by omega) (by omega)
      have hsh := shr1' P 113 i j
      obtain ⟨h, hh⟩ : ∃ h, h = (i + j) / 2 := ⟨_, rfl⟩
      rw [← hh] at hsh ⊢
      have hlo : i ≤ h := by omega
      have hhi : h < j := by omega
      have ih1 := ih (h + 1) j f (by omega) (by omega) (by omega)
      have ih2 := ih i h f (by omega) (by omega) (by omega)
      have hwH : IntKind.i64.wrap (h : Int) = h := wrap_small (by omega) (by omega)
      have hwH1 : IntKind.i64.wrap ((h : Int) + 1) = (h : Int) + 1 := wrap_small (by omega) (by omega)

      have hxl : m < l.length := by omega
      have hyl : h < l.length := by omega
      have hx := setc_get hxl
      have hy := setc_get hyl
      have hxI : ((m : Nat) : Int) < l.length := by omega
      have hyI : ((h : Nat) : Int) < l.length := by omega
      have hp : p136_2 l m h = ! decide (Row.cmp l[m].1 l[h].1 < 0) := by unfold p136_2; rw [rowAt_eq hxl, rowAt_eq hyl]
      rw [hp]
      have hc := cmpItem_run P E d l[m] l[h] (by have := hr _ (List.getElem_mem hxl); omega) (by have := hr _ (List.getElem_mem hyl); omega)
      clear hh hp
      generalize hxe : l[m] = x at *
      generalize hye : l[h] = y at *
      by_cases h0 : Row.cmp x.1 y.1 < 0
      · rw [decide_eq_true h0]
        simp only [Bool.not_true, if_true, Bool.false_eq_true, if_false]
        rw [← ih2]
        simp -implicitDefEqProofs [exB v136_2.eq_1, fh136_2, setc_len, e, hwU, hwA, hsh, hwH, hwH1, hx, hy, hxe, hye, hxl, hyl, hxI, hyI, itc, hc, h0, List.range_succ]
      · rw [decide_eq_false h0]
        simp only [Bool.not_false, if_true, Bool.false_eq_true, if_false]
        rw [← ih1]
        simp -implicitDefEqProofs [exB v136_2.eq_1, fh136_2, setc_len, e, hwU, hwA, hsh, hwH, hwH1, hx, hy, hxe, hye, hxl, hyl, hxI, hyI, itc, hc, h0, List.range_succ]
    · rw [if_neg hij]
      have e : ¬ ((i : Int) < j) := by omega
      simp -implicitDefEqProofs [exB v136_2.eq_1, fh136_2, fe136_2, e, List.range_succ]

end Go.Vm.B
namespace Go.Vm.B
open Go.Fl
attribute [local irreducible] IntKind.wrap Go.Fl.fl tnD
variable {P : Program} {E : Env}
def bubR : Nat → Nat → Set → Set
  | 0, _, l => l
  | m + 1, k, l => bubR m (k + 1) (swp l k (k + 1))
def bubL : Nat → Nat → Set → Set
  | 0, _, l => l
  | m + 1, k, l => bubL m (k - 1) (swp l k (k - 1))
theorem bubR_len : ∀ (m k : Nat) (l : Set), (bubR m k l).length = l.length
  | 0, _, l => rfl
  | m + 1, k, l => by rw [bubR, bubR_len, swp_len]
theorem bubL_len : ∀ (m k : Nat) (l : Set), (bubL m k l).length = l.length
  | 0, _, l => rfl
  | m + 1, k, l => by rw [bubL, bubL_len, swp_len]
theorem bubR_mem : ∀ (m k : Nat) (l : Set) (p : Row × Int → Prop), (∀ x ∈ l, p x) → ∀ x ∈ bubR m k l, p x
  | 0, _, l, p, h => h
  | m + 1, k, l, p, h => by rw [bubR]; exact bubR_mem m (k + 1) _ p (swp_mem l _ _ p h)
theorem bubL_mem : ∀ (m k : Nat) (l : Set) (p : Row × Int → Prop), (∀ x ∈ l, p x) → ∀ x ∈ bubL m k l, p x
  | 0, _, l, p, h => h
  | m + 1, k, l, p, h => by rw [bubL]; exact bubL_mem m (k - 1) _ p (swp_mem l _ _ p h)
def fz136 (l : Set) : Fr := ⟨[.bot, .bot, .bot, .bot, .bot, .bot, .bot, .bot, .bot, .bot, .bot, .bot, .bot, .bot, .bot, .bot, .bot, .bot, .bot, .bot, .bot, .bot, .bot, .bot, .bot, .bot, .bot, .bot, .bot, .bot, .bot, .bot, .bot, .bot, .bot, .bot, .bot, .bot, .bot, .bot, .bot, .bot, .bot, .bot, .bot, .bot, .bot, .bot, .bot, .bot, .bot, .bot, .bot, .bot, .bot, .bot, .bot, .bot, .bot, .bot, .bot, .bot, .bot, .bot, .bot, .bot, .bot, .bot, .bot, .bot, .bot, .bot, .bot, .bot, .bot, .bot, .bot, .bot, .bot, .bot, .bot, .bot, .bot, .bot, .bot, .bot, .bot, .bot, .bot, .bot, .bot, .bot, .bot, .bot, .bot, .bot, .bot, .bot, .bot, .bot, .bot, .bot, .bot, .bot, .bot, .bot, .bot, .bot, .bot, .bot, .bot, .bot, .bot, .bot, .bot, .bot, .bot, .bot, .bot, .bot, .bot, .bot, .bot, .bot, .bot, .bot, .bot, .bot, .bot, .bot, .bot, .bot, .bot, .bot, .bot, .bot, .bot, .bot, .bot, .bot, .bot, .bot, .bot, .bot, .bot, .bot, .bot, .bot, .bot, .bot, .bot, .bot, .bot, .bot, .bot, .bot, .bot, .bot, .bot, .bot, .bot, .bot, .bot, .bot, .bot, .bot, .bot, .bot, .bot, .bot, .bot, .bot, .bot, .bot, .bot, .bot, .bot, .bot, .bot, .bot, .bot, .bot, .bot, .bot, .bot, .bot, .bot, .bot, .bot, .bot, .bot, .bot, .bot, .bot, .bot, .bot, .bot, .bot, .bot, .bot, .bot, .bot, .bot, .bot, .bot, .bot, .bot, .bot, .bot, .bot, .bot, .bot, .bot, .bot, .bot, .bot, .bot, .bot, .bot, .bot], [some (.row 2 (setc l))]⟩

def fh136_1 (len i k : Nat) (l : Set) : Fr := ⟨[.arr 0 0 len, .bot, .bot, .bot, .bot, .bot, .bot, .bot, .bot, .bot, .d (.int .i64 (i : Nat)), .bot, .bot, .d (.int .i64 (k : Nat)), .bot, .bot, .bot, .bot, .bot, .bot, .bot, .bot, .bot, .bot, .bot, .bot, .bot, .bot, .bot, .bot, .bot, .bot, .bot, .bot, .bot, .bot, .bot, .bot, .bot, .bot, .bot, .bot, .bot, .bot, .bot, .bot, .bot, .bot, .bot, .bot, .bot, .bot, .bot, .bot, .bot, .bot, .bot, .bot, .bot, .bot, .bot, .bot, .bot, .bot, .bot, .bot, .bot, .bot, .bot, .bot, .bot, .bot, .bot, .bot, .bot, .bot, .bot, .bot, .bot, .bot, .bot, .bot, .bot, .bot, .bot, .bot, .bot, .bot, .bot, .bot, .bot, .bot, .bot, .bot, .bot, .bot, .bot, .bot, .bot, .bot, .bot, .bot, .bot, .bot, .bot, .bot, .bot, .bot, .bot, .bot, .bot, .bot, .bot, .bot, .bot, .bot, .bot, .bot, .bot, .bot, .bot, .bot, .bot, .bot, .bot, .bot, .bot, .bot, .bot, .bot, .bot, .bot, .bot, .bot, .bot, .bot, .bot, .bot, .bot, .bot, .bot, .bot, .bot, .bot, .bot, .bot, .bot, .bot, .bot, .bot, .bot, .bot, .bot, .bot, .bot, .bot, .bot, .bot, .bot, .bot, .bot, .bot, .bot, .bot, .bot, .bot, .bot, .bot, .bot, .bot, .bot, .bot, .bot, .bot, .bot, .bot, .bot, .bot, .bot, .bot, .bot, .bot, .bot, .bot, .bot, .bot, .bot, .bot, .bot, .bot, .bot, .bot, .bot, .bot, .bot, .bot, .bot, .bot, .bot, .bot, .bot, .bot, .bot, .bot, .bot, .bot, .bot, .bot, .bot, .bot, .bot, .bot, .bot, .bot, .bot, .bot, .bot, .bot, .bot, .bot], [some (.row 2 (setc l))]⟩
set_option maxHeartbeats 4000000 in
theorem rounds136_1 (d i : Nat) (hi : 0 < i) : ∀ (m k : Nat) (l : Set) (f : Nat), m = (i - 1) - k → i ≤ l.length → l.length ≤ 100000 → k ≤ 100000 → m < f →
    rounds (exec P (run P E T d) (refsOf T) 1 v136_1) (forget 1 9217) (forget 1 0) f (fh136_1 l.length i k l) = some (.exit 2, fz136 (bubR m k l)) := by
  intro m
  have hw1 : i ≤ 200000 → IntKind.i64.wrap ((i : Int) - 1) = (i : Int) - 1 := fun _ => wrapZ (by omega) (by omega)
  induction m with
  | zero =>
    intro k l f hm h1 hl hk hf
    obtain ⟨f, rfl⟩ : ∃ f', f = f' + 1 := ⟨f - 1, by omega⟩
    have e : ¬ ((k : Int) < (i : Int) - 1) := by omega
    have hw1 := hw1 (by omega)
    rw [rounds, bubR]
    simp -implicitDefEqProofs [exB v136_1.eq_1, fh136_1, fz136, hw1, e, List.range_succ]
  | succ m ih =>
    intro k l f hm h1 hl hk hf
    obtain ⟨f, rfl⟩ : ∃ f', f = f' + 1 := ⟨f - 1, by omega⟩
    have e : ((k : Int) < (i : Int) - 1) := by omega
    have hw1 := hw1 (by omega)
    have hia : k < l.length := by omega
    have hib : k + 1 < l.length := by omega
    have ih := ih (k + 1) (swp l k (k + 1)) f (by omega) (by rw [swp_len]; exact h1) (by rw [swp_len]; exact hl) (by omega) (by omega)
    rw [swp_len] at ih
    rw [rounds, bubR, ← ih]
    have hx := setc_get hia
    have hy := setc_get hib
    have hs : swp l k (k + 1) = (l.set k l[k + 1]).set (k + 1) l[k] := by unfold swp; rw [List.getElem?_eq_getElem hia, List.getElem?_eq_getElem hib]
    rw [hs]
    generalize hxe : l[k] = x at *
    generalize hye : l[k + 1] = y at *
    have hset : setc ((l.set k y).set (k + 1) x) = ((setc l).set k (itc y)).set (k + 1) (itc x) := by unfold setc; rw [List.map_set, List.map_set]
    have hw3 : IntKind.i64.wrap ((k : Int) + 1) = (k : Int) + 1 := wrap_small (by omega) (by omega)
    have n1 : ((k : Int) + 1 < 0) = False := by simp; omega
    have t1 : ((k : Int) + 1).toNat = k + 1 := by omega
    have l1 : (k : Int) + 1 < l.length := by omega
    have hne : ¬ (k = k + 1) := by omega
    simp -implicitDefEqProofs [exB v136_1.eq_1, fh136_1, hset, setc_len, hw1, e, hx, hy, hxe, hye, itc, hia, hib, hw3, n1, t1, l1, hne, List.range_succ, anyX, opsT.eq_1, opsT.eq_2, clear, Tr.meets, Tr.foot]
def fh136_3 (len i k : Nat) (l : Set) : Fr := ⟨[.arr 0 0 len, .bot, .bot, .bot, .bot, .bot, .bot, .bot, .bot, .bot, .bot, .bot, .bot, .bot, .d (.int .i64 (i : Nat)), .bot, .bot, .d (.int .i64 (k : Nat)), .bot, .bot, .bot, .bot, .bot, .bot, .bot, .bot, .bot, .bot, .bot, .bot, .bot, .bot, .bot, .bot, .bot, .bot, .bot, .bot, .bot, .bot, .bot, .bot, .bot, .bot, .bot, .bot, .bot, .bot, .bot, .bot, .bot, .bot, .bot, .bot, .bot, .bot, .bot, .bot, .bot, .bot, .bot, .bot, .bot, .bot, .bot, .bot, .bot, .bot, .bot, .bot, .bot, .bot, .bot, .bot, .bot, .bot, .bot, .bot, .bot, .bot, .bot, .bot, .bot, .bot, .bot, .bot, .bot, .bot, .bot, .bot, .bot, .bot, .bot, .bot, .bot, .bot, .bot, .bot, .bot, .bot, .bot, .bot, .bot, .bot, .bot, .bot, .bot, .bot, .bot, .bot, .bot, .bot, .bot, .bot, .bot, .bot, .bot, .bot, .bot, .bot, .bot, .bot, .bot, .bot, .bot, .bot, .bot, .bot, .bot, .bot, .bot, .bot, .bot, .bot, .bot, .bot, .bot, .bot, .bot, .bot, .bot, .bot, .bot, .bot, .bot, .bot, .bot, .bot, .bot, .bot, .bot, .bot, .bot, .bot, .bot, .bot, .bot, .bot, .bot, .bot, .bot, .bot, .bot, .bot, .bot, .bot, .bot, .bot, .bot, .bot, .bot, .bot, .bot, .bot, .bot, .bot, .bot, .bot, .bot, .bot, .bot, .bot, .bot, .bot, .bot, .bot, .bot, .bot, .bot, .bot, .bot, .bot, .bot, .bot, .bot, .bot, .bot, .bot, .bot, .bot, .bot, .bot, .bot, .bot, .bot, .bot, .bot, .bot, .bot, .bot, .bot, .bot, .bot, .bot, .bot, .bot, .bot, .bot, .bot, .bot], [some (.row 2 (setc l))]⟩
set_option maxHeartbeats 4000000 in
theorem rounds136_3 (d i : Nat) : ∀ (m k : Nat) (l : Set) (f : Nat), m = k - i → k < l.length → l.length ≤ 100000 → m < f →
    rounds (exec P (run P E T d) (refsOf T) 1 v136_3) (forget 1 147457) (forget 1 0) f (fh136_3 l.length i k l) = some (.exit 6, fz136 (bubL m k l)) := by
  intro m
  induction m with
  | zero =>
    intro k l f hm h1 hl hf
    obtain ⟨f, rfl⟩ : ∃ f', f = f' + 1 := ⟨f - 1, by omega⟩
    have e : ¬ ((i : Int) < k) := by omega
    rw [rounds, bubL]
    simp -implicitDefEqProofs [exB v136_3.eq_1, fh136_3, fz136, e, List.range_succ]
  | succ m ih =>
    intro k l f hm h1 hl hf
    obtain ⟨f, rfl⟩ : ∃ f', f = f' + 1 := ⟨f - 1, by omega⟩
    obtain ⟨z, rfl⟩ : ∃ z, k = z + 1 := ⟨k - 1, by omega⟩
    have e : ((i : Int) < (z : Int) + 1) := by omega
    have hia : z + 1 < l.length := by omega
    have hib : z < l.length := by omega
    have ih := ih z (swp l (z + 1) z) f (by omega) (by rw [swp_len]; omega) (by rw [swp_len]; exact hl) (by omega)
    rw [swp_len] at ih
    rw [rounds, bubL, Nat.add_sub_cancel, ← ih]
    have hx := setc_get hia
    have hy := setc_get hib
    have hs : swp l (z + 1) z = (l.set (z + 1) l[z]).set z l[z + 1] := by unfold swp; rw [List.getElem?_eq_getElem hia, List.getElem?_eq_getElem hib]
    rw [hs]
    generalize hxe : l[z + 1] = x at *
    generalize hye : l[z] = y at *
    have hset : setc ((l.set (z + 1) y).set z x) = ((setc l).set (z + 1) (itc y)).set z (itc x) := by unfold setc; rw [List.map_set, List.map_set]
    have hw3 : IntKind.i64.wrap (z : Int) = (z : Int) := wrap_small (by omega) (by omega)
    have n1 : ((z : Int) + 1 < 0) = False := by simp; omega
    have t1 : ((z : Int) + 1).toNat = z + 1 := by omega
    have l1 : (z : Int) + 1 < l.length := by omega
    have hne : ¬ (z + 1 = z) := by omega
    simp -implicitDefEqProofs [exB v136_3.eq_1, fh136_3, hset, setc_len, e, hx, hy, hxe, hye, itc, hia, hib, hw3, n1, t1, l1, hne, List.range_succ, anyX, opsT.eq_1, opsT.eq_2, clear, Tr.meets, Tr.foot]
end Go.Vm.B
namespace Go.Vm.B
open Go.Fl
theorem zip_mask (p : Nat → Bool) : ∀ (ts : List V) (n : Nat), (ts.zipIdx n).map (fun (v, i) => if p i then v else V.bot) = List.zipWith (fun v b => bif b then v else .bot) ts ((List.range' n ts.length).map p)
  | [], n => rfl
  | v :: r, n => by
    rw [List.zipIdx_cons, List.map_cons, zip_mask p r (n + 1), List.length_cons, List.range'_succ, List.map_cons, List.zipWith_cons_cons]
    cases h : p n <;> simp [h]
theorem forget_mask (m live : Nat) (bs : List Bool) (hb : (List.range' 0 bs.length).map live.testBit = bs) (ts : List V) (σ : Store) (h : ts.length = bs.length) :
    forget m live ⟨ts, σ⟩ = ⟨(gc m (List.zipWith (fun v b => bif b then v else .bot) ts bs) σ).1, (gc m (List.zipWith (fun v b => bif b then v else .bot) ts bs) σ).2⟩ := by
  unfold forget
  have := zip_mask live.testBit ts 0
  rw [h, hb] at this
  simp only [this]
theorem mask4a (ts : List V) (σ : Store) (h : ts.length = 220) : forget 1 8126495 ⟨ts, σ⟩ = ⟨(gc 1 (List.zipWith (fun v b => bif b then v else .bot) ts [true, true, true, true, true, false, false, false, false, false, false, false, false, false, false, false, false, false, true, true, true, true, true, false, false, false, false, false, false, false, false, false, false, false, false, false, false, false, false, false, false, false, false, false, false, false, false, false, false, false, false, false, false, false, false, false, false, false, false, false, false, false, false, false, false, false, false, false, false, false, false, false, false, false, false, false, false, false, false, false, false, false, false, false, false, false, false, false, false, false, false, false, false, false, false, false, false, false, false, false, false, false, false, false, false, false, false, false, false, false, false, false, false, false, false, false, false, false, false, false, false, false, false, false, false, false, false, false, false, false, false, false, false, false, false, false, false, false, false, false, false, false, false, false, false, false, false, false, false, false, false, false, false, false, false, false, false, false, false, false, false, false, false, false, false, false, false, false, false, false, false, false, false, false, false, false, false, false, false, false, false, false, false, false, false, false, false, false, false, false, false, false, false, false, false, false, false, false, false, false, false, false, false, false, false, false, false, false, false, false, false, false, false, false, false, false, false, false, false, false]) σ).1, (gc 1 (List.zipWith (fun v b => bif b then v else .bot) ts [true, true, true, true, true, false, false, false, false, false, false, false, false, false, false, false, false, false, true, true, true, true, true, false, false, false, false, false, false, false, false, false, false, false, false, false, false, false, false, false, false, false, false, false, false, false, false, false, false, false, false, false, false, false, false, false, false, false, false, false, false, false, false, false, false, false, false, false, false, false, false, false, false, false, false, false, false, false, false, false, false, false, false, false, false, false, false, false, false, false, false, false, false, false, false, false, false, false, false, false, false, false, false, false, false, false, false, false, false, false, false, false, false, false, false, false, false, false, false, false, false, false, false, false, false, false, false, false, false, false, false, false, false, false, false, false, false, false, false, false, false, false, false, false, false, false, false, false, false, false, false, false, false, false, false, false, false, false, false, false, false, false, false, false, false, false, false, false, false, false, false, false, false, false, false, false, false, false, false, false, false, false, false, false, false, false, false, false, false, false, false, false, false, false, false, false, false, false, false, false, false, false, false, false, false, false, false, false, false, false, false, false, false, false, false, false, false, false, false, false]) σ).2⟩ := forget_mask 1 8126495 _ (by decide +kernel) ts σ h
theorem mask4b (ts : List V) (σ : Store) (h : ts.length = 220) : forget 1 1835039 ⟨ts, σ⟩ = ⟨(gc 1 (List.zipWith (fun v b => bif b then v else .bot) ts [true, true, true, true, true, false, false, false, false, false, false, false, false, false, false, false, false, false, true, true, true, false, false, false, false, false, false, false, false, false, false, false, false, false, false, false, false, false, false, false, false, false, false, false, false, false, false, false, false, false, false, false, false, false, false, false, false, false, false, false, false, false, false, false, false, false, false, false, false, false, false, false, false, false, false, false, false, false, false, false, false, false, false, false, false, false, false, false, false, false, false, false, false, false, false, false, false, false, false, false, false, false, false, false, false, false, false, false, false, false, false, false, false, false, false, false, false, false, false, false, false, false, false, false, false, false, false, false, false, false, false, false, false, false, false, false, false, false, false, false, false, false, false, false, false, false, false, false, false, false, false, false, false, false, false, false, false, false, false, false, false, false, false, false, false, false, false, false, false, false, false, false, false, false, false, false, false, false, false, false, false, false, false, false, false, false, false, false, false, false, false, false, false, false, false, false, false, false, false, false, false, false, false, false, false, false, false, false, false, false, false, false, false, false, false, false, false, false, false, false]) σ).1, (gc 1 (List.zipWith (fun v b => bif b then v else .bot) ts [true, true, true, true, true, false, false, false, false, false, false, false, false, false, false, false, false, false, true, true, true, false, false, false, false, false, false, false, false, false, false, false, false, false, false, false, false, false, false, false, false, false, false, false, false, false, false, false, false, false, false, false, false, false, false, false, false, false, false, false, false, false, false, false, false, false, false, false, false, false, false, false, false, false, false, false, false, false, false, false, false, false, false, false, false, false, false, false, false, false, false, false, false, false, false, false, false, false, false, false, false, false, false, false, false, false, false, false, false, false, false, false, false, false, false, false, false, false, false, false, false, false, false, false, false, false, false, false, false, false, false, false, false, false, false, false, false, false, false, false, false, false, false, false, false, false, false, false, false, false, false, false, false, false, false, false, false, false, false, false, false, false, false, false, false, false, false, false, false, false, false, false, false, false, false, false, false, false, false, false, false, false, false, false, false, false, false, false, false, false, false, false, false, false, false, false, false, false, false, false, false, false, false, false, false, false, false, false, false, false, false, false, false, false, false, false, false, false, false, false]) σ).2⟩ := forget_mask 1 1835039 _ (by decide +kernel) ts σ h
attribute [local irreducible] IntKind.wrap Go.Fl.fl tnD
variable {P : Program} {E : Env}
def fh136_4 (len a m b q n p i j : Nat) (l : Set) : Fr := ⟨[.arr 0 0 len, .d (.int .i64 (a : Nat)), .d (.int .i64 (m : Nat)), .d (.int .i64 (b : Nat)), .clo 101 [] [], .bot, .bot, .bot, .bot, .bot, .bot, .bot, .bot, .bot, .bot, .bot, .bot, .bot, .d (.int .i64 (q : Nat)), .d (.int .i64 (n : Nat)), .d (.int .i64 (i : Nat)), .d (.int .i64 (j : Nat)), .d (.int .i64 (p : Nat)), .bot, .bot, .bot, .bot, .bot, .bot, .bot, .bot, .bot, .bot, .bot, .bot, .bot, .bot, .bot, .bot, .bot, .bot, .bot, .bot, .bot, .bot, .bot, .bot, .bot, .bot, .bot, .bot, .bot, .bot, .bot, .bot, .bot, .bot, .bot, .bot, .bot, .bot, .bot, .bot, .bot, .bot, .bot, .bot, .bot, .bot, .bot, .bot, .bot, .bot, .bot, .bot, .bot, .bot, .bot, .bot, .bot, .bot, .bot, .bot, .bot, .bot, .bot, .bot, .bot, .bot, .bot, .bot, .bot, .bot, .bot, .bot, .bot, .bot, .bot, .bot, .bot, .bot, .bot, .bot, .bot, .bot, .bot, .bot, .bot, .bot, .bot, .bot, .bot, .bot, .bot, .bot, .bot, .bot, .bot, .bot, .bot, .bot, .bot, .bot, .bot, .bot, .bot, .bot, .bot, .bot, .bot, .bot, .bot, .bot, .bot, .bot, .bot, .bot, .bot, .bot, .bot, .bot, .bot, .bot, .bot, .bot, .bot, .bot, .bot, .bot, .bot, .bot, .bot, .bot, .bot, .bot, .bot, .bot, .bot, .bot, .bot, .bot, .bot, .bot, .bot, .bot, .bot, .bot, .bot, .bot, .bot, .bot, .bot, .bot, .bot, .bot, .bot, .bot, .bot, .bot, .bot, .bot, .bot, .bot, .bot, .bot, .bot, .bot, .bot, .bot, .bot, .bot, .bot, .bot, .bot, .bot, .bot, .bot, .bot, .bot, .bot, .bot, .bot, .bot, .bot, .bot, .bot, .bot, .bot, .bot, .bot, .bot, .bot, .bot, .bot, .bot, .bot, .bot, .bot, .bot, .bot], [some (.row 2 (setc l))]⟩
def fe136_4 (len a m b q n p i : Nat) (l : Set) : Fr := ⟨[.arr 0 0 len, .d (.int .i64 (a : Nat)), .d (.int .i64 (m : Nat)), .d (.int .i64 (b : Nat)), .clo 101 [] [], .bot, .bot, .bot, .bot, .bot, .bot, .bot, .bot, .bot, .bot, .bot, .bot, .bot, .d (.int .i64 (q : Nat)), .d (.int .i64 (n : Nat)), .d (.int .i64 (i : Nat)), .bot, .bot, .bot, .bot, .bot, .bot, .bot, .bot, .bot, .bot, .bot, .bot, .bot, .bot, .bot, .bot, .bot, .bot, .bot, .bot, .bot, .bot, .bot, .bot, .bot, .bot, .bot, .bot, .bot, .bot, .bot, .bot, .bot, .bot, .bot, .bot, .bot, .bot, .bot, .bot, .bot, .bot, .bot, .bot, .bot, .bot, .bot, .bot, .bot, .bot, .bot, .bot, .bot, .bot, .bot, .bot, .bot, .bot, .bot, .bot, .bot, .bot, .bot, .bot, .bot, .bot, .bot, .bot, .bot, .bot, .bot, .bot, .bot, .bot, .bot, .bot, .bot, .bot, .bot, .bot, .bot, .bot, .bot, .bot, .bot, .bot, .bot, .bot, .bot, .bot, .bot, .bot, .bot, .bot, .bot, .bot, .bot, .bot, .bot, .bot, .bot, .bot, .bot, .bot, .bot, .bot, .bot, .bot, .bot, .bot, .bot, .bot, .bot, .bot, .bot, .bot, .bot, .bot, .bot, .bot, .bot, .bot, .bot, .bot, .bot, .bot, .bot, .bot, .bot, .bot, .bot, .bot, .bot, .bot, .bot, .bot, .bot, .bot, .bot, .bot, .bot, .bot, .bot, .bot, .bot, .bot, .bot, .bot, .bot, .bot, .bot, .bot, .bot, .bot, .bot, .bot, .bot, .bot, .bot, .bot, .bot, .bot, .bot, .bot, .bot, .bot, .bot, .bot, .bot, .bot, .bot, .bot, .bot, .bot, .bot, .bot, .bot, .bot, .bot, .bot, .bot, .bot, .bot, .bot, .bot, .bot, .bot, .bot, .bot, .bot, .bot, .bot, .bot, .bot, .bot, .bot, .bot, .bot, .bot], [some (.row 2 (setc l))]⟩
def p136_4 (l : Set) (a m b q n p h : Nat) : Bool := !decide (Row.cmp (rowAt l (p - h)) (rowAt l h) < 0)
set_option maxHeartbeats 4000000 in
theorem rounds136_4 (d : Nat) (a m b q n p : Nat) (l : Set) (hl : l.length ≤ 100000) (hr : ∀ x ∈ l, x.1.length ≤ 6) (hp0 : p < 200000) : ∀ (k i j f : Nat), j - i ≤ k → k < f → j ≤ l.length ∧ j ≤ p + 1 ∧ p < i + l.length →
    rounds (exec P (run P E T (d + 6)) (refsOf T) 1 v136_4) (forget 1 8126495) (forget 1 1835039) f (fh136_4 l.length a m b q n p i j l) = some (.exit 8, fe136_4 l.length a m b q n p (bsG (p136_4 l a m b q n p) k i j) l) := by
  intro k
  induction k with
  | zero =>
    intro i j f hk hf hj
    obtain ⟨f, rfl⟩ : ∃ f', f = f' + 1 := ⟨f - 1, by omega⟩
    have e : ¬ ((i : Int) < j) := by omega
    rw [rounds, bsG]
    simp -implicitDefEqProofs [exB v136_4.eq_1, fh136_4, fe136_4, e, List.range_succ, -forget, mask4a, mask4b]
  | succ k ih =>
    intro i j f hk hf hj
    obtain ⟨f, rfl⟩ : ∃ f', f = f' + 1 := ⟨f - 1, by omega⟩
    rw [rounds, bsG]
    by_cases hij : i < j
    · rw [if_pos hij]
      have e : ((i : Int) < j) := by omega
      have hwU : IntKind.u64.wrap ((i : Int) + j) = (i : Int) + j := wrapU (by omega) (by omega)
      have hwA : IntKind.i64.wrap ((i : Int) + j) = (i : Int) + j := wrap_small (by omega) (by omega)
      have hsh := shr1' P 113 i j
      obtain ⟨h, hh⟩ : ∃ h, h = (i + j) / 2 := ⟨_, rfl⟩
      rw [← hh] at hsh ⊢
      have hlo : i ≤ h := by omega
      have hhi : h < j := by omega
      have ih1 := ih (h + 1) j f (by omega) (by omega) (by omega)
      have ih2 := ih i h f (by omega) (by omega) (by omega)
      have hwH : IntKind.i64.wrap (h : Int) = h := wrap_small (by omega) (by omega)
      have hwH1 : IntKind.i64.wrap ((h : Int) + 1) = (h : Int) + 1 := wrap_small (by omega) (by omega)
      have hwP : IntKind.i64.wrap ((p : Int) - h) = ((p - h : Nat) : Int) := by rw [wrap_small (by omega) (by omega)]; omega
      have hxl : (p - h) < l.length := by omega
      have hyl : h < l.length := by omega
      have hx := setc_get hxl
      have hy := setc_get hyl
      have hxI : (((p - h) : Nat) : Int) < l.length := by omega
      have hyI : ((h : Nat) : Int) < l.length := by omega
      have hp : p136_4 l a m b q n p h = ! decide (Row.cmp l[(p - h)].1 l[h].1 < 0) := by unfold p136_4; rw [rowAt_eq hxl, rowAt_eq hyl]
      rw [hp]
      have hc := cmpItem_run P E d l[(p - h)] l[h] (by have := hr _ (List.getElem_mem hxl); omega) (by have := hr _ (List.getElem_mem hyl); omega)
      clear hh hp
      generalize (p - h) = z at *
      generalize hxe : l[z] = x at *
      generalize hye : l[h] = y at *
      by_cases h0 : Row.cmp x.1 y.1 < 0
      · rw [decide_eq_true h0]
        simp only [Bool.not_true, if_true, Bool.false_eq_true, if_false]
        rw [← ih2]
        simp -implicitDefEqProofs [exB v136_4.eq_1, fh136_4, setc_len, e, hwU, hwA, hsh, hwH, hwH1, hx, hy, hxe, hye, hxl, hyl, hxI, hyI, itc, hc, h0, hwP, List.range_succ, -forget, mask4a, mask4b]
      · rw [decide_eq_false h0]
        simp only [Bool.not_false, if_true, Bool.false_eq_true, if_false]
        rw [← ih1]
        simp -implicitDefEqProofs [exB v136_4.eq_1, fh136_4, setc_len, e, hwU, hwA, hsh, hwH, hwH1, hx, hy, hxe, hye, hxl, hyl, hxI, hyI, itc, hc, h0, hwP, List.range_succ, -forget, mask4a, mask4b]
    · rw [if_neg hij]
      have e : ¬ ((i : Int) < j) := by omega
      simp -implicitDefEqProofs [exB v136_4.eq_1, fh136_4, fe136_4, e, List.range_succ, -forget, mask4a, mask4b]

end Go.Vm.B
namespace Go.Vm.B
open Go.Fl
attribute [local irreducible] IntKind.wrap Go.Fl.fl tnD
variable {P : Program} {E : Env}
theorem bsG_bound (p : Nat → Bool) : ∀ (k i j : Nat), i ≤ j → i ≤ bsG p k i j ∧ bsG p k i j ≤ j
  | 0, i, j, h => ⟨Nat.le_refl _, h⟩
  | k + 1, i, j, h => by
    rw [bsG]
    split
    · split
      · have := bsG_bound p k ((i + j) / 2 + 1) j (by omega); omega
      · have := bsG_bound p k i ((i + j) / 2) (by omega); omega
    · omega
/-- slices.symMerge: the place where the halves part. -/
def symSt (a m b : Nat) (l : Set) : Nat :=
  if (a + b) / 2 < m then bsG (p136_4 l a m b ((a + b) / 2) ((a + b) / 2 + m) ((a + b) / 2 + m - 1)) ((a + b) / 2 - ((a + b) / 2 + m - b)) ((a + b) / 2 + m - b) ((a + b) / 2)
  else bsG (p136_4 l a m b ((a + b) / 2) ((a + b) / 2 + m) ((a + b) / 2 + m - 1)) (m - a) a m
def symS : Nat → Nat → Nat → Nat → Set → Set
  | 0, _, _, _, l => l
  | k + 1, a, m, b, l =>
    if m = a + 1 then bubR (bsG (p136_0 l a) (b - m) m b - 1 - a) a l
    else if b = m + 1 then bubL (m - bsG (p136_2 l m) (m - a) a m) m l
    else
      let st := symSt a m b l
      let en := (a + b) / 2 + m - st
      let l1 := if st < m ∧ m < en then rotS st m en l else l
      let l2 := if a < st ∧ st < (a + b) / 2 then symS k a st ((a + b) / 2) l1 else l1
      if (a + b) / 2 < en ∧ en < b then symS k ((a + b) / 2) en b l2 else l2
theorem symS_len : ∀ (k a m b : Nat) (l : Set), (symS k a m b l).length = l.length
  | 0, _, _, _, l => rfl
  | k + 1, a, m, b, l => by
    rw [symS]
    split
    · exact bubR_len _ _ _
    · split
      · exact bubL_len _ _ _
      · dsimp only
        split <;> split <;> split <;> simp only [symS_len, rotS_len]
theorem symS_mem : ∀ (k a m b : Nat) (l : Set) (p : Row × Int → Prop), (∀ x ∈ l, p x) → ∀ x ∈ symS k a m b l, p x
  | 0, _, _, _, l, p, h => h
  | k + 1, a, m, b, l, p, h => by
    rw [symS]
    split
    · exact bubR_mem _ _ _ p h
    · split
      · exact bubL_mem _ _ _ p h
      · dsimp only
        have h1 : ∀ x ∈ (if symSt a m b l < m ∧ m < (a + b) / 2 + m - symSt a m b l then rotS (symSt a m b l) m ((a + b) / 2 + m - symSt a m b l) l else l), p x := by
          split
          · exact rotS_mem _ _ _ _ p h
          · exact h
        generalize (if symSt a m b l < m ∧ m < (a + b) / 2 + m - symSt a m b l then rotS (symSt a m b l) m ((a + b) / 2 + m - symSt a m b l) l else l) = l1 at *
        have h2 : ∀ x ∈ (if a < symSt a m b l ∧ symSt a m b l < (a + b) / 2 then symS k a (symSt a m b l) ((a + b) / 2) l1 else l1), p x := by
          split
          · exact symS_mem _ _ _ _ _ p h1
          · exact h1
        split
        · exact symS_mem _ _ _ _ _ p h2
        · exact h2
set_option maxHeartbeats 4000000 in
theorem sym1_run (d : Nat) (a m b : Nat) (l : Set) (h1 : m = a + 1) (h2 : m < b) (hb : b ≤ l.length) (hl : l.length ≤ 100000) (hr : ∀ x ∈ l, x.1.length ≤ 6) :
    run P E T (d + 7) 136 [.arr 0 0 l.length, .d (.int .i64 a), .d (.int .i64 m), .d (.int .i64 b), .clo 101 [] []] [some (.row 2 (setc l))] = some (.tup [], [some (.row 2 (setc (bubR (bsG (p136_0 l a) (b - m) m b - 1 - a) a l)))]) := by
  rw [run_succ _ _ _ _ _ _ _ _ T_136]
  have hA := rounds136_0 (P := P) (E := E) d a l hl hr (by omega) (b - m) m b LOOPS (Nat.le_refl _) (by unfold LOOPS; omega) hb
  have hbb := bsG_bound (p136_0 l a) (b - m) m b (by omega)
  generalize bsG (p136_0 l a) (b - m) m b = i at *
  have hB := rounds136_1 (P := P) (E := E) (d + 6) i (by omega) (i - 1 - a) a l LOOPS rfl (by omega) hl (by omega) (by unfold LOOPS; omega)
  have w1 : IntKind.i64.wrap ((m : Int) - a) = 1 := by rw [wrap_small (by omega) (by omega)]; omega
  simp only [fh136_0, fe136_0] at hA
  simp only [fh136_1, fz136] at hB
  simp -implicitDefEqProofs [v136, hA, hB, w1, List.range_succ]
set_option maxHeartbeats 4000000 in
theorem sym2_run (d : Nat) (a m b : Nat) (l : Set) (h0 : a < m) (h1 : ¬ m = a + 1) (h2 : b = m + 1) (hb : b ≤ l.length) (hl : l.length ≤ 100000) (hr : ∀ x ∈ l, x.1.length ≤ 6) :
    run P E T (d + 7) 136 [.arr 0 0 l.length, .d (.int .i64 a), .d (.int .i64 m), .d (.int .i64 b), .clo 101 [] []] [some (.row 2 (setc l))] = some (.tup [], [some (.row 2 (setc (bubL (m - bsG (p136_2 l m) (m - a) a m) m l)))]) := by
  rw [run_succ _ _ _ _ _ _ _ _ T_136]
  have hA := rounds136_2 (P := P) (E := E) d m l hl hr (by omega) (m - a) a m LOOPS (Nat.le_refl _) (by unfold LOOPS; omega) (by omega)
  have hbb := bsG_bound (p136_2 l m) (m - a) a m (by omega)
  generalize bsG (p136_2 l m) (m - a) a m = i at *
  have hB := rounds136_3 (P := P) (E := E) (d + 6) i (m - i) m l LOOPS rfl (by omega) hl (by unfold LOOPS; omega)
  have w1 : IntKind.i64.wrap ((m : Int) - a) = (m : Int) - a := wrap_small (by omega) (by omega)
  have w2 : IntKind.i64.wrap ((b : Int) - m) = 1 := by rw [wrap_small (by omega) (by omega)]; omega
  have n1 : ¬ ((m : Int) - a = 1) := by omega
  simp only [fh136_2, fe136_2] at hA
  simp only [fh136_3, fz136] at hB
  simp -implicitDefEqProofs [v136, hA, hB, w1, w2, n1, List.range_succ]
end Go.Vm.B
