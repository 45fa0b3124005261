/- A part of the proofs of the statements BatchTells and BatchNumbers: C46, C47, L5, C52, C48, C49, C50, C51, L6. Conditions: none of its own. -/
import Derived.Test.YtoaafpebcdfniaaGreatT17
import Derived.Test.YtoaafpebcdfniaaGreatT14
set_option linter.unusedSimpArgs false
set_option linter.unusedVariables false
set_option linter.unnecessarySimpa false
set_option linter.all false
set_option maxRecDepth 100000
namespace Go.Vm.B
open Go.Fl
attribute [local irreducible] IntKind.wrap Go.Fl.fl tnD
variable {P : Program} {E : Env}
theorem asum_perm {a b : Set} (h : a.Perm b) : asum a = asum b := by
  induction h with
  | nil => rfl
  | cons x _ ih => simp only [asum, ih]
  | swap x y l => simp only [asum]; omega
  | trans _ _ i1 i2 => exact i1.trans i2
theorem insNil_run (P : Program) (E : Env) (d : Nat) : run P E T (d + 1) 135 [.nils, .d (.int .i64 0), .d (.int .i64 0), .clo 101 [] []] [] = some (.tup [], []) := by
  rw [run_succ _ _ _ _ _ _ _ _ T_135]
  simp -implicitDefEqProofs [v135, v135_0, v135_1, rounds_L, wrap1]
theorem stableNil_run (P : Program) (E : Env) (d : Nat) : run P E T (d + 2) 123 [.nils, .d (.int .i64 0), .clo 101 [] []] [] = some (.tup [], []) := by
  rw [run_succ _ _ _ _ _ _ _ _ T_123]
  have h := insNil_run P E d
  simp -implicitDefEqProofs [v123, exB v123_0.eq_1, exB v123_2.eq_1, rounds_L, h, callX, callIds, frzArgs, passArgs, S_135]
theorem sortNil_run (P : Program) (E : Env) (d : Nat) : run P E T (d + 3) 100 [.nils, .clo 101 [] []] [] = some (.tup [], []) := by
  rw [run_succ _ _ _ _ _ _ _ _ T_100]
  have h := stableNil_run P E d
  simp -implicitDefEqProofs [v100, h, callX, callIds, frzArgs, passArgs, S_123]
set_option maxHeartbeats 4000000 in
theorem makeNil_run (P : Program) (E : Env) (d : Nat) : run P E T (d + 4) 67 [.nils] [] = some (.tup [.d (.lst []), .d (.int .i64 0)], []) := by
  rw [run_succ _ _ _ _ _ _ _ _ T_67]
  have h1 := sortNil_run P E d
  have h2 := cloneNil_run P E (d + 2)
  simp -implicitDefEqProofs [v67, exB v67_0.eq_1, exB v67_2.eq_1, rounds_L, h1, h2, callX, callIds, frzArgs, passArgs, S_100, S_99]
set_option maxHeartbeats 8000000 in
theorem make_run (g : Good P E) (d : Nat) (l : Set) (h : IT l) (hne : l ≠ []) (hl : l.length ≤ 100000) (hs : asum l ≤ 1125899906842624) :
    run P E T (d + 103) 67 [.arr 0 0 l.length] [some (.row 2 (setc l))] = some (.tup [.d (.lst (setc (mkP l))), .d (.int .i64 0)], [some (.row 2 (setc l))]) := by
  rw [run_succ _ _ _ _ _ _ _ _ T_67]
  have h1 : rounds (exec P (run P E T (d + 102)) (refsOf T) 1 v67_0) (forget 1 14337) (forget 1 13) LOOPS (fr67a l.length 0 l) = some (.exit 0, fe67a l.length l) := rounds67a g (d + 97) l h _ 0 LOOPS rfl (by omega) (by unfold LOOPS; omega)
  have h2 : run P E T (d + 102) 99 [.arr 0 0 l.length] [some (.row 2 (setc l))] = some (.arr 1 0 l.length, [some (.row 2 (setc l)), some (.row 2 (setc l))]) := cloneItems_run P E (d + 101) l hne (by omega)
  have hr6 : ∀ x ∈ l, x.1.length ≤ 6 := fun x hx => (right_len (h.right x hx)).2
  have h3 := sortStable_run (mg_sym P E) d l hl hr6
  obtain ⟨q1, q2⟩ := stS_law sym_ms l hl (RR.of h.right)
  have hgl := rgt_perm q2 h.right
  have hll := q2.length_eq
  have hal := asum_perm q2
  unfold mkP
  generalize stS (symS 17) l = b at *
  have h4 : rounds (exec P (run P E T (d + 102)) (refsOf T) 1 v67_2) (forget 1 193) (forget 1 76) LOOPS (fr67c b.length 0 l b []) = some (.exit 2, fe67c l ([] ++ setc (grpS l.length (b.drop 0)))) := rounds67c g (d + 96) l b hgl (by omega) (by omega) l.length 0 LOOPS [] (by omega) (by omega) (by unfold LOOPS; omega) (by simp; omega)
  rw [List.nil_append, List.drop_zero] at h4
  generalize setc (grpS l.length b) = ys at *
  simp only [fr67a, fe67a, fr67c, fe67c, acV, acS, if_true, if_pos] at h1 h4
  rw [hll] at h4
  rw [show ((0 : Nat) : Int) = 0 from rfl] at h1 h4
  by_cases hy : ys = []
  · simp only [hy, ac1V, ac1S, if_true, if_pos] at h4
    simp -implicitDefEqProofs [v67, h1, h2, h3, h4, hy, setc_len, List.range_succ, callX, callIds, frzArgs, passArgs, S_100, S_99, List.idxOf?_cons, -forget, mask67a, mask67b, mask67c, mask67d, mask67e, mask67f]
  · simp only [hy, ac1V, ac1S, if_false] at h4
    simp -implicitDefEqProofs [v67, h1, h2, h3, h4, hy, setc_len, List.range_succ, callX, callIds, frzArgs, passArgs, S_100, S_99, List.idxOf?_cons, -forget, mask67a, mask67b, mask67c, mask67d, mask67e, mask67f]
end Go.Vm.B
namespace Go.Vm.B
open Go.Fl
attribute [local irreducible] IntKind.wrap Go.Fl.fl tnD
variable {P : Program} {E : Env}
theorem setc_append (a b : Set) : setc (a ++ b) = setc a ++ setc b := by simp [setc]
theorem len2 (a : Set) : ∀ x ∈ setc a, x.length = 2 := by
  intro x hx
  obtain ⟨y, _, rfl⟩ := List.mem_map.1 hx
  rfl
set_option maxHeartbeats 4000000 in
theorem zAdd_run (g : Good P E) (d : Nat) (a b : Set) (h : IT (a ++ b)) (hl : (a ++ b).length ≤ 100000) (hs : asum (a ++ b) ≤ 1125899906842624) :
    run P E T (d + 104) 37 [.d (.lst (setc a)), .d (.lst (setc b))] [] = some (.tup [.d (.lst (setc (mkS (a ++ b)))), .d (.int .i64 0)], []) := by
  rw [run_succ _ _ _ _ _ _ _ _ T_37, ← mkP_eq (a ++ b) h.right hl]
  by_cases hne : a ++ b = []
  · obtain ⟨ha, hb⟩ := List.append_eq_nil_iff.mp hne
    subst ha; subst hb
    have h1 : run P E T (d + 103) 68 [.d (.lst [[.lst []], [.lst []]])] [] = some (.nils, []) := concat0_run P E (d + 101)
    have h2 : run P E T (d + 103) 67 [.nils] [] = some (.tup [.d (.lst []), .d (.int .i64 0)], []) := makeNil_run P E (d + 99)
    have e : setc (mkP ([] ++ [])) = [] := rfl
    rw [e]
    simp -implicitDefEqProofs [v37, show setc ([] : Set) = [] from rfl, h1, h2, callX, callIds, frzArgs, passArgs, S_68, S_67, List.range_succ, List.idxOf?_cons]
  · have hlen : (setc a ++ setc b).length = (a ++ b).length := by rw [← setc_append, setc_len]
    have hpos : 0 < (a ++ b).length := List.length_pos_iff.mpr hne
    have h1 : run P E T (d + 103) 68 [.d (.lst [[.lst (setc a)], [.lst (setc b)]])] [] = some (.arr 0 0 (setc a ++ setc b).length, [some (.row 2 (setc a ++ setc b))]) := concat_run P E (d + 101) (setc a) (setc b) (len2 a) (len2 b) (by rw [← List.length_append, hlen]; omega) (by rw [← List.length_append, hlen]; omega)
    have h2 := make_run g d (a ++ b) h hne hl hs
    rw [hlen, ← setc_append] at h1
    generalize a ++ b = l at *
    simp -implicitDefEqProofs [v37, h1, h2, callX, callIds, frzArgs, passArgs, S_68, S_67, List.range_succ, List.idxOf?_cons]
end Go.Vm.B
namespace Go.Vm.B
/-! One change of two tables. -/
structure Chg where
  t : ByteArray
  r : Row
  m : Bool
def chc (c : Chg) : List D := [.str c.t, .lst c.r.c, .bool c.m]
def stpZ (z : Tab) (c : Chg) : Int × Tab :=
  if fits z.cols c.r = false then (22, z)
  else if c.m = true then (if look z.rows c.r = 0 then (25, z) else (0, { z with rows := mkS (z.rows ++ [(c.r, -1)]) }))
  else if 64 ≤ tot z.rows then (13, z) else (0, { z with rows := mkS (z.rows ++ [(c.r, 1)]) })
def stp (x y : Tab) (c : Chg) : Int × Tab × Tab :=
  if x.n = c.t then ((stpZ x c).1, (stpZ x c).2, y)
  else if y.n = c.t then ((stpZ y c).1, x, (stpZ y c).2)
  else (20, x, y)
theorem fits_all : ∀ {cs : List Col} {r : Row}, fits cs r = true → r.all Val.right = true ∧ cs.length = r.length
  | [], [], _ => ⟨rfl, rfl⟩
  | c :: cs, v :: r, h => by
    simp only [fits, Bool.and_eq_true] at h
    obtain ⟨a, b⟩ := fits_all h.2
    exact ⟨by rw [List.all_cons, h.1.1, a]; rfl, by simp [b]⟩
  | [], _ :: _, h => by cases h
  | _ :: _, [], h => by cases h
theorem fits_right {cs : List Col} {r : Row} (h : fits cs r = true) (h1 : cs ≠ []) (h2 : cs.length ≤ 6) : r.right = true := by
  obtain ⟨a, b⟩ := fits_all h
  have : 0 < cs.length := List.length_pos_iff.mpr h1
  unfold Row.right
  rw [a, decide_eq_true (by omega), decide_eq_true (by omega)]; rfl
theorem look_mem (s : Set) (r : Row) : look s r = 0 ∨ ∃ x ∈ s, look s r = x.2 := by
  induction s with
  | nil => exact Or.inl rfl
  | cons x t ih =>
    rw [look]
    split
    · exact Or.inr ⟨x, by simp, rfl⟩
    · rcases ih with h | ⟨y, hy, h⟩
      · exact Or.inl h
      · exact Or.inr ⟨y, by simp [hy], h⟩
theorem look_bound {s : Set} (h : GS s) (r : Row) : -1125899906842624 ≤ look s r ∧ look s r ≤ 1125899906842624 := by
  rcases look_mem s r with e | ⟨x, hx, e⟩
  · omega
  · have := h.lo x hx; have := h.hi x hx; omega
theorem plain_asum : ∀ {s : Set}, plainS s → asum s = tot s
  | [], _ => rfl
  | x :: s, h => by
    have h1 := h x (by simp)
    have h2 := plain_asum (s := s) fun y hy => h y (by simp [hy])
    rw [asum, tot, h2]; omega
theorem plain_len : ∀ {s : Set}, plainS s → NZ s → (s.length : Int) ≤ tot s
  | [], _, _ => by simp [tot]
  | x :: s, h, hz => by
    have h1 := h x (by simp)
    have h3 := hz x (by simp)
    have h2 := plain_len (s := s) (fun y hy => h y (by simp [hy])) fun y hy => hz y (by simp [hy])
    rw [tot, List.length_cons]; omega
theorem add_ok {z : Tab} (h : TB z) (ht : tot z.rows ≤ 1000) {r : Row} (hr : r.right = true) (n : Int) (hn : n.natAbs ≤ 1000) :
    IT (z.rows ++ [(r, n)]) ∧ (z.rows ++ [(r, n)]).length ≤ 2000 ∧ asum (z.rows ++ [(r, n)]) ≤ 2000 := by
  have hl := plain_len h.plain h.gs.nz
  have ha := plain_asum h.plain
  have hlen : (z.rows ++ [(r, n)]).length = z.rows.length + 1 := by simp
  have has : asum (z.rows ++ [(r, n)]) = asum z.rows + n.natAbs := by rw [asum_append]; simp [asum]
  refine ⟨⟨fun x hx => ?_, fun x hx => ?_, fun x hx => ?_, by omega⟩, by omega, by omega⟩
  · rcases List.mem_append.mp hx with hx | hx
    · exact h.gs.right x hx
    · rw [List.mem_singleton] at hx; subst hx; exact hr
  · rcases List.mem_append.mp hx with hx | hx
    · exact h.gs.lo x hx
    · rw [List.mem_singleton] at hx; subst hx; simp only; omega
  · rcases List.mem_append.mp hx with hx | hx
    · exact h.gs.hi x hx
    · rw [List.mem_singleton] at hx; subst hx; simp only; omega
theorem stpZ_tb {z : Tab} (h : TB z) (ht : tot z.rows ≤ 1000) (c : Chg) : TB (stpZ z c).2 ∧ (stpZ z c).2.n = z.n ∧ (stpZ z c).2.cols = z.cols ∧ tot (stpZ z c).2.rows ≤ tot z.rows + 1 := by
  have keep : TB z ∧ z.n = z.n ∧ z.cols = z.cols ∧ tot z.rows ≤ tot z.rows + 1 := ⟨h, rfl, rfl, by omega⟩
  have add : ∀ n : Int, fits z.cols c.r = true → n.natAbs ≤ 1 → (∀ r, rightV r → 0 ≤ sumR (z.rows ++ [(c.r, n)]) r) → TB { z with rows := mkS (z.rows ++ [(c.r, n)]) } ∧ tot (mkS (z.rows ++ [(c.r, n)])) = tot z.rows + n := by
    intro n hf hn hp
    have hr := fits_right hf h.cols.1 h.cols.2
    obtain ⟨h1, h2, h3⟩ := add_ok h ht hr n (by omega)
    obtain ⟨j1, j2, j3, j4, j5, j6⟩ := mkS_law _ h1.right
    have e : tot (mkS (z.rows ++ [(c.r, n)])) = tot z.rows + n := by rw [j5, tot_append]; simp [tot]
    refine ⟨⟨h.cols, mkS_gs _ h1.right (by omega) (by omega), plain_mk h1.right hp, fun w hw => ?_, by simp only; omega⟩, e⟩
    obtain ⟨v, hv, e⟩ := j6 w hw
    rw [e]
    rcases List.mem_append.mp hv with hv | hv
    · exact h.fit v hv
    · rw [List.mem_singleton] at hv; subst hv; exact hf
  unfold stpZ
  split
  · exact keep
  · rename_i hf
    have hf : fits z.cols c.r = true := by simpa using hf
    have hr := fits_right hf h.cols.1 h.cols.2
    split
    · split
      · exact keep
      · rename_i hl
        obtain ⟨a, b⟩ := add (-1) hf (by decide) fun r hrv => by
          rw [sumR_append]
          have h1 := sum_nonneg h.plain r
          have hs : sumR [(c.r, -1)] r = (if Row.cmp c.r r = 0 then -1 else 0) := by simp [sumR]
          rw [hs]
          split
          · rename_i e
            have e' := (Row.cmp_zero (Row.right_v hr) hrv).mp e
            rw [← e', ← look_sum (Row.right_v hr) h.gs.right (gs_sd h.gs)] at h1 ⊢
            omega
          · omega
        exact ⟨a, rfl, rfl, by simp only; omega⟩
    · split
      · exact keep
      · obtain ⟨a, b⟩ := add 1 hf (by decide) fun r hrv => by
          rw [sumR_append]
          have h1 := sum_nonneg h.plain r
          have hs : sumR [(c.r, 1)] r = (if Row.cmp c.r r = 0 then 1 else 0) := by simp [sumR]
          rw [hs]
          split <;> omega
        exact ⟨a, rfl, rfl, by simp only; omega⟩
end Go.Vm.B
namespace Go.Vm.B
open Go.Fl
attribute [local irreducible] IntKind.wrap Go.Fl.fl tnD
variable {P : Program} {E : Env}
theorem of_p1 (g : Good P E) (d : Nat) : run P E T (d + 1) 60 [.d (.int .i64 1), .d (.int .i64 0)] [] = some (tn 1, []) := (of_run' g d 1 0 (by omega) (by omega)).trans (by unfold tn tnD; rfl)
theorem of_m1 (g : Good P E) (d : Nat) : run P E T (d + 1) 60 [.d (.int .i64 0), .d (.int .i64 1)] [] = some (tn (-1), []) := (of_run' g d 0 1 (by omega) (by omega)).trans (by unfold tn tnD; rfl)
set_option maxHeartbeats 16000000 in
theorem one_run (g : Good P E) (d : Nat) (x y : Tab) (tx : TB x) (ty : TB y) (hx : tot x.rows ≤ 1000) (hy : tot y.rows ≤ 1000) (c : Chg) (hr : c.r.length ≤ 1000) :
    run P E T (d + 105) 33 [.arr 0 0 2, .agg [.d (.str c.t), .d (.lst c.r.c), .d (.bool c.m)]] [some (.row 3 [tabc x, tabc y])] = some (.d (.int .i64 (stp x y c).1), [some (.row 3 [tabc (stp x y c).2.1, tabc (stp x y c).2.2])]) := by
  rw [run_succ _ _ _ _ _ _ _ _ T_33]
  have h36 : run P E T (d + 104) 36 [.d (.lst [tabc x, tabc y]), .d (.str c.t)] [] = some (.d (.int .i64 (tfind x y c.t)), []) := find_run P E (d + 101) x y c.t
  have h60 := of_p1 g (d + 103)
  have h60' := of_m1 g (d + 103)
  simp only [tabc] at h36
  simp only [tn] at h60 h60'
  unfold tfind at h36
  unfold stp
  by_cases e0 : x.n = c.t
  · rw [if_pos e0] at h36 ⊢

    have hh := hx
    have hz0 : ¬ ((0 : Int) < 0) := by omega
    have h57 : run P E T (d + 104) 57 [.d (.lst (colsc x.cols)), .d (.lst c.r.c)] [] = some (.d (.bool (fits x.cols c.r)), []) := fits_run P E (d + 102) x.cols c.r (by omega)
    cases hf : fits x.cols c.r with
    | false =>
      rw [hf] at h57
      have e : stpZ x c = (22, x) := by unfold stpZ; rw [if_pos hf]
      rw [e]
      simp -implicitDefEqProofs [v33, tabc, h36, h57, h60, hz0, S_36, S_57, S_60, callX, callIds, frzArgs, passArgs, List.range_succ, List.idxOf?_cons, anyX, opsT.eq_1, opsT.eq_2, clear, Tr.meets, Tr.foot]
    | true =>
      rw [hf] at h57
      have hrr := fits_right hf tx.cols.1 tx.cols.2
      obtain ⟨k1, k2, k3⟩ := add_ok tx hx hrr 1 (by decide)
      obtain ⟨m1, m2, m3⟩ := add_ok tx hx hrr (-1) (by decide)
      have h37 : run P E T (d + 104) 37 [.d (.lst (setc x.rows)), .d (.lst [[.lst c.r.c, tnD 1]])] [] = some (.tup [.d (.lst (setc (mkS (x.rows ++ [(c.r, 1)])))), .d (.int .i64 0)], []) := zAdd_run g d x.rows [(c.r, 1)] k1 (by omega) (by omega)
      have h37' : run P E T (d + 104) 37 [.d (.lst (setc x.rows)), .d (.lst [[.lst c.r.c, tnD (-1)]])] [] = some (.tup [.d (.lst (setc (mkS (x.rows ++ [(c.r, -1)])))), .d (.int .i64 0)], []) := zAdd_run g d x.rows [(c.r, -1)] m1 (by omega) (by omega)
      have hlb := look_bound tx.gs c.r
      have h61 : run P E T (d + 104) 61 [.d (.lst (setc x.rows)), .d (.lst c.r.c)] [] = some (tn (look x.rows c.r), []) := zOf_run g (d + 96) x.rows tx.gs c.r hrr
      have h62 : run P E T (d + 104) 62 [.d (.lst (setc x.rows))] [] = some (.d (.bool (decide (64 ≤ tot x.rows))), []) := full_run g (d + 98) x.rows tx.gs tx.plain (by omega)
      have heq := tn_eql0 (P := P) 53 (look x.rows c.r) hlb.1 hlb.2
      simp only [tn] at h61 heq
      unfold stpZ
      rw [if_neg (by rw [hf]; decide)]
      obtain ⟨ct, cr, cm⟩ := c
      simp only at *
      cases cm with
      | true =>
        rw [if_pos rfl]
        by_cases h0 : look x.rows cr = 0
        · rw [if_pos h0]
          rw [decide_eq_true h0] at heq
          simp -implicitDefEqProofs [v33, tabc, h36, h57, h60, h61, heq, hz0, S_36, S_57, S_60, S_61, callX, callIds, frzArgs, passArgs, List.range_succ, List.idxOf?_cons, anyX, opsT.eq_1, opsT.eq_2, clear, Tr.meets, Tr.foot]
        · rw [if_neg h0]
          rw [decide_eq_false h0] at heq
          simp -implicitDefEqProofs [v33, tabc, h36, h57, h60, h60', h61, heq, h37', hz0, S_36, S_57, S_60, S_61, S_37, callX, callIds, frzArgs, passArgs, List.range_succ, List.idxOf?_cons, anyX, opsT.eq_1, opsT.eq_2, clear, Tr.meets, Tr.foot]
      | false =>
        rw [if_neg (by decide)]
        by_cases h0 : 64 ≤ tot x.rows
        · rw [if_pos h0]
          rw [decide_eq_true h0] at h62
          simp -implicitDefEqProofs [v33, tabc, h36, h57, h60, h62, hz0, S_36, S_57, S_60, S_62, callX, callIds, frzArgs, passArgs, List.range_succ, List.idxOf?_cons, anyX, opsT.eq_1, opsT.eq_2, clear, Tr.meets, Tr.foot]
        · rw [if_neg h0]
          rw [decide_eq_false h0] at h62
          simp -implicitDefEqProofs [v33, tabc, h36, h57, h60, h62, h37, hz0, S_36, S_57, S_60, S_62, S_37, callX, callIds, frzArgs, passArgs, List.range_succ, List.idxOf?_cons, anyX, opsT.eq_1, opsT.eq_2, clear, Tr.meets, Tr.foot]

  · rw [if_neg e0] at h36 ⊢
    by_cases e1 : y.n = c.t
    · rw [if_pos e1] at h36 ⊢

      have hh := hy
      have hz0 : ¬ ((1 : Int) < 0) := by omega
      have h57 : run P E T (d + 104) 57 [.d (.lst (colsc y.cols)), .d (.lst c.r.c)] [] = some (.d (.bool (fits y.cols c.r)), []) := fits_run P E (d + 102) y.cols c.r (by omega)
      cases hf : fits y.cols c.r with
      | false =>
        rw [hf] at h57
        have e : stpZ y c = (22, y) := by unfold stpZ; rw [if_pos hf]
        rw [e]
        simp -implicitDefEqProofs [v33, tabc, h36, h57, h60, hz0, S_36, S_57, S_60, callX, callIds, frzArgs, passArgs, List.range_succ, List.idxOf?_cons, anyX, opsT.eq_1, opsT.eq_2, clear, Tr.meets, Tr.foot]
      | true =>
        rw [hf] at h57
        have hrr := fits_right hf ty.cols.1 ty.cols.2
        obtain ⟨k1, k2, k3⟩ := add_ok ty hy hrr 1 (by decide)
        obtain ⟨m1, m2, m3⟩ := add_ok ty hy hrr (-1) (by decide)
        have h37 : run P E T (d + 104) 37 [.d (.lst (setc y.rows)), .d (.lst [[.lst c.r.c, tnD 1]])] [] = some (.tup [.d (.lst (setc (mkS (y.rows ++ [(c.r, 1)])))), .d (.int .i64 0)], []) := zAdd_run g d y.rows [(c.r, 1)] k1 (by omega) (by omega)
        have h37' : run P E T (d + 104) 37 [.d (.lst (setc y.rows)), .d (.lst [[.lst c.r.c, tnD (-1)]])] [] = some (.tup [.d (.lst (setc (mkS (y.rows ++ [(c.r, -1)])))), .d (.int .i64 0)], []) := zAdd_run g d y.rows [(c.r, -1)] m1 (by omega) (by omega)
        have hlb := look_bound ty.gs c.r
        have h61 : run P E T (d + 104) 61 [.d (.lst (setc y.rows)), .d (.lst c.r.c)] [] = some (tn (look y.rows c.r), []) := zOf_run g (d + 96) y.rows ty.gs c.r hrr
        have h62 : run P E T (d + 104) 62 [.d (.lst (setc y.rows))] [] = some (.d (.bool (decide (64 ≤ tot y.rows))), []) := full_run g (d + 98) y.rows ty.gs ty.plain (by omega)
        have heq := tn_eql0 (P := P) 53 (look y.rows c.r) hlb.1 hlb.2
        simp only [tn] at h61 heq
        unfold stpZ
        rw [if_neg (by rw [hf]; decide)]
        obtain ⟨ct, cr, cm⟩ := c
        simp only at *
        cases cm with
        | true =>
          rw [if_pos rfl]
          by_cases h0 : look y.rows cr = 0
          · rw [if_pos h0]
            rw [decide_eq_true h0] at heq
            simp -implicitDefEqProofs [v33, tabc, h36, h57, h60, h61, heq, hz0, S_36, S_57, S_60, S_61, callX, callIds, frzArgs, passArgs, List.range_succ, List.idxOf?_cons, anyX, opsT.eq_1, opsT.eq_2, clear, Tr.meets, Tr.foot]
          · rw [if_neg h0]
            rw [decide_eq_false h0] at heq
            simp -implicitDefEqProofs [v33, tabc, h36, h57, h60, h60', h61, heq, h37', hz0, S_36, S_57, S_60, S_61, S_37, callX, callIds, frzArgs, passArgs, List.range_succ, List.idxOf?_cons, anyX, opsT.eq_1, opsT.eq_2, clear, Tr.meets, Tr.foot]
        | false =>
          rw [if_neg (by decide)]
          by_cases h0 : 64 ≤ tot y.rows
          · rw [if_pos h0]
            rw [decide_eq_true h0] at h62
            simp -implicitDefEqProofs [v33, tabc, h36, h57, h60, h62, hz0, S_36, S_57, S_60, S_62, callX, callIds, frzArgs, passArgs, List.range_succ, List.idxOf?_cons, anyX, opsT.eq_1, opsT.eq_2, clear, Tr.meets, Tr.foot]
          · rw [if_neg h0]
            rw [decide_eq_false h0] at h62
            simp -implicitDefEqProofs [v33, tabc, h36, h57, h60, h62, h37, hz0, S_36, S_57, S_60, S_62, S_37, callX, callIds, frzArgs, passArgs, List.range_succ, List.idxOf?_cons, anyX, opsT.eq_1, opsT.eq_2, clear, Tr.meets, Tr.foot]

    · rw [if_neg e1] at h36 ⊢
      simp -implicitDefEqProofs [v33, tabc, h36, S_36, callX, callIds, frzArgs, passArgs, List.range_succ, List.idxOf?_cons, anyX, opsT.eq_1, opsT.eq_2, clear, Tr.meets, Tr.foot]
end Go.Vm.B
namespace Go.Vm.B
open Go.Fl
/-! Names: u and t -/
def nmB (b : Bool) : ByteArray := bif b then ⟨#[117]⟩ else ⟨#[116]⟩
theorem nm_list (b : Bool) : (nmB b).toList = [bif b then 117 else 116] := by
  rw [bytes_toList]; cases b <;> rfl
@[simp] theorem nm_eq (a b : Bool) : (nmB a = nmB b) = (a = b) := by
  have h : nmB true ≠ nmB false := by
    intro e
    have := congrArg ByteArray.toList e
    rw [nm_list, nm_list] at this
    simp at this
  apply propext
  constructor
  · intro e
    cases a <;> cases b <;> first | rfl | exact absurd e h | exact absurd e.symm h
  · rintro rfl; rfl
theorem nm_less (a b : Bool) : Op.bytesLess (nmB a).toList (nmB b).toList = (!a && b) := by
  rw [nm_list, nm_list]; cases a <;> cases b <;> decide
@[simp] theorem binD_str_geq (P : Program) (ty : TypeId) (a b : ByteArray) : binD P .geq ty (.d (.str a)) (.d (.str b)) = some (.d (.bool (!Op.bytesLess a.toList b.toList))) := by
  simp [binD, binOp, Op.stringOp, pureRun, ofVal, pure]
attribute [local irreducible] IntKind.wrap Go.Fl.fl tnD
attribute [irreducible] nmB
variable {P : Program} {E : Env}
theorem sLess_run (P : Program) (E : Env) (d : Nat) (a b : Bool) : run P E T (d + 2) 92 [.d (.str (nmB a)), .d (.str (nmB b))] [] = some (.d (.bool (!a && b)), []) := by
  have h : ∀ x : ByteArray, run P E T (d + 1) 119 [.d (.str x)] [] = some (.d (.bool false), []) := fun x => by
    rw [run_succ _ _ _ _ _ _ _ _ T_119]
    simp -implicitDefEqProofs [v119]
  rw [run_succ _ _ _ _ _ _ _ _ T_92]
  simp -implicitDefEqProofs [v92, h, nm_less]
def nmc (l : List Bool) : List (List D) := l.map fun b => [.str (nmB b)]
theorem nmc_len (l : List Bool) : (nmc l).length = l.length := by simp [nmc]
theorem nmc_get {l : List Bool} {i : Nat} (h : i < l.length) : (nmc l)[i]? = some [.str (nmB l[i])] := by simp [nmc, h]
@[simp] theorem nmc_getElem (l : List Bool) (i : Nat) (h : i < (nmc l).length) : (nmc l)[i] = [.str (nmB (l[i]'(by rwa [nmc_len] at h)))] := by simp [nmc]
def sinkB : List Bool → Nat → List Bool
  | l, 0 => l
  | l, j + 1 => match l[j + 1]?, l[j]? with
    | some x, some y => if (!x && y) = true then sinkB ((l.set (j + 1) y).set j x) j else l
    | _, _ => l
theorem sinkB_len : ∀ (j : Nat) (l : List Bool), (sinkB l j).length = l.length
  | 0, l => rfl
  | j + 1, l => by
    rw [sinkB]
    split
    · split
      · rw [sinkB_len j]; simp
      · rfl
    · rfl
def insB : Nat → Nat → List Bool → List Bool
  | 0, _, l => l
  | m + 1, i, l => insB m (i + 1) (sinkB l i)
theorem insB_len : ∀ (m i : Nat) (l : List Bool), (insB m i l).length = l.length
  | 0, _, l => rfl
  | m + 1, i, l => by rw [insB, insB_len, sinkB_len]
def fr86 (n b i j : Nat) (l : List Bool) : Fr := ⟨[.arr 0 0 n, .d (.int .i64 0), .d (.int .i64 (b : Nat)), .bot, .bot, .bot, .d (.int .i64 (i : Nat)), .d (.int .i64 (j : Nat)), .bot, .bot, .bot, .bot, .bot, .bot, .bot, .bot, .bot, .bot, .bot, .bot, .bot, .bot, .bot, .bot, .bot, .bot, .bot, .bot, .bot, .bot, .bot, .bot, .bot, .bot, .bot, .bot, .bot, .bot, .bot, .bot, .bot, .bot, .bot, .bot, .bot, .bot, .bot, .bot, .bot], [some (.row 1 (nmc l))]⟩
def fe86 (n b i : Nat) (l : List Bool) : Fr := ⟨[.arr 0 0 n, .d (.int .i64 0), .d (.int .i64 (b : Nat)), .bot, .bot, .bot, .d (.int .i64 (i : Nat)), .bot, .bot, .bot, .bot, .bot, .bot, .bot, .bot, .bot, .bot, .bot, .bot, .bot, .bot, .bot, .bot, .bot, .bot, .bot, .bot, .bot, .bot, .bot, .bot, .bot, .bot, .bot, .bot, .bot, .bot, .bot, .bot, .bot, .bot, .bot, .bot, .bot, .bot, .bot, .bot, .bot, .bot], [some (.row 1 (nmc l))]⟩
def fz86 (l : List Bool) : Fr := ⟨[.bot, .bot, .bot, .bot, .bot, .bot, .bot, .bot, .bot, .bot, .bot, .bot, .bot, .bot, .bot, .bot, .bot, .bot, .bot, .bot, .bot, .bot, .bot, .bot, .bot, .bot, .bot, .bot, .bot, .bot, .bot, .bot, .bot, .bot, .bot, .bot, .bot, .bot, .bot, .bot, .bot, .bot, .bot, .bot, .bot, .bot, .bot, .bot, .bot], [some (.row 1 (nmc l))]⟩
set_option maxHeartbeats 8000000 in
theorem rounds86 (d : Nat) (b i : Nat) (hi : i ≤ 4294967296) : ∀ (j : Nat) (l : List Bool) (f : Nat), j < l.length → l.length ≤ 4294967296 → j < f →
    rounds (exec P (run P E T (d + 2)) (refsOf T) 1 v86_0) (forget 1 199) (forget 1 71) f (fr86 l.length b i j l) = some (.exit 2, fe86 l.length b i (sinkB l j)) := by
  intro j
  induction j with
  | zero =>
    intro l f hj hl hf
    obtain ⟨f, rfl⟩ : ∃ f', f = f' + 1 := ⟨f - 1, by omega⟩
    rw [rounds]
    simp -implicitDefEqProofs [exB v86_0.eq_1, fr86, fe86, sinkB, List.range_succ, List.idxOf?_cons]
  | succ j ih =>
    intro l f hj hl hf
    obtain ⟨f, rfl⟩ : ∃ f', f = f' + 1 := ⟨f - 1, by omega⟩
    have hj0 : j < l.length := by omega
    have hx := nmc_get hj
    have hy := nmc_get hj0
    have hw2 : IntKind.i64.wrap (j : Int) = j := wrap_small (by omega) (by omega)
    have hnn : ((j : Int) + 1 < 0) = False := by simp; omega
    have htn : ((j : Int) + 1).toNat = j + 1 := by omega
    have hjI : (j : Int) + 1 < l.length := by omega
    have hjI0 : (j : Int) < l.length := by omega
    have haI : (0 : Int) < (j : Int) + 1 := by omega
    rw [sinkB, List.getElem?_eq_getElem hj, List.getElem?_eq_getElem hj0, rounds]
    dsimp only
    have hc := sLess_run P E d l[j + 1] l[j]
    generalize hxe : l[j + 1] = x at *
    generalize hye : l[j] = y at *
    by_cases h0 : (!x && y) = true
    · rw [if_pos h0]
      rw [h0] at hc
      have ih := ih ((l.set (j + 1) y).set j x) f (by simpa using hj0) (by simpa using hl) (by omega)
      have hlen : ((l.set (j + 1) y).set j x).length = l.length := by simp
      rw [hlen] at ih
      rw [← ih]
      have hset : nmc ((l.set (j + 1) y).set j x) = ((nmc l).set (j + 1) [.str (nmB y)]).set j [.str (nmB x)] := by unfold nmc; rw [List.map_set, List.map_set]
      have hne : ¬ (j + 1 = j) := by omega
      simp -implicitDefEqProofs [exB v86_0.eq_1, fr86, fe86, hset, nmc_len, hx, hy, hxe, hye, hc, hw2, hnn, htn, hjI, hjI0, hj, hj0, haI, hne, List.range_succ, List.idxOf?_cons, anyX, opsT.eq_1, opsT.eq_2, clear, Tr.meets, Tr.foot]
    · rw [if_neg h0]
      rw [Bool.eq_false_iff.mpr h0] at hc
      simp -implicitDefEqProofs [exB v86_0.eq_1, fr86, fe86, nmc_len, hx, hy, hxe, hye, hc, hw2, hnn, htn, hjI, hjI0, hj, hj0, haI, List.range_succ, List.idxOf?_cons]
set_option maxHeartbeats 8000000 in
theorem rounds86o (d : Nat) (b : Nat) : ∀ (m i : Nat) (l : List Bool) (f : Nat), m = b - i → b ≤ l.length → l.length ≤ 4294967296 → m < f → i ≤ 4294967296 →
    rounds (exec P (run P E T (d + 2)) (refsOf T) 1 v86_1) (forget 1 71) (forget 1 0) f (fe86 l.length b i l) = some (.exit 0, fz86 (insB m i l)) := by
  intro m
  induction m with
  | zero =>
    intro i l f hm hb hl hf hi
    obtain ⟨f, rfl⟩ : ∃ f', f = f' + 1 := ⟨f - 1, by omega⟩
    have e : ¬ ((i : Int) < b) := by omega
    rw [rounds]
    simp -implicitDefEqProofs [exB v86_1.eq_1, fe86, fz86, insB, e, List.range_succ, List.idxOf?_cons]
  | succ m ih =>
    intro i l f hm hb hl hf hi
    obtain ⟨f, rfl⟩ : ∃ f', f = f' + 1 := ⟨f - 1, by omega⟩
    have e : ((i : Int) < b) := by omega
    have hin := rounds86 (P := P) (E := E) d b i hi i l LOOPS (by omega) hl (by unfold LOOPS; omega)
    have ih := ih (i + 1) (sinkB l i) f (by omega) (by rw [sinkB_len]; exact hb) (by rw [sinkB_len]; exact hl) (by omega) (by omega)
    rw [sinkB_len] at ih
    have hw : IntKind.i64.wrap ((i : Int) + 1) = (i : Int) + 1 := wrap_small (by omega) (by omega)
    simp only [fr86] at hin
    rw [insB, rounds, ← ih]
    simp -implicitDefEqProofs [exB v86_1.eq_1, fe86, hin, e, hw, List.range_succ, List.idxOf?_cons]
theorem insB_run (d : Nat) (l : List Bool) (hl : l.length ≤ 4294967296) :
    run P E T (d + 3) 86 [.arr 0 0 l.length, .d (.int .i64 0), .d (.int .i64 l.length)] [some (.row 1 (nmc l))] = some (.tup [], [some (.row 1 (nmc (insB (l.length - 1) 1 l)))]) := by
  rw [run_succ _ _ _ _ _ _ _ _ T_86]
  have h := rounds86o (P := P) (E := E) d l.length (l.length - 1) 1 l LOOPS rfl (Nat.le_refl _) hl (by unfold LOOPS; omega) (by omega)
  simp only [fe86, fz86] at h
  rw [show ((1 : Nat) : Int) = 1 from rfl] at h
  simp -implicitDefEqProofs [v86, wrap1, h, List.range_succ, List.idxOf?_cons]
theorem pdq_run (d : Nat) (l : List Bool) (k : Int) (hl : l.length ≤ 12) :
    run P E T (d + 4) 63 [.arr 0 0 l.length, .d (.int .i64 0), .d (.int .i64 l.length), .d (.int .i64 k)] [some (.row 1 (nmc l))] = some (.tup [], [some (.row 1 (nmc (insB (l.length - 1) 1 l)))]) := by
  rw [run_succ _ _ _ _ _ _ _ _ T_63]
  have h := insB_run (P := P) (E := E) d l (by omega)
  have hw : IntKind.i64.wrap (l.length : Int) = l.length := wrap_small (by omega) (by omega)
  have hle : (l.length : Int) ≤ 12 := by omega
  simp -implicitDefEqProofs [v63, exB v63_0.eq_1, rounds_L, hw, hle, h, List.range_succ, List.idxOf?_cons, callX, callIds, frzArgs, passArgs, S_86]
end Go.Vm.B
namespace Go.Vm.B
open Go.Fl
attribute [local irreducible] Go.Fl.fl tnD
variable {P : Program} {E : Env}
theorem len64_run (P : Program) (E : Env) (d : Nat) (n : Nat) (h : n < 10) : ∃ k : Int, run P E T (d + 1) 96 [.d (.int .u64 (n : Int))] [] = some (.d (.int .i64 k), []) := by
  rw [run_succ _ _ _ _ _ _ _ _ T_96]
  have e1 : ¬ ((4294967296 : Int) ≤ n) := by omega
  have e2 : ¬ ((65536 : Int) ≤ n) := by omega
  have e3 : ¬ ((256 : Int) ≤ n) := by omega
  have hw : IntKind.u8.wrap (n : Int) = n := by simp [IntKind.wrap, IntKind.bits, IntKind.signed]; omega
  match n, h with
  | 0, _ => exact ⟨_, by simp -implicitDefEqProofs [v96, IntKind.wrap, IntKind.bits, IntKind.signed]; rfl⟩
  | 1, _ => exact ⟨_, by simp -implicitDefEqProofs [v96, IntKind.wrap, IntKind.bits, IntKind.signed]; rfl⟩
  | 2, _ => exact ⟨_, by simp -implicitDefEqProofs [v96, IntKind.wrap, IntKind.bits, IntKind.signed]; rfl⟩
  | 3, _ => exact ⟨_, by simp -implicitDefEqProofs [v96, IntKind.wrap, IntKind.bits, IntKind.signed]; rfl⟩
  | 4, _ => exact ⟨_, by simp -implicitDefEqProofs [v96, IntKind.wrap, IntKind.bits, IntKind.signed]; rfl⟩
  | 5, _ => exact ⟨_, by simp -implicitDefEqProofs [v96, IntKind.wrap, IntKind.bits, IntKind.signed]; rfl⟩
  | 6, _ => exact ⟨_, by simp -implicitDefEqProofs [v96, IntKind.wrap, IntKind.bits, IntKind.signed]; rfl⟩
  | 7, _ => exact ⟨_, by simp -implicitDefEqProofs [v96, IntKind.wrap, IntKind.bits, IntKind.signed]; rfl⟩
  | 8, _ => exact ⟨_, by simp -implicitDefEqProofs [v96, IntKind.wrap, IntKind.bits, IntKind.signed]; rfl⟩
  | 9, _ => exact ⟨_, by simp -implicitDefEqProofs [v96, IntKind.wrap, IntKind.bits, IntKind.signed]; rfl⟩
attribute [local irreducible] IntKind.wrap
theorem len_run (P : Program) (E : Env) (d : Nat) (n : Nat) (h : n < 10) : ∃ k : Int, run P E T (d + 2) 64 [.d (.int .u64 (n : Int))] [] = some (.d (.int .i64 k), []) := by
  obtain ⟨k, hk⟩ := len64_run P E d n h
  refine ⟨k, ?_⟩
  rw [run_succ _ _ _ _ _ _ _ _ T_64]
  simp -implicitDefEqProofs [v64, hk]
theorem sortN_run (P : Program) (E : Env) (d : Nat) (l : List Bool) (hl : l.length < 10) :
    run P E T (d + 5) 34 [.arr 0 0 l.length] [some (.row 1 (nmc l))] = some (.tup [], [some (.row 1 (nmc (insB (l.length - 1) 1 l)))]) := by
  rw [run_succ _ _ _ _ _ _ _ _ T_34]
  obtain ⟨k, hk⟩ := len_run P E (d + 2) l.length hl
  have h := pdq_run (P := P) (E := E) d l k (by omega)
  have hw : IntKind.u64.wrap (l.length : Int) = l.length := wrapU (by omega) (by omega)
  simp -implicitDefEqProofs [v34, hw, hk, h, List.range_succ, List.idxOf?_cons, callX, callIds, frzArgs, passArgs, S_63, S_64]
/-! Compact -/
def cOut : Nat → Nat → List Bool → Option Nat
  | 0, _, _ => none
  | m + 1, k, l => match l[k]?, l[k - 1]? with
    | some x, some y => if x = y then some k else cOut m (k + 1) l
    | _, _ => none
def cIn (k0 : Nat) : Nat → Nat → Nat → List Bool → Nat × List Bool
  | 0, _, k, l => (k, l)
  | m + 1, k2, k, l => match l[k0 + k2]?, l[k0 + (k2 - 1)]? with
    | some x, some y => if x = y then cIn k0 m (k2 + 1) k l else cIn k0 m (k2 + 1) (k + 1) (l.set k x)
    | _, _ => (k, l)
def compB (l : List Bool) : List Bool :=
  if l.length < 2 then l else match cOut (l.length - 1) 1 l with
    | none => l
    | some k0 => (cIn k0 (l.length - k0 - 1) 1 k0 l).2.take (cIn k0 (l.length - k0 - 1) 1 k0 l).1
theorem cIn_spec (k0 : Nat) : ∀ (m k2 k : Nat) (l : List Bool), k ≤ k0 + k2 → (cIn k0 m k2 k l).2.length = l.length ∧ (cIn k0 m k2 k l).1 ≤ k0 + k2 + m ∧ k ≤ (cIn k0 m k2 k l).1
  | 0, k2, k, l, h => ⟨rfl, by rw [cIn]; simp; omega, Nat.le_refl _⟩
  | m + 1, k2, k, l, h => by
    rw [cIn]
    split
    · split
      · have := cIn_spec k0 m (k2 + 1) k l (by omega); omega
      · rename_i x y _ _ _
        have := cIn_spec k0 m (k2 + 1) (k + 1) (l.set k x) (by omega)
        rw [List.length_set] at this
        omega
    · exact ⟨rfl, by simp; omega, Nat.le_refl _⟩
def fr35i (n k0 k k2 : Nat) (l : List Bool) : Fr := ⟨[.arr 0 0 n, .bot, .bot, .d (.int .i64 (k : Nat)), .arr 0 k0 (n - k0), .d (.int .i64 (k2 : Nat)), .bot, .bot, .bot, .bot, .bot, .bot, .bot, .bot, .bot, .bot, .bot, .bot, .bot, .bot, .bot, .bot, .bot, .bot, .bot, .bot, .bot, .bot, .bot, .bot, .bot, .bot, .bot, .bot, .bot, .bot, .bot, .bot, .bot, .bot, .bot, .bot, .bot, .bot, .bot, .bot, .bot, .bot, .bot, .bot, .bot, .bot, .bot, .bot, .bot, .bot, .bot, .bot, .bot, .bot, .bot], [some (.row 1 (nmc l))]⟩
def fe35i (n k : Nat) (l : List Bool) : Fr := ⟨[.arr 0 0 n, .bot, .bot, .d (.int .i64 (k : Nat)), .bot, .bot, .bot, .bot, .bot, .bot, .bot, .bot, .bot, .bot, .bot, .bot, .bot, .bot, .bot, .bot, .bot, .bot, .bot, .bot, .bot, .bot, .bot, .bot, .bot, .bot, .bot, .bot, .bot, .bot, .bot, .bot, .bot, .bot, .bot, .bot, .bot, .bot, .bot, .bot, .bot, .bot, .bot, .bot, .bot, .bot, .bot, .bot, .bot, .bot, .bot, .bot, .bot, .bot, .bot, .bot, .bot], [some (.row 1 (nmc l))]⟩
set_option maxHeartbeats 8000000 in
theorem rounds35i (d : Nat) (k0 : Nat) (hk0 : 0 < k0) : ∀ (m k2 k : Nat) (l : List Bool) (f : Nat), m = l.length - k0 - k2 → 0 < k2 → k0 + k2 ≤ l.length → k < k0 + k2 → l.length ≤ 100000 → m < f →
    rounds (exec P (run P E T d) (refsOf T) 1 v35_0) (forget 1 57) (forget 1 13) f (fr35i l.length k0 k k2 l) = some (.exit 2, fe35i l.length (cIn k0 m k2 k l).1 (cIn k0 m k2 k l).2) := by
  intro m
  induction m with
  | zero =>
    intro k2 k l f hm h2 h3 h4 hl hf
    obtain ⟨f, rfl⟩ : ∃ f', f = f' + 1 := ⟨f - 1, by omega⟩
    have e : ¬ ((k2 : Int) < (l.length - k0 : Nat)) := by omega
    have e' : ¬ (k2 < l.length - k0) := by omega
    rw [rounds, cIn]
    simp -implicitDefEqProofs [exB v35_0.eq_1, fr35i, fe35i, e, e', List.range_succ, List.idxOf?_cons]
  | succ m ih =>
    intro k2 k l f hm h2 h3 h4 hl hf
    obtain ⟨f, rfl⟩ : ∃ f', f = f' + 1 := ⟨f - 1, by omega⟩
    have e : ((k2 : Int) < (l.length - k0 : Nat)) := by omega
    have e' : (k2 < l.length - k0) := by omega
    have hxl : k0 + k2 < l.length := by omega
    have hyl : k0 + (k2 - 1) < l.length := by omega
    have hkl : k < l.length := by omega
    have hkI : (k : Int) < l.length := by omega
    have hx := nmc_get hxl
    have hy := nmc_get hyl
    have hw1 : IntKind.i64.wrap ((k2 : Int) + 1) = (k2 : Int) + 1 := wrap_small (by omega) (by omega)
    have hw2 : IntKind.i64.wrap ((k2 : Int) - 1) = ((k2 - 1 : Nat) : Int) := by rw [wrap_small (by omega) (by omega)]; omega
    have hw3 : IntKind.i64.wrap ((k : Int) + 1) = (k : Int) + 1 := wrap_small (by omega) (by omega)
    have e2 : (((k2 - 1 : Nat) : Int) < (l.length - k0 : Nat)) := by omega
    have e2' : (k2 - 1 < l.length - k0) := by omega
    rw [cIn, List.getElem?_eq_getElem hxl, List.getElem?_eq_getElem hyl, rounds]
    dsimp only
    generalize hxe : l[k0 + k2] = x at *
    generalize hye : l[k0 + (k2 - 1)] = y at *
    by_cases h0 : x = y
    · rw [if_pos h0]
      have ih := ih (k2 + 1) k l f (by omega) (by omega) (by omega) (by omega) hl (by omega)
      rw [← ih]
      generalize hz : k2 - 1 = z at *
      simp -implicitDefEqProofs [exB v35_0.eq_1, fr35i, fe35i, nmc_len, hx, hy, hxe, hye, hw1, hw2, hw3, hxl, hyl, e, e', e2, e2', h0, List.range_succ, List.idxOf?_cons]
    · rw [if_neg h0]
      have ih := ih (k2 + 1) (k + 1) (l.set k x) f (by rw [List.length_set]; omega) (by omega) (by rw [List.length_set]; omega) (by omega) (by rw [List.length_set]; exact hl) (by omega)
      rw [List.length_set] at ih
      rw [← ih]
      have hset : nmc (l.set k x) = (nmc l).set k [.str (nmB x)] := by unfold nmc; rw [List.map_set]
      have hkg := nmc_get hkl
      generalize hz : k2 - 1 = z at *
      simp -implicitDefEqProofs [exB v35_0.eq_1, fr35i, fe35i, hset, nmc_len, hx, hy, hkg, hxe, hye, hw1, hw2, hw3, hxl, hyl, hkl, hkI, e, e', e2, e2', h0, List.range_succ, List.idxOf?_cons]
end Go.Vm.B
namespace Go.Vm.B
open Go.Fl
attribute [local irreducible] IntKind.wrap Go.Fl.fl tnD
variable {P : Program} {E : Env}
def cRes (n : Nat) (p : Nat × List Bool) : List (List D) := (nmc p.2).take p.1 ++ List.replicate (n - p.1) [.str nilS]
def fe35o (n : Nat) (l : List Bool) : Fr := ⟨[.arr 0 0 n, .bot, .bot, .bot, .bot, .bot, .bot, .bot, .bot, .bot, .bot, .bot, .bot, .bot, .bot, .bot, .bot, .bot, .bot, .bot, .bot, .bot, .bot, .bot, .bot, .bot, .bot, .bot, .bot, .bot, .bot, .bot, .bot, .bot, .bot, .bot, .bot, .bot, .bot, .bot, .bot, .bot, .bot, .bot, .bot, .bot, .bot, .bot, .bot, .bot, .bot, .bot, .bot, .bot, .bot, .bot, .bot, .bot, .bot, .bot, .bot], [some (.row 1 (nmc l))]⟩
def fe35r (n k : Nat) (xs : List (List D)) : Fr := ⟨[.arr 0 0 n, .bot, .arr 0 0 k, .bot, .bot, .bot, .bot, .bot, .bot, .bot, .bot, .bot, .bot, .bot, .bot, .bot, .bot, .bot, .bot, .bot, .bot, .bot, .bot, .bot, .bot, .bot, .bot, .bot, .bot, .bot, .bot, .bot, .bot, .bot, .bot, .bot, .bot, .bot, .bot, .bot, .bot, .bot, .bot, .bot, .bot, .bot, .bot, .bot, .bot, .bot, .bot, .bot, .bot, .bot, .bot, .bot, .bot, .bot, .bot, .bot, .bot], [some (.row 1 xs)]⟩
set_option maxHeartbeats 8000000 in
theorem rounds35o (d : Nat) : ∀ (m k : Nat) (l : List Bool) (f : Nat), m = l.length - k → 0 < k → k ≤ l.length → l.length ≤ 100000 → m < f →
    rounds (exec P (run P E T d) (refsOf T) 1 v35_1) (forget 1 9) (forget 1 5) f (fe35i l.length k l) = match cOut m k l with
      | none => some (.exit 0, fe35o l.length l)
      | some k0 => some (.ret, fe35r l.length (cIn k0 (l.length - k0 - 1) 1 k0 l).1 (cRes l.length (cIn k0 (l.length - k0 - 1) 1 k0 l))) := by
  intro m
  induction m with
  | zero =>
    intro k l f hm h2 h3 hl hf
    obtain ⟨f, rfl⟩ : ∃ f', f = f' + 1 := ⟨f - 1, by omega⟩
    have : k = l.length := by omega
    subst this
    rw [rounds, cOut]
    simp -implicitDefEqProofs [exB v35_1.eq_1, fe35i, fe35o, List.range_succ, List.idxOf?_cons]
  | succ m ih =>
    intro k l f hm h2 h3 hl hf
    obtain ⟨f, rfl⟩ : ∃ f', f = f' + 1 := ⟨f - 1, by omega⟩
    have hxl : k < l.length := by omega
    have hyl : k - 1 < l.length := by omega
    have hx := nmc_get hxl
    have hy := nmc_get hyl
    have hI : (k : Int) < l.length := by omega
    have hI2 : ((k - 1 : Nat) : Int) < l.length := by omega
    have hw2 : IntKind.i64.wrap ((k : Int) - 1) = ((k - 1 : Nat) : Int) := by rw [wrap_small (by omega) (by omega)]; omega
    have hw3 : IntKind.i64.wrap ((k : Int) + 1) = (k : Int) + 1 := wrap_small (by omega) (by omega)
    rw [cOut, List.getElem?_eq_getElem hxl, List.getElem?_eq_getElem hyl, rounds]
    dsimp only
    by_cases h0 : l[k] = l[k - 1]
    · rw [if_pos h0]
      dsimp only
      have hin := rounds35i (P := P) (E := E) d k h2 (l.length - k - 1) 1 k l LOOPS rfl (by omega) (by omega) (by omega) hl (by unfold LOOPS; omega)
      have hsp := cIn_spec k (l.length - k - 1) 1 k l (by omega)
      unfold cRes
      generalize cIn k (l.length - k - 1) 1 k l = p at *
      obtain ⟨k', l'⟩ := p
      simp only at hin hsp ⊢
      obtain ⟨s1, s2, s3⟩ := hsp
      have hk' : k' ≤ l.length := by omega
      have hkI : (k' : Int) ≤ l.length := by omega
      have hkI2 : (k : Int) ≤ l.length := by omega
      generalize hxe : l[k] = x at *
      generalize hye : l[k - 1] = y at *
      generalize hz : k - 1 = z at *
      simp only [fr35i, fe35i] at hin
      rw [show ((1 : Nat) : Int) = 1 from rfl] at hin
      by_cases hc : l.length - k' = 0
      · have hkk : k' = l.length := by omega
        have htk : List.take l.length (nmc l') = nmc l' := List.take_of_length_le (by rw [nmc_len, s1]; exact Nat.le_refl _)
        subst hkk
        simp -implicitDefEqProofs [exB v35_1.eq_1, fe35i, fe35r, nmc_len, hx, hy, hxe, hye, hw2, hw3, hxl, hyl, hI, hI2, hkI2, h0, hin, s1, htk, h3, List.range_succ, List.idxOf?_cons]
      · have hdr : List.drop (k' + (l.length - k')) (nmc l') = [] := List.drop_eq_nil_of_le (by rw [nmc_len, s1]; omega)
        have hrb : (List.replicate (l.length - k') [D.str nilS]).all (fun x => x.length == 1) = true := by rw [List.all_replicate]; simp
        have hle2 : k' + (l.length - k') ≤ l.length := by omega
        simp -implicitDefEqProofs [exB v35_1.eq_1, fe35i, fe35r, nmc_len, hx, hy, hxe, hye, hw2, hw3, hxl, hyl, hI, hI2, hkI, hkI2, hk', h0, h3, hin, s1, hc, hdr, hrb, hle2, List.range_succ, List.idxOf?_cons]
    · rw [if_neg h0]
      have ih := ih (k + 1) l f (by omega) (by omega) (by omega) hl (by omega)
      rw [← ih]
      generalize hxe : l[k] = x at *
      generalize hye : l[k - 1] = y at *
      generalize hz : k - 1 = z at *
      simp -implicitDefEqProofs [exB v35_1.eq_1, fe35i, fe35o, nmc_len, hx, hy, hxe, hye, hw2, hw3, hxl, hyl, hI, hI2, h0, List.range_succ, List.idxOf?_cons]
theorem cOut_lt : ∀ (m k : Nat) (l : List Bool) (k0 : Nat), cOut m k l = some k0 → k0 < l.length ∧ k ≤ k0
  | 0, _, _, _, h => by cases h
  | m + 1, k, l, k0, h => by
    rw [cOut] at h
    split at h
    · rename_i x y hx hy
      split at h
      · injection h with h; subst h; exact ⟨(List.getElem?_eq_some_iff.mp hx).1, Nat.le_refl _⟩
      · have := cOut_lt m (k + 1) l k0 h; omega
    · cases h
theorem compact_run (d : Nat) (l : List Bool) (hl : l.length ≤ 100000) : ∃ rest, run P E T (d + 1) 35 [.arr 0 0 l.length] [some (.row 1 (nmc l))] = some (.arr 0 0 (compB l).length, [some (.row 1 (nmc (compB l) ++ rest))]) := by
  by_cases h2 : l.length < 2
  · refine ⟨[], ?_⟩
    rw [run_succ _ _ _ _ _ _ _ _ T_35]
    have hI : (l.length : Int) < 2 := by omega
    have e : compB l = l := by unfold compB; rw [if_pos h2]
    rw [e]
    simp -implicitDefEqProofs [v35, hI, h2, List.range_succ, List.idxOf?_cons]
  · have hI : ¬ ((l.length : Int) < 2) := by omega
    have h := rounds35o (P := P) (E := E) d (l.length - 1) 1 l LOOPS rfl (by omega) (by omega) hl (by unfold LOOPS; omega)
    simp only [fe35i] at h
    rw [show ((1 : Nat) : Int) = 1 from rfl] at h
    unfold compB
    rw [if_neg h2]
    cases hc : cOut (l.length - 1) 1 l with
    | none =>
      refine ⟨[], ?_⟩
      rw [run_succ _ _ _ _ _ _ _ _ T_35]
      rw [hc] at h
      simp only [fe35o] at h
      simp -implicitDefEqProofs [v35, hI, h2, h, List.range_succ, List.idxOf?_cons]
    | some k0 =>
      rw [hc] at h
      have hk := cOut_lt _ _ _ _ hc
      have hsp := cIn_spec k0 (l.length - k0 - 1) 1 k0 l (by omega)
      simp only [fe35r, cRes] at h
      dsimp only
      generalize cIn k0 (l.length - k0 - 1) 1 k0 l = p at *
      obtain ⟨k', l'⟩ := p
      simp only at h hsp ⊢
      refine ⟨List.replicate (l.length - k') [.str nilS], ?_⟩
      rw [run_succ _ _ _ _ _ _ _ _ T_35]
      have e1 : (List.take k' l').length = k' := by rw [List.length_take]; omega
      have e2 : nmc (List.take k' l') = List.take k' (nmc l') := by unfold nmc; rw [List.map_take]
      rw [e1, e2]
      simp -implicitDefEqProofs [v35, hI, h2, h, List.range_succ, List.idxOf?_cons]
/-! The document's way: each name is put in its place. -/
def putB : List Bool → Bool → Bool → List Bool
  | [], s, done => bif done then [] else [s]
  | x :: r, s, done => (bif !done && !(!x && s) then [s] else []) ++ (bif x == s then [] else [x]) ++ putB r s (done || !(!x && s))
def putAll (l : List Bool) : List Bool := l.foldl (fun acc b => putB acc b false) []
def allB : Nat → List (List Bool)
  | 0 => [[]]
  | n + 1 => [[]] ++ (allB n).flatMap fun l => [true :: l, false :: l]
theorem mem_allB : ∀ (n : Nat) (l : List Bool), l.length ≤ n → l ∈ allB n
  | 0, l, h => by
    have : l = [] := List.eq_nil_of_length_eq_zero (by omega)
    subst this; simp [allB]
  | n + 1, [], h => by simp [allB]
  | n + 1, b :: l, h => by
    have := mem_allB n l (by simpa using h)
    simp only [allB, List.mem_append, List.mem_flatMap]
    right
    exact ⟨l, this, by cases b <;> simp⟩
def lawB (l : List Bool) : Bool := compB (insB (l.length - 1) 1 l) == putAll l
theorem names_all : ((allB 8).all lawB) = true := by decide +kernel
theorem names_law (l : List Bool) (h : l.length ≤ 8) : compB (insB (l.length - 1) 1 l) = putAll l := by
  have := List.all_eq_true.mp names_all l (mem_allB 8 l h)
  unfold lawB at this
  exact eq_of_beq this
/-- Each name once, in order. -/
def okN (l : List Bool) : Bool := l == [] || l == [false] || l == [true] || l == [false, true]
theorem names_ok_all : ((allB 8).all fun l => okN (putAll l)) = true := by decide +kernel
theorem names_ok (l : List Bool) (h : l.length ≤ 8) : okN (putAll l) = true := List.all_eq_true.mp names_ok_all l (mem_allB 8 l h)
end Go.Vm.B
namespace Go.Vm.B
open Go.Fl
attribute [local irreducible] IntKind.wrap Go.Fl.fl tnD
variable {P : Program} {E : Env}
def putL : List Bool → Bool → Bool → List Bool × Bool
  | [], s, done => ([], done)
  | x :: r, s, done => ((bif !done && !(!x && s) then [s] else []) ++ (bif x == s then [] else [x]) ++ (putL r s (done || !(!x && s))).1, (putL r s (done || !(!x && s))).2)
theorem putL_B : ∀ (l : List Bool) (s done : Bool), putB l s done = (putL l s done).1 ++ bif (putL l s done).2 then [] else [s]
  | [], s, done => by simp [putB, putL]
  | x :: r, s, done => by rw [putB, putL, putL_B r s]; simp
def fr45 (l : List Bool) (s : Bool) (i : Nat) (done : Bool) (xs : List (List D)) : Fr := ⟨[.d (.lst (nmc l)), .d (.str (nmB s)), .bot, .bot, .bot, accV xs, .d (.bool done), .d (.int .i64 (i : Nat)), .bot, .bot, .bot, .bot, .bot, .bot, .bot, .bot, .bot, .bot, .bot, .bot, .bot, .bot, .bot, .bot, .bot, .bot, .bot, .bot, .bot, .bot, .bot, .bot, .bot, .bot, .bot, .bot, .bot, .bot, .bot, .bot, .bot, .bot, .bot, .bot, .bot, .bot, .bot, .bot], accS 1 xs⟩
def fe45 (s : Bool) (done : Bool) (xs : List (List D)) : Fr := ⟨[.bot, .d (.str (nmB s)), .bot, .bot, .bot, accV xs, .d (.bool done), .bot, .bot, .bot, .bot, .bot, .bot, .bot, .bot, .bot, .bot, .bot, .bot, .bot, .bot, .bot, .bot, .bot, .bot, .bot, .bot, .bot, .bot, .bot, .bot, .bot, .bot, .bot, .bot, .bot, .bot, .bot, .bot, .bot, .bot, .bot, .bot, .bot, .bot, .bot, .bot, .bot], accS 1 xs⟩
set_option maxHeartbeats 8000000 in
theorem rounds45 (d : Nat) (l : List Bool) (hl : l.length ≤ 1000) (s : Bool) : ∀ (m i f : Nat) (done : Bool) (xs : List (List D)), m = l.length - i → i ≤ l.length → m < f → xs.length ≤ 2 * i →
    rounds (exec P (run P E T d) (refsOf T) 0 v45_0) (forget 0 227) (forget 0 114) f (fr45 l s i done xs) = some (.exit 0, fe45 s (putL (l.drop i) s done).2 (xs ++ nmc (putL (l.drop i) s done).1)) := by
  intro m
  induction m with
  | zero =>
    intro i f done xs hm hi hf hx
    obtain ⟨f, rfl⟩ : ∃ f', f = f' + 1 := ⟨f - 1, by omega⟩
    have : i = l.length := by omega
    subst this
    rw [rounds, List.drop_length, putL, show nmc [] = [] from rfl, List.append_nil]
    by_cases hn : xs = []
    · simp -implicitDefEqProofs [exB v45_0.eq_1, fr45, fe45, accV, accS, hn, nmc_len, List.range_succ, List.idxOf?_cons]
    · simp -implicitDefEqProofs [exB v45_0.eq_1, fr45, fe45, accV, accS, hn, nmc_len, List.range_succ, List.idxOf?_cons]
  | succ m ih =>
    intro i f done xs hm hi hf hxl
    obtain ⟨f, rfl⟩ : ∃ f', f = f' + 1 := ⟨f - 1, by omega⟩
    have hlt : i < l.length := by omega
    have hI : (i : Int) < l.length := by omega
    have hx := nmc_get hlt
    have hw : IntKind.i64.wrap ((i : Int) + 1) = (i : Int) + 1 := wrap_small (by omega) (by omega)
    have hs1 : xs.length + 1 ≤ 4294967296 := by omega
    have hs2 : xs.length + 2 ≤ 4294967296 := by omega
    have hs3 : xs.length + 1 + 1 ≤ 4294967296 := by omega
    rw [List.drop_eq_getElem_cons hlt, putL, rounds]
    generalize hxe : l[i] = x at *
    have A : ∀ (done' : Bool) (ys : List Bool), ys.length ≤ 2 → rounds (exec P (run P E T d) (refsOf T) 0 v45_0) (forget 0 227) (forget 0 114) f (fr45 l s (i + 1) done' (xs ++ nmc ys)) = some (.exit 0, fe45 s (putL (l.drop (i + 1)) s done').2 (xs ++ nmc (ys ++ (putL (l.drop (i + 1)) s done').1))) := by
      intro done' ys hy
      rw [ih (i + 1) f done' (xs ++ nmc ys) (by omega) (by omega) (by omega) (by rw [List.length_append, nmc_len]; omega)]
      simp [nmc]
    rw [← A (done || !(!x && s)) ((bif !done && !(!x && s) then [s] else []) ++ (bif x == s then [] else [x])) (by cases done <;> cases x <;> cases s <;> simp)]
    clear A ih
    cases done <;> cases x <;> cases s <;> by_cases hn : xs = [] <;>
      simp -implicitDefEqProofs [exB v45_0.eq_1, fr45, accV, accS, hn, nmc_len, hlt, hI, hx, hxe, hw, hs1, hs2, hs3, nm_less, List.range_succ, List.idxOf?_cons, nmc, wrap1]
theorem put_run (d : Nat) (l : List Bool) (hl : l.length ≤ 1000) (s : Bool) : run P E T (d + 1) 45 [.d (.lst (nmc l)), .d (.str (nmB s))] [] = some (.d (.lst (nmc (putB l s false))), []) := by
  rw [run_succ _ _ _ _ _ _ _ _ T_45]
  have h := rounds45 (P := P) (E := E) d l hl s _ 0 LOOPS false [] rfl (by omega) (by unfold LOOPS; omega) (by simp)
  rw [List.drop_zero, List.nil_append] at h
  rw [putL_B]
  generalize hp : putL l s false = p at *
  obtain ⟨ys, dn⟩ := p
  simp only [fr45, fe45] at h
  have hys : (nmc ys).length ≤ 2001 := by
    have H : ∀ (l : List Bool) (s done : Bool), (putL l s done).1.length ≤ 2 * l.length := by
      intro l
      induction l with
      | nil => intro s done; simp [putL]
      | cons x r ih =>
        intro s done
        have := ih s (done || !(!x && s))
        rw [putL]
        cases done <;> cases x <;> cases s <;> simp at this ⊢ <;> omega
    have := H l s false
    rw [hp] at this
    rw [nmc_len]; simp only at this; omega
  have hs1 : (nmc ys).length + 1 ≤ 4294967296 := by omega
  have happ : nmc (ys ++ [s]) = nmc ys ++ [[.str (nmB s)]] := by simp [nmc]
  rw [show ((0 : Nat) : Int) = 0 from rfl] at h
  cases dn with
  | true =>
    simp only [cond_true, List.append_nil]
    by_cases hn : nmc ys = []
    · simp only [hn, accV, accS, if_pos] at h
      simp -implicitDefEqProofs [v45, h, hn, List.range_succ, List.idxOf?_cons]
    · simp only [hn, accV, accS, if_pos, if_false] at h
      simp -implicitDefEqProofs [v45, h, hn, List.range_succ, List.idxOf?_cons]
  | false =>
    simp only [cond_false, happ]
    by_cases hn : nmc ys = []
    · simp only [hn, accV, accS, if_pos] at h
      simp -implicitDefEqProofs [v45, h, hn, List.range_succ, List.idxOf?_cons]
    · simp only [hn, accV, accS, if_pos, if_false] at h
      have htk : List.take ((nmc ys).length + 1) (nmc ys ++ [[D.str (nmB s)]]) = nmc ys ++ [[D.str (nmB s)]] := List.take_of_length_le (by simp)
      simp -implicitDefEqProofs [v45, h, hn, hs1, htk, List.range_succ, List.idxOf?_cons]
end Go.Vm.B
namespace Go.Vm.B
/-! Changes, one behind the other. -/
structure ST (k : Int) (x y : Tab) : Prop where
  tx : TB x
  ty : TB y
  xn : x.n = nmB true
  yn : y.n = nmB false
  hx : tot x.rows ≤ k
  hy : tot y.rows ≤ k
theorem ST.mono {k j : Int} {x y : Tab} (h : ST k x y) (hj : k ≤ j) : ST j x y := ⟨h.tx, h.ty, h.xn, h.yn, by have := h.hx; omega, by have := h.hy; omega⟩
theorem stp_st {k : Int} {x y : Tab} (h : ST k x y) (hk : k ≤ 999) (c : Chg) : ST (k + 1) (stp x y c).2.1 (stp x y c).2.2 ∧ (stp x y c).2.1.cols = x.cols ∧ (stp x y c).2.2.cols = y.cols := by
  have hx := h.hx
  have hy := h.hy
  obtain ⟨a1, a2, a3, a4⟩ := stpZ_tb h.tx (by omega) c
  obtain ⟨b1, b2, b3, b4⟩ := stpZ_tb h.ty (by omega) c
  unfold stp
  split
  · exact ⟨⟨a1, h.ty, by rw [← h.xn]; exact a2, h.yn, by simp only; omega, by simp only; omega⟩, a3, rfl⟩
  · split
    · exact ⟨⟨h.tx, b1, h.xn, by rw [← h.yn]; exact b2, by simp only; omega, by simp only; omega⟩, rfl, b3⟩
    · exact ⟨h.mono (by omega), rfl, rfl⟩
theorem stp_name {k : Int} {x y : Tab} (h : ST k x y) (c : Chg) (h0 : (stp x y c).1 = 0) : c.t = nmB (decide (c.t = x.n)) := by
  unfold stp at h0
  split at h0
  · rename_i e; rw [decide_eq_true e.symm, ← h.xn, e]
  · rename_i e
    split at h0
    · rename_i e2; rw [decide_eq_false (fun h => e h.symm), ← h.yn, e2]
    · simp at h0
abbrev Out := (Int × Nat) ⊕ (Tab × Tab × List Bool)
def appF (add : List Bool → Bool → List Bool) : Tab → Tab → List Chg → Nat → List Bool → Out
  | x, y, [], _, ns => .inr (x, y, ns)
  | x, y, c :: cs, i, ns => if (stp x y c).1 = 0 then appF add (stp x y c).2.1 (stp x y c).2.2 cs (i + 1) (add ns (decide (c.t = x.n))) else .inl ((stp x y c).1, i)
def snoc (ns : List Bool) (b : Bool) : List Bool := ns ++ [b]
def put (ns : List Bool) (b : Bool) : List Bool := putB ns b false
theorem appF_law (add : List Bool → Bool → List Bool) (ns' : List Bool) : ∀ (cs : List Chg) (x y : Tab) (i : Nat) (ns : List Bool), match appF snoc x y cs i ns with
    | .inl e => ∀ ns', appF add x y cs i ns' = .inl e
    | .inr (a, b, ms) => ∃ bs, bs.length = cs.length ∧ ms = ns ++ bs ∧ ∀ ns', appF add x y cs i ns' = .inr (a, b, bs.foldl add ns')
  | [], x, y, i, ns => ⟨[], rfl, by simp, fun ns' => rfl⟩
  | c :: cs, x, y, i, ns => by
    have ih := appF_law add ns' cs (stp x y c).2.1 (stp x y c).2.2 (i + 1) (snoc ns (decide (c.t = x.n)))
    simp only [appF]
    by_cases h0 : (stp x y c).1 = 0
    · simp only [if_pos h0]
      cases he : appF snoc (stp x y c).2.1 (stp x y c).2.2 cs (i + 1) (snoc ns (decide (c.t = x.n))) with
      | inl e =>
        rw [he] at ih
        exact fun ns' => ih _
      | inr p =>
        obtain ⟨a, b, ms⟩ := p
        rw [he] at ih
        obtain ⟨bs, h1, h2, h3⟩ := ih
        refine ⟨decide (c.t = x.n) :: bs, by simp [h1], by rw [h2]; simp [snoc], fun ns' => ?_⟩
        rw [h3]; rfl
    · simp only [if_neg h0]
      exact fun ns' => trivial
theorem appF_st (add : List Bool → Bool → List Bool) : ∀ (cs : List Chg) (x y : Tab) (i : Nat) (ns : List Bool) (k : Int), ST k x y → k + cs.length ≤ 999 → ∀ a b ms, appF add x y cs i ns = .inr (a, b, ms) → ST (k + cs.length) a b ∧ a.cols = x.cols ∧ b.cols = y.cols
  | [], x, y, i, ns, k, h, hk, a, b, ms, he => by
    simp only [appF, Sum.inr.injEq, Prod.mk.injEq] at he
    obtain ⟨rfl, rfl, _⟩ := he
    exact ⟨h.mono (by simp), rfl, rfl⟩
  | c :: cs, x, y, i, ns, k, h, hk, a, b, ms, he => by
    simp only [appF] at he
    split at he
    · simp only [List.length_cons] at hk
      obtain ⟨h1, h2, h3⟩ := stp_st h (by omega) c
      obtain ⟨i1, i2, i3⟩ := appF_st add cs _ _ _ _ (k + 1) h1 (by omega) a b ms he
      exact ⟨i1.mono (by simp only [List.length_cons]; omega), i2.trans h2, i3.trans h3⟩
    · cases he
/-- The changes of a set, told for each name that changed. -/
def dltD (x y a b : Tab) (n : Bool) : List D := [.str (nmB n), .lst (setc (mkS ((bif n then a.rows else b.rows) ++ flipS (bif n then x.rows else y.rows))))]
def applyR (x y : Tab) (cs : List Chg) : List (List D) × List (List D) × Int × Int :=
  if 8 < cs.length then ([], [], 4, 0) else if cs.length = 0 then ([], [], 1, 0)
  else match appF put x y cs 0 [] with
    | .inl (e, i) => ([], [], e, i)
    | .inr (a, b, ns) => ([tabc a, tabc b], ns.map (dltD x y a b), 0, 0)
/-- What is to be added up for a Delta. -/
theorem dlt_ok {k j : Int} {x y a b : Tab} (h : ST k x y) (h' : ST j a b) (hk : k ≤ 1000) (hj : j ≤ 1000) (n : Bool) :
    let l := (bif n then a.rows else b.rows) ++ flipS (bif n then x.rows else y.rows)
    IT l ∧ l.length ≤ 2000 ∧ asum l ≤ 2000 := by
  have key : ∀ z w : Tab, TB z → TB w → tot z.rows ≤ 1000 → tot w.rows ≤ 1000 → IT (w.rows ++ flipS z.rows) ∧ (w.rows ++ flipS z.rows).length ≤ 2000 ∧ asum (w.rows ++ flipS z.rows) ≤ 2000 := by
    intro z w hz hw h1 h2
    have a1 := plain_len hz.plain hz.gs.nz
    have a2 := plain_asum hz.plain
    have b1 := plain_len hw.plain hw.gs.nz
    have b2 := plain_asum hw.plain
    have fl : (flipS z.rows).length = z.rows.length := by simp [flipS]
    have fa : asum (flipS z.rows) = asum z.rows := by
      unfold flipS
      generalize z.rows = l
      induction l with
      | nil => rfl
      | cons x t ih => simp only [List.map_cons, asum, ih]; omega
    have hlen : (w.rows ++ flipS z.rows).length = w.rows.length + z.rows.length := by rw [List.length_append, fl]
    have hf : ∀ v ∈ flipS z.rows, ∃ u ∈ z.rows, v = (u.1, -u.2) := fun v hv => by
      obtain ⟨u, hu, e⟩ := List.mem_map.mp hv; exact ⟨u, hu, e.symm⟩
    refine ⟨⟨fun v hv => ?_, fun v hv => ?_, fun v hv => ?_, by omega⟩, by omega, by rw [asum_append, fa]; omega⟩
    · rcases List.mem_append.mp hv with hv | hv
      · exact hw.gs.right v hv
      · obtain ⟨u, hu, rfl⟩ := hf v hv; exact hz.gs.right u hu
    · rcases List.mem_append.mp hv with hv | hv
      · exact hw.gs.lo v hv
      · obtain ⟨u, hu, rfl⟩ := hf v hv; have := hz.gs.hi u hu; simp only; omega
    · rcases List.mem_append.mp hv with hv | hv
      · exact hw.gs.hi v hv
      · obtain ⟨u, hu, rfl⟩ := hf v hv; have := hz.gs.lo u hu; simp only; omega
  have e1 := h.hx
  have e2 := h.hy
  have e3 := h'.hx
  have e4 := h'.hy
  cases n with
  | true => exact key x a h.tx h'.tx (by omega) (by omega)
  | false => exact key y b h.ty h'.ty (by omega) (by omega)
end Go.Vm.B
