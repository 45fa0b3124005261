/- A part of the proofs of the statements BatchTells and BatchNumbers: C70, C71. Conditions: none of its own. -/
import Derived.Test.YtoaafpebcdfniaaGreatT23
import Derived.KernelRfl
set_option linter.unusedSimpArgs false
set_option linter.unusedVariables false
set_option linter.unnecessarySimpa false
set_option linter.all false
set_option maxRecDepth 100000
namespace Go.Vm.B
open Go.Fl
attribute [local irreducible] IntKind.wrap Go.Fl.fl tnD
variable {P : Program} {E : Env}
/-! A table that is not right: a tally below nought. -/
def badS : Set := [(oneR, -1)]
def tabB : Tab := ⟨nmB true, colsU, badS⟩
theorem badS_gs : GS badS := ⟨fun x hx => by simp [badS] at hx; subst hx; exact oneR_right, fun x hx => by simp [badS] at hx; subst hx; simp, fun x hx => by simp [badS] at hx; subst hx; simp, fun x hx => by simp [badS] at hx; subst hx; simp, fun i h => by simp [badS] at h, by simp [badS]⟩
theorem setc_bad : setc badS = [[.lst oneR.c, tnD (-1)]] := rfl
theorem zPlainBad_run (g : Good P E) (d : Nat) : run P E T (d + 9) 54 [.d (.lst (setc badS))] [] = some (.d (.bool false), []) := by
  have h81 : ∀ x ∈ setc badS, callX (run P E T (d + 6)) (refsOf T 81) 81 [.agg (x.map V.d)] [] 0 = some (.d (.bool true), []) := by
    intro x hx
    rw [setc_bad, List.mem_singleton] at hx
    subst hx
    have hc := tNet_run g d (-1) (by omega) (by omega)
    simp only [tn] at hc
    have : run P E T (d + 6) 81 [.agg [.d (.lst oneR.c), .d (tnD (-1))]] [] = some (.d (.bool true), []) := by
      rw [run_succ _ _ _ _ _ _ _ _ T_81]
      simp -implicitDefEqProofs [v81, hc]
    simp -implicitDefEqProofs [this]
  have h83 := ixA_run P E (d + 6) (N := 83) (s := 2) (by rw [T_83, ix83]) 81 (fun _ => true) (setc badS) (len2 badS) (by rw [setc_len]; simp [badS]) h81 (by decide)
  have hix : ixFrom (fun _ => true) (setc badS) 0 = 0 := by rw [setc_bad, ixFrom]; rfl
  rw [hix] at h83
  have h55 : run P E T (d + 8) 55 [.d (.lst (setc badS)), .clo 81 [] []] [] = some (.d (.bool true), []) := by
    rw [run_succ _ _ _ _ _ _ _ _ T_55]
    simp -implicitDefEqProofs [v55, h83]
  have h69 : run P E T (d + 8) 69 [.d (.lst (setc badS))] [] = some (.d (.bool true), []) := zRight_run g (d + 1) badS badS_gs
  rw [run_succ _ _ _ _ _ _ _ _ T_54]
  simp -implicitDefEqProofs [v54, h55, h69]
theorem rPlainBad_run (g : Good P E) (d : Nat) : run P E T (d + 5) 74 [.d (.lst (setc badS))] [] = some (.d (.bool false), []) := by
  rw [run_succ _ _ _ _ _ _ _ _ T_74]
  have h51 : run P E T (d + 4) 51 [.d (tnD (-1))] [] = some (.d (.int .i64 (-1)), []) := rNet_run g (d + 2) (-1) (by omega) (by omega)
  rw [setc_bad]
  simp -implicitDefEqProofs [v74, rounds_L, exB v74_0.eq_1, h51]
theorem bad31 (g : Good P E) (d : Nat) (l : List Chg) : run P E T (d + 10) 31 [.d (.lst [tabc tabB, tabc (tabT l)])] [] = some (.d (.bool false), []) := by
  rw [run_succ _ _ _ _ _ _ _ _ T_31]
  have h1 : run P E T (d + 9) 53 [.d (.lst [tabc tabB, tabc (tabT l)])] [] = some (.d (.lst [defc tabB, defc (tabT l)]), []) := defs_run P E (d + 7) tabB (tabT l) ⟨by unfold tabB colsU; simp, by unfold tabB colsU; simp⟩ ⟨by unfold tabT colsT; simp, by unfold tabT colsT; simp⟩
  have h2 : run P E T (d + 9) 52 [.d (.lst [defc tabB, defc (tabT l)])] [] = some (.d (.int .i64 0), []) := by
    have := defs_closed P E d
    rw [← nm_u, ← nm_t] at this
    exact this
  have h3 : run P E T (d + 9) 54 [.d (.lst (setc tabB.rows))] [] = some (.d (.bool false), []) := zPlainBad_run g d
  simp only [tabc, defc] at h1 h2
  simp -implicitDefEqProofs [v31, tabc, h1, h2, h3, rounds_L, exB v31_0.eq_1, wrap1]
theorem bad39 (g : Good P E) (d : Nat) (l : List Chg) : run P E T (d + 6) 39 [.d (.lst [tabc tabB, tabc (tabT l)])] [] = some (.d (.bool false), []) := by
  rw [run_succ _ _ _ _ _ _ _ _ T_39]
  have h1 : run P E T (d + 5) 73 [.d (.lst [tabc tabB, tabc (tabT l)])] [] = some (.d (.lst [defc tabB, defc (tabT l)]), []) := refDefs_run P E (d + 4) tabB (tabT l)
  have h2 : run P E T (d + 5) 72 [.d (.lst [defc tabB, defc (tabT l)])] [] = some (.d (.int .i64 0), []) := by
    have := rdefs_closed P E (d + 1)
    rw [← nm_u, ← nm_t] at this
    exact this
  have h3 : run P E T (d + 5) 74 [.d (.lst (setc tabB.rows))] [] = some (.d (.bool false), []) := rPlainBad_run g d
  simp only [tabc, defc] at h1 h2
  simp -implicitDefEqProofs [v39, tabc, h1, h2, h3, rounds_L, exB v39_1.eq_1, wrap1]
theorem applyBad (d : Nat) (o : List (List D)) (ho : o.length = 2) (cs : List (List D)) (h31 : run P E T (d + 1) 31 [.d (.lst o)] [] = some (.d (.bool false), [])) :
    run P E T (d + 2) 19 [.arr 0 0 2, .d (.lst cs)] [some (.row 3 o)] = some (.tup [.d (.lst []), .d (.lst []), .d (.int .i64 1), .d (.int .i64 0)], [some (.row 3 o)]) := by
  rw [run_succ _ _ _ _ _ _ _ _ T_19]
  have htk : List.take 2 o = o := List.take_of_length_le (by omega)
  simp -implicitDefEqProofs [v19, h31, ho, htk, S_31, callX, callIds, frzArgs, passArgs, List.range_succ, List.idxOf?_cons]
theorem refApplyBad (d : Nat) (o : List (List D)) (cs : List (List D)) (h39 : run P E T (d + 1) 39 [.d (.lst o)] [] = some (.d (.bool false), [])) :
    run P E T (d + 2) 20 [.d (.lst o), .d (.lst cs)] [] = some (.tup [.d (.lst []), .d (.lst []), .d (.int .i64 1), .d (.int .i64 0)], []) := by
  rw [run_succ _ _ _ _ _ _ _ _ T_20]
  simp -implicitDefEqProofs [v20, h39, S_39]
theorem bothBad (g : Good P E) (d : Nat) (l : List Chg) (cs : List (List D)) : run P E T (d + 107) 11 [.arr 0 0 2, .d (.lst cs)] [some (.row 3 [tabc tabB, tabc (tabT l)])] = some (.tup [.d (.lst []), .d (.lst []), .d (.int .i64 1), .d (.bool true)], [some (.row 3 [tabc tabB, tabc (tabT l)])]) := by
  have h31 : run P E T (d + 105) 31 [.d (.lst [tabc tabB, tabc (tabT l)])] [] = some (.d (.bool false), []) := bad31 g (d + 95) l
  have h39 : run P E T (d + 105) 39 [.d (.lst [tabc tabB, tabc (tabT l)])] [] = some (.d (.bool false), []) := bad39 g (d + 99) l
  have h19 : run P E T (d + 106) 19 [.arr 0 0 2, .d (.lst cs)] [some (.row 3 [tabc tabB, tabc (tabT l)])] = _ := applyBad (d + 104) _ rfl cs h31
  have h20 : run P E T (d + 106) 20 [.d (.lst [tabc tabB, tabc (tabT l)]), .d (.lst cs)] [] = _ := refApplyBad (d + 104) _ cs h39
  have h21 : run P E T (d + 106) 21 [.arr 0 0 2] [some (.row 3 [tabc tabB, tabc (tabT l)])] = some (.d (.lst [tabc tabB, tabc (tabT l)]), [some (.row 3 [tabc tabB, tabc (tabT l)])]) := in_run P E (d + 105) tabB (tabT l)
  rw [run_succ _ _ _ _ _ _ _ _ T_11]
  generalize [tabc tabB, tabc (tabT l)] = o at *
  simp -implicitDefEqProofs [v11, h19, h20, h21, S_19, S_20, S_21, rounds_L, exB v11_0.eq_1, exB v11_1.eq_1, callX, callIds, frzArgs, passArgs, List.range_succ, List.idxOf?_cons, -forget, mask11a, mask11b, mask11c, mask11d]
end Go.Vm.B
namespace Go.Vm.B
open Go.Fl
theorem mask3a (ts : List V) (σ : Store) (h : ts.length = 94) : forget 0 126100789566373894 ⟨ts, σ⟩ = ⟨(gc 0 (List.zipWith (fun v b => bif b then v else .bot) ts [false, true, true, false, false, false, false, false, false, false, false, false, false, false, false, false, false, false, false, false, false, false, false, false, false, false, false, false, false, false, false, false, false, false, false, false, false, false, false, false, false, false, false, false, false, false, false, false, false, false, false, false, false, false, true, true, true, false, false, false, false, false, false, false, false, false, false, false, false, false, false, false, false, false, false, false, false, false, false, false, false, false, false, false, false, false, false, false, false, false, false, false, false, false]) σ).1, (gc 0 (List.zipWith (fun v b => bif b then v else .bot) ts [false, true, true, false, false, false, false, false, false, false, false, false, false, false, false, false, false, false, false, false, false, false, false, false, false, false, false, false, false, false, false, false, false, false, false, false, false, false, false, false, false, false, false, false, false, false, false, false, false, false, false, false, false, false, true, true, true, false, false, false, false, false, false, false, false, false, false, false, false, false, false, false, false, false, false, false, false, false, false, false, false, false, false, false, false, false, false, false, false, false, false, false, false, false]) σ).2⟩ := forget_mask 0 126100789566373894 _ (by decide +kernel) ts σ h
theorem mask3b (ts : List V) (σ : Store) (h : ts.length = 94) : forget 0 7 ⟨ts, σ⟩ = ⟨(gc 0 (List.zipWith (fun v b => bif b then v else .bot) ts [true, true, true, false, false, false, false, false, false, false, false, false, false, false, false, false, false, false, false, false, false, false, false, false, false, false, false, false, false, false, false, false, false, false, false, false, false, false, false, false, false, false, false, false, false, false, false, false, false, false, false, false, false, false, false, false, false, false, false, false, false, false, false, false, false, false, false, false, false, false, false, false, false, false, false, false, false, false, false, false, false, false, false, false, false, false, false, false, false, false, false, false, false, false]) σ).1, (gc 0 (List.zipWith (fun v b => bif b then v else .bot) ts [true, true, true, false, false, false, false, false, false, false, false, false, false, false, false, false, false, false, false, false, false, false, false, false, false, false, false, false, false, false, false, false, false, false, false, false, false, false, false, false, false, false, false, false, false, false, false, false, false, false, false, false, false, false, false, false, false, false, false, false, false, false, false, false, false, false, false, false, false, false, false, false, false, false, false, false, false, false, false, false, false, false, false, false, false, false, false, false, false, false, false, false, false, false]) σ).2⟩ := forget_mask 0 7 _ (by decide +kernel) ts σ h
def a3 : C := (.reg [⟨some 0, none, .mv (.k (.d (.bool false)))⟩])
def b3 : C := (.reg [⟨some 13, none, .lit 1 2 [.d (.int .i64 0)] [(0, (.k (.d (.int .i64 1)))), (1, (.k (.d (.int .i64 1))))]⟩, ⟨some 14, none, .call 6 [(.t 13)]⟩, ⟨some 15, none, .call 5 [(.k (.d (.str ⟨#[117]⟩))), (.t 14)]⟩, ⟨some 1, none, .new [.d (.str ⟨#[]⟩), .nils, .d (.bool false)]⟩, ⟨none, none, .st 3 (.t 1) (.t 15)⟩])
def c3 : C := (.reg [⟨some 16, none, .call 7 [(.k (.d (.int .i64 62))), (.k (.nils))]⟩, ⟨some 2, none, .mv (.t 16)⟩])
def r3 : C := (.any [⟨some 17, none, .mks 3 48 [.d (.str ⟨#[]⟩), .nils, .d (.bool false)] (.k (.d (.int .i64 9))) (.k (.d (.int .i64 9)))⟩, ⟨some 18, none, .ld true 3 (.t 1)⟩, ⟨some 19, none, .build [.d (.str ⟨#[]⟩), .nils, .d (.bool false)] [(0, 1, (.k (.d (.str ⟨#[120]⟩))))]⟩, ⟨some 20, none, .lit 3 2 [.d (.str ⟨#[]⟩), .nils, .d (.bool false)] [(0, (.t 18)), (1, (.t 19))]⟩, ⟨some 21, none, .ld true 3 (.t 1)⟩, ⟨some 22, none, .lit 1 2 [.d (.int .i64 0)] [(0, (.k (.d (.int .i64 1)))), (1, (.k (.d (.int .i64 1))))]⟩, ⟨some 23, none, .call 6 [(.t 22)]⟩, ⟨some 24, none, .call 5 [(.k (.d (.str ⟨#[116]⟩))), (.t 23)]⟩, ⟨some 25, none, .lit 3 2 [.d (.str ⟨#[]⟩), .nils, .d (.bool false)] [(0, (.t 21)), (1, (.t 24))]⟩, ⟨some 26, none, .ld true 3 (.t 1)⟩, ⟨some 27, none, .ld true 3 (.t 1)⟩, ⟨some 28, none, .lit 3 2 [.d (.str ⟨#[]⟩), .nils, .d (.bool false)] [(0, (.t 26)), (1, (.t 27))]⟩, ⟨some 29, none, .ld true 3 (.t 1)⟩, ⟨some 30, none, .ld true 3 (.t 1)⟩, ⟨some 31, none, .ld true 3 (.t 1)⟩, ⟨some 32, none, .lit 3 3 [.d (.str ⟨#[]⟩), .nils, .d (.bool false)] [(0, (.t 29)), (1, (.t 30)), (2, (.t 31))]⟩, ⟨some 33, none, .ld true 3 (.t 1)⟩, ⟨some 34, none, .ld true 3 (.t 1)⟩, ⟨some 35, none, .lit 1 2 [.d (.int .i64 0)] [(0, (.k (.d (.int .i64 7)))), (1, (.k (.d (.int .i64 7))))]⟩, ⟨some 36, none, .call 6 [(.t 35)]⟩, ⟨some 37, none, .call 8 [(.k (.d (.str ⟨#[117]⟩))), (.t 36)]⟩, ⟨some 38, none, .ld true 3 (.t 1)⟩, ⟨some 39, none, .lit 3 4 [.d (.str ⟨#[]⟩), .nils, .d (.bool false)] [(0, (.t 33)), (1, (.t 34)), (2, (.t 37)), (3, (.t 38))]⟩, ⟨some 40, none, .lit 1 2 [.d (.int .i64 0)] [(0, (.k (.d (.int .i64 7)))), (1, (.k (.d (.int .i64 7))))]⟩, ⟨some 41, none, .call 6 [(.t 40)]⟩, ⟨some 42, none, .call 8 [(.k (.d (.str ⟨#[117]⟩))), (.t 41)]⟩, ⟨some 43, none, .lit 1 2 [.d (.int .i64 0)] [(0, (.k (.d (.int .i64 7)))), (1, (.k (.d (.int .i64 8))))]⟩, ⟨some 44, none, .call 6 [(.t 43)]⟩, ⟨some 45, none, .call 8 [(.k (.d (.str ⟨#[117]⟩))), (.t 44)]⟩, ⟨some 46, none, .lit 3 2 [.d (.str ⟨#[]⟩), .nils, .d (.bool false)] [(0, (.t 42)), (1, (.t 45))]⟩, ⟨some 47, none, .call 9 [(.k (.d (.int .i64 1)))]⟩, ⟨some 48, none, .call 9 [(.k (.d (.int .i64 1)))]⟩, ⟨some 49, none, .call 10 [(.k (.d (.str ⟨#[]⟩)))]⟩, ⟨some 50, none, .lit 3 3 [.d (.int .i64 0), .d (.int .i64 0), .d (.str ⟨#[]⟩)] [(0, (.t 47)), (1, (.t 48)), (2, (.t 49))]⟩, ⟨some 51, none, .call 5 [(.k (.d (.str ⟨#[116]⟩))), (.t 50)]⟩, ⟨some 52, none, .ld true 3 (.t 1)⟩, ⟨some 53, none, .lit 3 2 [.d (.str ⟨#[]⟩), .nils, .d (.bool false)] [(0, (.t 51)), (1, (.t 52))]⟩, ⟨some 54, none, .lit 1 9 [.nils] [(0, (.k (.nils))), (1, (.t 17)), (2, (.t 20)), (3, (.t 25)), (4, (.t 28)), (5, (.t 32)), (6, (.t 39)), (7, (.t 46)), (8, (.t 53))]⟩, ⟨some 55, none, .len (.t 54)⟩, ⟨some 56, none, .mv (.k (.d (.int .i64 0)))⟩] [(0, 1), (0, 2), (1, 2), (0, 3), (0, 4), (1, 4), (2, 4), (3, 4), (0, 5), (1, 5), (2, 5), (3, 5), (4, 5), (0, 6), (1, 6), (2, 6), (3, 6), (4, 6), (0, 7), (1, 7), (2, 7), (3, 7), (4, 7), (0, 8), (1, 8), (2, 8), (3, 8), (0, 9), (1, 9), (2, 9), (3, 9), (4, 9), (5, 9), (6, 9), (7, 9), (8, 9), (0, 10), (1, 10), (2, 10), (3, 10), (4, 10), (5, 10), (6, 10), (7, 10), (8, 10), (9, 10), (0, 11), (1, 11), (2, 11), (3, 11), (4, 11), (5, 11), (6, 11), (7, 11), (8, 11), (0, 12), (1, 12), (2, 12), (3, 12), (4, 12), (5, 12), (6, 12), (7, 12), (8, 12), (9, 12), (10, 12), (11, 12), (0, 13), (1, 13), (2, 13), (3, 13), (4, 13), (5, 13), (6, 13), (7, 13), (8, 13), (9, 13), (10, 13), (11, 13), (12, 13), (0, 14), (1, 14), (2, 14), (3, 14), (4, 14), (5, 14), (6, 14), (7, 14), (8, 14), (9, 14), (10, 14), (11, 14), (12, 14), (13, 14), (0, 15), (1, 15), (2, 15), (3, 15), (4, 15), (5, 15), (6, 15), (7, 15), (8, 15), (9, 15), (10, 15), (11, 15), (0, 16), (1, 16), (2, 16), (3, 16), (4, 16), (5, 16), (6, 16), (7, 16), (8, 16), (9, 16), (10, 16), (11, 16), (12, 16), (13, 16), (14, 16), (15, 16), (0, 17), (1, 17), (2, 17), (3, 17), (4, 17), (5, 17), (6, 17), (7, 17), (8, 17), (9, 17), (10, 17), (11, 17), (12, 17), (13, 17), (14, 17), (15, 17), (16, 17), (0, 18), (1, 18), (2, 18), (3, 18), (4, 18), (5, 18), (6, 18), (7, 18), (8, 18), (9, 18), (10, 18), (11, 18), (12, 18), (13, 18), (14, 18), (15, 18), (16, 18), (17, 18), (0, 19), (1, 19), (2, 19), (3, 19), (4, 19), (8, 19), (9, 19), (10, 19), (11, 19), (12, 19), (13, 19), (14, 19), (15, 19), (16, 19), (17, 19), (0, 20), (1, 20), (2, 20), (3, 20), (4, 20), (8, 20), (9, 20), (10, 20), (11, 20), (12, 20), (13, 20), (14, 20), (15, 20), (16, 20), (17, 20), (0, 21), (1, 21), (2, 21), (3, 21), (4, 21), (5, 21), (6, 21), (7, 21), (8, 21), (9, 21), (10, 21), (11, 21), (12, 21), (13, 21), (14, 21), (15, 21), (16, 21), (17, 21), (18, 21), (19, 21), (20, 21), (0, 22), (1, 22), (2, 22), (3, 22), (4, 22), (8, 22), (9, 22), (10, 22), (11, 22), (12, 22), (13, 22), (14, 22), (15, 22), (0, 23), (1, 23), (2, 23), (3, 23), (4, 23), (5, 23), (6, 23), (7, 23), (8, 23), (9, 23), (10, 23), (11, 23), (12, 23), (13, 23), (14, 23), (15, 23), (16, 23), (17, 23), (18, 23), (19, 23), (20, 23), (21, 23), (22, 23), (0, 24), (1, 24), (2, 24), (3, 24), (4, 24), (8, 24), (9, 24), (10, 24), (11, 24), (12, 24), (13, 24), (14, 24), (15, 24), (16, 24), (17, 24), (21, 24), (22, 24), (0, 25), (1, 25), (2, 25), (3, 25), (4, 25), (8, 25), (9, 25), (10, 25), (11, 25), (12, 25), (13, 25), (14, 25), (15, 25), (16, 25), (17, 25), (21, 25), (22, 25), (0, 26), (1, 26), (2, 26), (3, 26), (4, 26), (5, 26), (6, 26), (7, 26), (8, 26), (9, 26), (10, 26), (11, 26), (12, 26), (13, 26), (14, 26), (15, 26), (16, 26), (17, 26), (18, 26), (19, 26), (20, 26), (21, 26), (22, 26), (23, 26), (24, 26), (25, 26), (0, 27), (1, 27), (2, 27), (3, 27), (4, 27), (8, 27), (9, 27), (10, 27), (11, 27), (12, 27), (13, 27), (14, 27), (15, 27), (16, 27), (17, 27), (21, 27), (22, 27), (0, 28), (1, 28), (2, 28), (3, 28), (4, 28), (8, 28), (9, 28), (10, 28), (11, 28), (12, 28), (13, 28), (14, 28), (15, 28), (16, 28), (17, 28), (21, 28), (22, 28), (0, 29), (1, 29), (2, 29), (3, 29), (4, 29), (8, 29), (9, 29), (10, 29), (11, 29), (12, 29), (13, 29), (14, 29), (15, 29), (16, 29), (17, 29), (21, 29), (22, 29), (0, 30), (1, 30), (2, 30), (3, 30), (4, 30), (8, 30), (9, 30), (10, 30), (11, 30), (12, 30), (13, 30), (14, 30), (15, 30), (16, 30), (17, 30), (21, 30), (22, 30), (29, 30), (0, 31), (1, 31), (2, 31), (3, 31), (4, 31), (8, 31), (9, 31), (10, 31), (11, 31), (12, 31), (13, 31), (14, 31), (15, 31), (16, 31), (17, 31), (21, 31), (22, 31), (29, 31), (0, 32), (1, 32), (2, 32), (3, 32), (4, 32), (8, 32), (9, 32), (10, 32), (11, 32), (12, 32), (13, 32), (14, 32), (15, 32), (16, 32), (17, 32), (21, 32), (22, 32), (29, 32), (0, 33), (1, 33), (2, 33), (3, 33), (4, 33), (8, 33), (9, 33), (10, 33), (11, 33), (12, 33), (13, 33), (14, 33), (15, 33), (16, 33), (17, 33), (21, 33), (22, 33), (29, 33), (0, 34), (1, 34), (2, 34), (3, 34), (4, 34), (8, 34), (9, 34), (10, 34), (11, 34), (12, 34), (13, 34), (14, 34), (15, 34), (16, 34), (17, 34), (21, 34), (22, 34), (29, 34), (0, 35), (1, 35), (2, 35), (3, 35), (4, 35), (5, 35), (6, 35), (7, 35), (8, 35), (9, 35), (10, 35), (11, 35), (12, 35), (13, 35), (14, 35), (15, 35), (16, 35), (17, 35), (18, 35), (19, 35), (20, 35), (21, 35), (22, 35), (23, 35), (24, 35), (25, 35), (26, 35), (27, 35), (28, 35), (29, 35), (30, 35), (31, 35), (32, 35), (33, 35), (34, 35), (0, 36), (1, 36), (2, 36), (3, 36), (4, 36), (8, 36), (9, 36), (10, 36), (11, 36), (12, 36), (13, 36), (14, 36), (15, 36), (16, 36), (17, 36), (21, 36), (22, 36), (29, 36), (0, 39), (1, 39), (2, 39), (3, 39), (4, 39), (5, 39), (6, 39), (7, 39), (8, 39), (9, 39), (10, 39), (11, 39), (12, 39), (13, 39), (14, 39), (15, 39), (16, 39), (17, 39), (18, 39), (19, 39), (20, 39), (21, 39), (22, 39), (23, 39), (24, 39), (25, 39), (26, 39), (27, 39), (28, 39), (29, 39), (30, 39), (31, 39), (32, 39), (33, 39), (34, 39), (35, 39), (36, 39), (37, 39), (38, 39)])
def z3 : C := (.seq (.reg [⟨some 71, none, .mv (.t 2)⟩, ⟨some 72, none, .lit 1 2 [.d (.int .i64 0)] [(0, (.k (.d (.int .i64 1)))), (1, (.k (.d (.int .i64 1))))]⟩, ⟨some 73, none, .call 6 [(.t 72)]⟩, ⟨some 74, none, .call 12 [(.k (.d (.int .i64 (-1)))), (.t 73)]⟩, ⟨some 75, none, .ixs 3 (.t 71) (.k (.d (.int .i64 0)))⟩, ⟨some 76, none, .fa 2 (.t 75)⟩, ⟨none, none, .st 1 (.t 76) (.t 74)⟩]) (.seq (.reg [⟨some 78, none, .mv (.t 2)⟩, ⟨some 79, none, .ld true 3 (.t 1)⟩, ⟨some 80, none, .lit 3 1 [.d (.str ⟨#[]⟩), .nils, .d (.bool false)] [(0, (.t 79))]⟩, ⟨some 81, none, .call 11 [(.t 78), (.t 80)]⟩, ⟨some 77, none, .mv (.t 81)⟩, ⟨some 82, none, .ext (.t 77) 0⟩, ⟨some 83, none, .ext (.t 77) 1⟩, ⟨some 84, none, .ext (.t 77) 2⟩, ⟨some 85, none, .ext (.t 77) 3⟩, ⟨some 9, none, .mv (.t 82)⟩, ⟨some 10, none, .mv (.t 83)⟩, ⟨some 11, none, .mv (.t 84)⟩, ⟨some 12, none, .mv (.t 85)⟩]) (.seq (.reg [⟨some 86, none, .mv (.t 11)⟩, ⟨some 87, none, .bin .eql 3 (.t 86) (.k (.d (.int .i64 1)))⟩, ⟨some 88, none, .mv (.t 87)⟩, ⟨some 89, some (2, true), .mv (.t 12)⟩, ⟨some 90, none, .pick (.t 88) (.t 89) (.k (.d (.bool false)))⟩, ⟨some 91, none, .mv (.t 90)⟩, ⟨some 92, some (5, true), .call 13 []⟩, ⟨some 93, none, .pick (.t 91) (.t 92) (.k (.d (.bool false)))⟩, ⟨some 0, none, .mv (.t 93)⟩]) .ret)))
theorem v3_eq : v3 = ⟨94, 0, [], [], [.inl 0], .seq a3 (.seq b3 (.seq c3 (.seq (.seq r3 (.blk 0 (.loop 126100789566373894 7 v3_0))) z3)))⟩ := rfl
/-- What a region leaves, at the head of the loop behind it. -/
def afterR (m live : Nat) (r : Option (Ex × Fr)) : Option Fr := match r with
  | some (.norm, s) => some (forget m live s)
  | _ => none
theorem afterR_spec {m live : Nat} {r : Option (Ex × Fr)} {f : Fr} (h : afterR m live r = some f) : ∃ s, r = some (.norm, s) ∧ forget m live s = f := by
  unfold afterR at h
  split at h
  · injection h with h; exact ⟨_, rfl, h⟩
  · cases h
def oneC : Chg := ⟨⟨#[117]⟩, oneR, false⟩
def take7 (b : Int) : Chg := ⟨⟨#[117]⟩, nums2 7 b, true⟩
def lists3 : List (List Chg) := [[], List.replicate 9 ⟨⟨#[]⟩, [], false⟩, [oneC, ⟨⟨#[120]⟩, [], false⟩], [oneC, ⟨⟨#[116]⟩, oneR, false⟩], [oneC, oneC], [oneC, oneC, oneC], [oneC, oneC, take7 7, oneC], [take7 7, take7 8], [⟨⟨#[116]⟩, [num 1, num 1, strV ⟨#[]⟩], false⟩, oneC]]
def lsc (l : List (List Chg)) : List (List D) := l.map fun cs => [.lst (chsc cs)]
theorem lsc_len (l : List (List Chg)) : (lsc l).length = l.length := by simp [lsc]
theorem lsc_get {l : List (List Chg)} {i : Nat} (h : i < l.length) : (lsc l)[i]? = some [.lst (chsc l[i])] := by simp [lsc, h]
@[simp] theorem lsc_getElem (l : List (List Chg)) (i : Nat) (h : i < (lsc l).length) : (lsc l)[i] = [.lst (chsc (l[i]'(by rwa [lsc_len] at h)))] := by simp [lsc]
def fr3s (o : List (List D)) : Fr := ⟨[.d (.bool false), .ptr 1 0 0, .arr 2 0 2, .bot, .bot, .bot, .bot, .bot, .bot, .bot, .bot, .bot, .bot, .arr 0 0 2, .d (.lst oneR.c), .agg [.d (.str ⟨#[117]⟩), .d (.lst oneR.c), .d (.bool false)], .arr 2 0 2, .bot, .bot, .bot, .bot, .bot, .bot, .bot, .bot, .bot, .bot, .bot, .bot, .bot, .bot, .bot, .bot, .bot, .bot, .bot, .bot, .bot, .bot, .bot, .bot, .bot, .bot, .bot, .bot, .bot, .bot, .bot, .bot, .bot, .bot, .bot, .bot, .bot, .bot, .bot, .bot, .bot, .bot, .bot, .bot, .bot, .bot, .bot, .bot, .bot, .bot, .bot, .bot, .bot, .bot, .bot, .bot, .bot, .bot, .bot, .bot, .bot, .bot, .bot, .bot, .bot, .bot, .bot, .bot, .bot, .bot, .bot, .bot, .bot, .bot, .bot, .bot, .bot], [some (.imm 1 [[.int .i64 1], [.int .i64 1]]), some (.box [.d (.str ⟨#[117]⟩), .d (.lst oneR.c), .d (.bool false)]), some (.row 3 o)]⟩
def fr3 (o : List (List D)) (n : Nat) (l : List (List D)) (i : Nat) : Fr := ⟨[.bot, .ptr 0 0 0, .arr 1 0 2, .bot, .bot, .bot, .bot, .bot, .bot, .bot, .bot, .bot, .bot, .bot, .bot, .bot, .bot, .bot, .bot, .bot, .bot, .bot, .bot, .bot, .bot, .bot, .bot, .bot, .bot, .bot, .bot, .bot, .bot, .bot, .bot, .bot, .bot, .bot, .bot, .bot, .bot, .bot, .bot, .bot, .bot, .bot, .bot, .bot, .bot, .bot, .bot, .bot, .bot, .bot, .arr 2 0 n, .d (.int .i64 (n : Nat)), .d (.int .i64 (i : Nat)), .bot, .bot, .bot, .bot, .bot, .bot, .bot, .bot, .bot, .bot, .bot, .bot, .bot, .bot, .bot, .bot, .bot, .bot, .bot, .bot, .bot, .bot, .bot, .bot, .bot, .bot, .bot, .bot, .bot, .bot, .bot, .bot, .bot, .bot, .bot, .bot, .bot], [some (.box [.d (.str ⟨#[117]⟩), .d (.lst oneR.c), .d (.bool false)]), some (.row 3 o), some (.row 1 l)]⟩
def fe3 (o : List (List D)) : Fr := ⟨[.bot, .ptr 0 0 0, .arr 1 0 2, .bot, .bot, .bot, .bot, .bot, .bot, .bot, .bot, .bot, .bot, .bot, .bot, .bot, .bot, .bot, .bot, .bot, .bot, .bot, .bot, .bot, .bot, .bot, .bot, .bot, .bot, .bot, .bot, .bot, .bot, .bot, .bot, .bot, .bot, .bot, .bot, .bot, .bot, .bot, .bot, .bot, .bot, .bot, .bot, .bot, .bot, .bot, .bot, .bot, .bot, .bot, .bot, .bot, .bot, .bot, .bot, .bot, .bot, .bot, .bot, .bot, .bot, .bot, .bot, .bot, .bot, .bot, .bot, .bot, .bot, .bot, .bot, .bot, .bot, .bot, .bot, .bot, .bot, .bot, .bot, .bot, .bot, .bot, .bot, .bot, .bot, .bot, .bot, .bot, .bot, .bot], [some (.box [.d (.str ⟨#[117]⟩), .d (.lst oneR.c), .d (.bool false)]), some (.row 3 o)]⟩
theorem reg3 (P : Program) (E : Env) (d : Nat) (o : List (List D)) : afterR 0 126100789566373894 (exec P (run P E T (d + 107)) (refsOf T) 0 r3 (fr3s o)) = some (fr3 o 9 (lsc lists3) 0) := by kernel_rfl
attribute [local irreducible] IntKind.wrap Go.Fl.fl tnD
variable {P : Program} {E : Env}
set_option maxHeartbeats 16000000 in
theorem rounds3 (P : Program) (E : Env) (d : Nat) (o : List (List D)) (l : List (List Chg)) (hl : l.length ≤ 1000) (h11 : ∀ cs ∈ l, ∃ a b e, run P E T (d + 107) 11 [.arr 0 0 2, .d (.lst (chsc cs))] [some (.row 3 o)] = some (.tup [.d a, .d b, .d (.int .i64 e), .d (.bool true)], [some (.row 3 o)])) : ∀ (m i f : Nat), m = l.length - i → i ≤ l.length → m < f →
    rounds (exec P (run P E T (d + 107)) (refsOf T) 0 v3_0) (forget 0 126100789566373894) (forget 0 7) f (fr3 o l.length (lsc l) i) = some (.exit 0, fe3 o) := by
  intro m
  induction m with
  | zero =>
    intro i f hm hi hf
    obtain ⟨f, rfl⟩ : ∃ f', f = f' + 1 := ⟨f - 1, by omega⟩
    have : i = l.length := by omega
    subst this
    rw [rounds]
    simp -implicitDefEqProofs [exB v3_0.eq_1, fr3, fe3, callX, callIds, frzArgs, passArgs, List.range_succ, List.idxOf?_cons, -forget, mask3a, mask3b]
  | succ m ih =>
    intro i f hm hi hf
    obtain ⟨f, rfl⟩ : ∃ f', f = f' + 1 := ⟨f - 1, by omega⟩
    have hlt : i < l.length := by omega
    have hI : (i : Int) < l.length := by omega
    have hx := lsc_get hlt
    have hw : IntKind.i64.wrap ((i : Int) + 1) = (i : Int) + 1 := wrap_small (by omega) (by omega)
    obtain ⟨a, b, e, h⟩ := h11 _ (List.getElem_mem hlt)
    rw [← ih (i + 1) f (by omega) (by omega) (by omega), rounds]
    clear ih h11
    generalize hce : l[i] = cs at *
    simp -implicitDefEqProofs [exB v3_0.eq_1, fr3, lsc_len, hlt, hI, hx, hce, hw, h, S_11, callX, callIds, frzArgs, passArgs, List.range_succ, List.idxOf?_cons, -forget, mask3a, mask3b]
def hB3 : Fr := ⟨[.d (.bool false), .ptr 1 0 0, .bot, .bot, .bot, .bot, .bot, .bot, .bot, .bot, .bot, .bot, .bot, .arr 0 0 2, .d (.lst oneR.c), .agg [.d (.str ⟨#[117]⟩), .d (.lst oneR.c), .d (.bool false)], .bot, .bot, .bot, .bot, .bot, .bot, .bot, .bot, .bot, .bot, .bot, .bot, .bot, .bot, .bot, .bot, .bot, .bot, .bot, .bot, .bot, .bot, .bot, .bot, .bot, .bot, .bot, .bot, .bot, .bot, .bot, .bot, .bot, .bot, .bot, .bot, .bot, .bot, .bot, .bot, .bot, .bot, .bot, .bot, .bot, .bot, .bot, .bot, .bot, .bot, .bot, .bot, .bot, .bot, .bot, .bot, .bot, .bot, .bot, .bot, .bot, .bot, .bot, .bot, .bot, .bot, .bot, .bot, .bot, .bot, .bot, .bot, .bot, .bot, .bot, .bot, .bot, .bot], [some (.imm 1 [[.int .i64 1], [.int .i64 1]]), some (.box [.d (.str ⟨#[117]⟩), .d (.lst oneR.c), .d (.bool false)])]⟩
theorem b3_run (P : Program) (E : Env) (d : Nat) : exec P (run P E T (d + 107)) (refsOf T) 0 b3 ⟨[.d (.bool false), .bot, .bot, .bot, .bot, .bot, .bot, .bot, .bot, .bot, .bot, .bot, .bot, .bot, .bot, .bot, .bot, .bot, .bot, .bot, .bot, .bot, .bot, .bot, .bot, .bot, .bot, .bot, .bot, .bot, .bot, .bot, .bot, .bot, .bot, .bot, .bot, .bot, .bot, .bot, .bot, .bot, .bot, .bot, .bot, .bot, .bot, .bot, .bot, .bot, .bot, .bot, .bot, .bot, .bot, .bot, .bot, .bot, .bot, .bot, .bot, .bot, .bot, .bot, .bot, .bot, .bot, .bot, .bot, .bot, .bot, .bot, .bot, .bot, .bot, .bot, .bot, .bot, .bot, .bot, .bot, .bot, .bot, .bot, .bot, .bot, .bot, .bot, .bot, .bot, .bot, .bot, .bot, .bot], []⟩ = some (.norm, hB3) := by
  have h6 : run P E T (d + 107) 6 [.d (.lst [[.int .i64 1], [.int .i64 1]])] [] = some (.d (.lst oneR.c), []) := nums_run P E (d + 105) 1 1
  have h5 : run P E T (d + 107) 5 [.d (.str ⟨#[117]⟩), .d (.lst oneR.c)] [] = some (.agg [.d (.str ⟨#[117]⟩), .d (.lst oneR.c), .d (.bool false)], []) := keepPut_run P E (d + 106) ⟨#[117]⟩ oneR
  generalize hg : oneR.c = r at *
  unfold hB3
  rw [hg]
  simp -implicitDefEqProofs [b3, h6, h5, S_6, S_5, toImm, callX, callIds, frzArgs, passArgs, List.range_succ, List.idxOf?_cons, -forget, mask3a, mask3b]
theorem c3_run (g : Good P E) (d : Nat) : exec P (run P E T (d + 107)) (refsOf T) 0 c3 hB3 = some (.norm, fr3s [tabc (tabU 62 []), tabc (tabT [])]) := by
  have h7 : run P E T (d + 107) 7 [.d (.int .i64 62), .d (.lst [])] [] = some (.arr 0 0 2, [some (.row 3 [tabc (tabU 62 []), tabc (tabT [])])]) := tables_run g (d + 101) 62 (by omega) []
  generalize [tabc (tabU 62 []), tabc (tabT [])] = o at *
  unfold hB3 fr3s
  generalize oneR.c = r at *
  simp -implicitDefEqProofs [c3, h7, S_7, callX, callIds, frzArgs, passArgs, List.range_succ, List.idxOf?_cons, -forget, mask3a, mask3b]
theorem z3_run (g : Good P E) (d : Nat) (x y : List D) (hx : x = tabc (tabU 62 [])) (hy : y = tabc (tabT [])) : ∃ s, exec P (run P E T (d + 107)) (refsOf T) 0 z3 (fe3 [x, y]) = some (.ret, s) ∧ finish v3 0 s = some (.d (.bool true), []) := by
  have h6 : run P E T (d + 107) 6 [.d (.lst [[.int .i64 1], [.int .i64 1]])] [] = some (.d (.lst oneR.c), []) := nums_run P E (d + 105) 1 1
  have h12 : run P E T (d + 107) 12 [.d (.int .i64 (-1)), .d (.lst oneR.c)] [] = some (.d (.lst (setc badS)), []) := keepOneM_run g (d + 106) (-1) (by omega) (by omega) oneR
  have h11 := fun cs => bothBad g d [] cs
  have h13 := known_run g d
  subst hy
  have hxx : x = [.str ⟨#[117]⟩, .lst (colsc colsU), .lst (setc (tabU 62 []).rows)] := by rw [hx]; unfold tabc tabU; rw [nm_u]
  have hb : tabc tabB = [.str ⟨#[117]⟩, .lst (colsc colsU), .lst (setc badS)] := by unfold tabc tabB; rw [nm_u]
  clear hx
  subst hxx
  rw [hb] at h11
  generalize tabc (tabT []) = y at *
  unfold fe3
  generalize setc (tabU 62 []).rows = rr at *
  generalize setc badS = bs at *
  generalize oneR.c = r at *
  simp -implicitDefEqProofs [z3, v3_eq, h6, h12, h11, h13, S_6, S_12, S_11, S_13, callX, callIds, frzArgs, passArgs, List.range_succ, List.idxOf?_cons, -forget, mask3a, mask3b]
theorem batchNumbers_run (g : Good P E) (cp : Cmp P) (d : Nat) : run P E T (d + 108) 3 [] [] = some (.d (.bool true), []) := by
  rw [run_succ _ _ _ _ _ _ _ _ T_3]
  have hst := (tabs_st 62 (by omega) []).mono (show (400 : Int) ≤ 500 by omega)
  obtain ⟨s1, e1, e2⟩ := afterR_spec (reg3 P E d [tabc (tabU 62 []), tabc (tabT [])])
  have hloop := rounds3 P E d [tabc (tabU 62 []), tabc (tabT [])] lists3 (by simp [lists3]) (fun cs hcs => by
    have hlen : cs.length ≤ 400 ∧ ∀ c ∈ cs, c.r.length ≤ 1000 := by
      have hall : lists3.all (fun cs => decide (cs.length ≤ 400) && cs.all fun c => decide (c.r.length ≤ 1000)) = true := by decide +kernel
      have := List.all_eq_true.mp hall cs hcs
      simp only [Bool.and_eq_true, decide_eq_true_eq, List.all_eq_true] at this
      exact this
    exact ⟨_, _, _, both_run g cp d (tabU 62 []) (tabT []) hst cs hlen.1 hlen.2 (right31 g 62 (by omega) []) (right39 g 62 (by omega) [])⟩) 9 0 LOOPS rfl (by simp [lists3]) (by unfold LOOPS; omega)
  have hl9 : lists3.length = 9 := rfl
  rw [hl9] at hloop
  have hA : exec P (run P E T (d + 107)) (refsOf T) 0 a3 ⟨List.replicate 94 .bot, []⟩ = some (.norm, ⟨[.d (.bool false), .bot, .bot, .bot, .bot, .bot, .bot, .bot, .bot, .bot, .bot, .bot, .bot, .bot, .bot, .bot, .bot, .bot, .bot, .bot, .bot, .bot, .bot, .bot, .bot, .bot, .bot, .bot, .bot, .bot, .bot, .bot, .bot, .bot, .bot, .bot, .bot, .bot, .bot, .bot, .bot, .bot, .bot, .bot, .bot, .bot, .bot, .bot, .bot, .bot, .bot, .bot, .bot, .bot, .bot, .bot, .bot, .bot, .bot, .bot, .bot, .bot, .bot, .bot, .bot, .bot, .bot, .bot, .bot, .bot, .bot, .bot, .bot, .bot, .bot, .bot, .bot, .bot, .bot, .bot, .bot, .bot, .bot, .bot, .bot, .bot, .bot, .bot, .bot, .bot, .bot, .bot, .bot, .bot], []⟩) := rfl
  have hB := b3_run P E d
  have hC := c3_run g d
  obtain ⟨s2, z1, z2⟩ := z3_run g d _ _ rfl rfl
  generalize [tabc (tabU 62 []), tabc (tabT [])] = o at *
  have hbody : exec P (run P E T (d + 107)) (refsOf T) 0 v3.body ⟨List.replicate 94 .bot, []⟩ = some (.ret, s2) := by
    rw [v3_eq]
    show exec P (run P E T (d + 107)) (refsOf T) 0 (.seq a3 (.seq b3 (.seq c3 (.seq (.seq r3 (.blk 0 (.loop 126100789566373894 7 v3_0))) z3)))) _ = _
    have hblk : exec P (run P E T (d + 107)) (refsOf T) 0 (.blk 0 (.loop 126100789566373894 7 v3_0)) s1 = some (.norm, fe3 o) := by
      rw [exec.eq_6, exec.eq_7, e2, hloop]
      rfl
    rw [exec.eq_4, hA]
    dsimp only
    rw [exec.eq_4, hB]
    dsimp only
    rw [exec.eq_4, hC]
    dsimp only
    rw [exec.eq_4, exec.eq_4, e1]
    dsimp only
    rw [hblk]
    dsimp only
    exact z1
  unfold runF
  rw [if_neg (by decide)]
  have he : ([] : List V) ++ List.replicate (v3.ntmps - v3.nargs) V.bot = List.replicate 94 V.bot := rfl
  rw [he, List.length_nil, hbody]
  exact z2
end Go.Vm.B
