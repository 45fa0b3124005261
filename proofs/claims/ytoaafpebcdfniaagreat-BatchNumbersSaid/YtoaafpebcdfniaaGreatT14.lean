/- A part of the proofs of the statements BatchTells and BatchNumbers: C21, C22, C23, C24, C25, C26, C27, C28, C29, C30, C31, C32. Conditions: none of its own. -/
import Derived.Test.YtoaafpebcdfniaaGreatT13
set_option linter.unusedSimpArgs false
set_option linter.unusedVariables false
set_option linter.unnecessarySimpa false
set_option linter.all false
set_option maxRecDepth 100000
namespace Go.Vm.B
open Go.Fl
attribute [local irreducible] IntKind.wrap Go.Fl.fl tnD
variable {P : Program} {E : Env}

theorem rounds_L (b : Fr → Option (Ex × Fr)) (h t : Fr → Fr) (s : Fr) : rounds b h t LOOPS s = match b s with
    | some (.norm, s') => rounds b h t 4611686018427387903 (h s')
    | some (e, s') => some (e, t s')
    | none => none := by rw [show LOOPS = 4611686018427387903 + 1 from rfl, rounds]; rfl
set_option maxHeartbeats 4000000 in
theorem refMake_run (g : Good P E) (d : Nat) (s : Set) (h : IT s) (hs : asum s ≤ 1125899906842624) (hsl : s.length ≤ 4294967294) : run P E T (d + 5) 18 [.d (.lst (setc s))] [] = some (.tup [.d (.lst (setc (mkS s))), .d (.int .i64 0)], []) := by
  rw [run_succ _ _ _ _ _ _ _ _ T_18]
  have h0 : ((0 : Nat) : Int) = 0 := rfl
  have hA : rounds (exec P (run P E T (d + 4)) (refsOf T) 0 v18_0) _ _ _ _ = _ := rounds18a g (d + 2) s h _ 0 LOOPS rfl (by omega) (by unfold LOOPS; omega)
  have hC := rounds18c g d s h hs hsl _ 0 LOOPS rfl (by omega) (by unfold LOOPS; omega)
  obtain ⟨i1, i2, i3⟩ := insAll_inv s h.right
  simp only [fr18a, fe18a] at hA
  rw [h0] at hA
  rw [List.take_zero, show setc (insAll []) = [] from rfl] at hC
  simp only [fr18c, fe18c, accV, accS, if_true] at hC
  rw [h0] at hC
  unfold mkS
  by_cases he : insAll s = []
  · rw [he] at hC ⊢
    rw [show setc ([] : Set) = [] from rfl] at hC
    simp only [if_true] at hC
    rw [show setc (nzS []) = [] from rfl]
    simp -implicitDefEqProofs [v18, hA, hC, rounds_L, exB v18_3.eq_1]
  · have hD := rounds18d (P := P) (E := E) (d + 4) (insAll s) (fun y hy => by have := asum_mem hy; omega) (by omega) he _ 0 LOOPS rfl (by omega) (by unfold LOOPS; omega)
    have h1 : ¬ setc (insAll s) = [] := by unfold setc; simpa using he
    have hn := setc_len (insAll s)
    rw [List.take_zero, show setc (nzS []) = [] from rfl] at hD
    simp only [fr18d, fe18d, accV, accS, acc2S, if_true] at hD
    rw [h0] at hD
    rw [if_neg h1, if_neg h1, hn] at hC
    have hyl : (setc (nzS (insAll s))).length ≤ 4294967296 := by
      rw [setc_len]; unfold nzS
      have := List.length_filter_le (fun x : Row × Int => !decide (x.2 = 0)) (insAll s)
      omega
    generalize setc (nzS (insAll s)) = ys at *
    have htk : List.take ys.length ys = ys := List.take_length
    by_cases hy : ys = []
    · simp -implicitDefEqProofs [v18, hA, hC, hD, hy]
    · simp -implicitDefEqProofs [v18, hA, hC, hD, hy, htk]
set_option maxHeartbeats 4000000 in
theorem refAdd_run (g : Good P E) (d : Nat) (a b : Set) (h : IT (a ++ b)) (hs : asum (a ++ b) ≤ 1125899906842624) (hsl : (a ++ b).length ≤ 4294967294) : run P E T (d + 6) 44 [.d (.lst (setc a)), .d (.lst (setc b))] [] = some (.tup [.d (.lst (setc (mkS (a ++ b)))), .d (.int .i64 0)], []) := by
  rw [run_succ _ _ _ _ _ _ _ _ T_44]
  have hm := refMake_run g d (a ++ b) h hs hsl
  have e : setc (a ++ b) = setc a ++ setc b := by unfold setc; simp
  have hba := bad2 a
  have hbb := bad2 b
  rw [e] at hm
  have hl : (setc a).length + (setc b).length ≤ 4294967294 := by rw [setc_len, setc_len]; simpa using hsl
  generalize setc (mkS (a ++ b)) = z at *
  generalize setc a = xs at *
  generalize setc b = ys at *
  have e1 : xs.length + ys.length ≤ 4294967296 := by omega
  have e2 : xs.length ≤ 4294967296 := by omega
  have e3 : ys.length ≤ 4294967296 := by omega
  by_cases h1 : xs = []
  · subst h1
    simp only [List.nil_append] at hm
    by_cases h2 : ys = []
    · subst h2
      simp -implicitDefEqProofs [v44, -callX_plain, callX, callIds, frzArgs, passArgs, hm, S_18]
    · simp -implicitDefEqProofs [v44, -callX_plain, callX, callIds, frzArgs, passArgs, hm, h2, hbb, e3, S_18]
  · by_cases h2 : ys = []
    · subst h2
      simp only [List.append_nil] at hm
      simp -implicitDefEqProofs [v44, -callX_plain, callX, callIds, frzArgs, passArgs, hm, h1, hba, e2, S_18]
    · have htk : List.take (xs.length + ys.length) (xs ++ ys) = xs ++ ys := List.take_of_length_le (by simp)
      simp -implicitDefEqProofs [v44, -callX_plain, callX, callIds, frzArgs, passArgs, hm, h1, h2, hba, hbb, e1, e2, e3, htk, S_18]
end Go.Vm.B
namespace Go.Vm.B
open Go.Fl
attribute [local irreducible] IntKind.wrap Go.Fl.fl tnD
variable {P : Program} {E : Env}

theorem rounds_L1 (b : Fr → Option (Ex × Fr)) (h t : Fr → Fr) (s : Fr) : rounds b h t 4611686018427387903 s = match b s with
    | some (.norm, s') => rounds b h t 4611686018427387902 (h s')
    | some (e, s') => some (e, t s')
    | none => none := by rw [show 4611686018427387903 = 4611686018427387902 + 1 from rfl, rounds]; rfl
theorem rounds_L2 (b : Fr → Option (Ex × Fr)) (h t : Fr → Fr) (s : Fr) : rounds b h t 4611686018427387902 s = match b s with
    | some (.norm, s') => rounds b h t 4611686018427387901 (h s')
    | some (e, s') => some (e, t s')
    | none => none := by rw [show 4611686018427387902 = 4611686018427387901 + 1 from rfl, rounds]; rfl
theorem wrap1 : IntKind.i64.wrap 1 = 1 := wrap_small (by omega) (by omega)
theorem wrap2 : IntKind.i64.wrap 2 = 2 := wrap_small (by omega) (by omega)
structure Tab where
  n : ByteArray
  cols : List Col
  rows : Set
def tabc (x : Tab) : List D := [.str x.n, .lst (colsc x.cols), .lst (setc x.rows)]
def defc (x : Tab) : List D := [.str x.n, .lst (colsc x.cols)]
theorem badc (cs : List Col) : (∃ x, x ∈ colsc cs ∧ ¬ x.length = 2) = False := by
  simp only [eq_iff_iff, iff_false, not_exists, not_and, Decidable.not_not]
  intro x hx
  obtain ⟨y, hy, rfl⟩ := List.mem_map.1 hx
  rfl
theorem cloneCols_run (P : Program) (E : Env) (d : Nat) (cs : List Col) (h : cs ≠ []) (hl : cs.length ≤ 4294967296) : run P E T (d + 1) 58 [.d (.lst (colsc cs))] [] = some (.d (.lst (colsc cs)), []) := by
  rw [run_succ _ _ _ _ _ _ _ _ T_58]
  have h1 : colsc cs ≠ [] := by unfold colsc; simpa using h
  have h2 := badc cs
  have h4 : List.take cs.length (colsc cs) = colsc cs := List.take_of_length_le (by rw [colsc_len]; exact Nat.le_refl _)
  simp -implicitDefEqProofs [v58, h1, h2, h4, hl, colsc_len, h]
set_option maxHeartbeats 4000000 in
theorem defs_run (P : Program) (E : Env) (d : Nat) (x y : Tab) (hx : x.cols ≠ [] ∧ x.cols.length ≤ 4294967296) (hy : y.cols ≠ [] ∧ y.cols.length ≤ 4294967296) : run P E T (d + 2) 53 [.d (.lst [tabc x, tabc y])] [] = some (.d (.lst [defc x, defc y]), []) := by
  rw [run_succ _ _ _ _ _ _ _ _ T_53]
  have h1 := cloneCols_run P E d x.cols hx.1 hx.2
  have h2 := cloneCols_run P E d y.cols hy.1 hy.2
  simp -implicitDefEqProofs [v53, tabc, defc, rounds_L, rounds_L1, rounds_L2, exB v53_0.eq_1, h1, h2, wrap1, wrap2, anyX, opsT.eq_1, opsT.eq_2, clear, Tr.meets, Tr.foot]
set_option maxHeartbeats 4000000 in
theorem refDefs_run (P : Program) (E : Env) (d : Nat) (x y : Tab) : run P E T (d + 1) 73 [.d (.lst [tabc x, tabc y])] [] = some (.d (.lst [defc x, defc y]), []) := by
  rw [run_succ _ _ _ _ _ _ _ _ T_73]
  simp -implicitDefEqProofs [v73, tabc, defc, rounds_L, rounds_L1, rounds_L2, exB v73_0.eq_1, wrap1, wrap2, anyX, opsT.eq_1, opsT.eq_2, clear, Tr.meets, Tr.foot]
end Go.Vm.B
namespace Go.Vm.B
open Go.Fl
attribute [local irreducible] IntKind.wrap Go.Fl.fl tnD
variable {P : Program} {E : Env}

set_option maxHeartbeats 4000000 in
theorem copied_run (P : Program) (E : Env) (d : Nat) (x y : Tab) (hx : x.cols ≠ [] ∧ x.cols.length ≤ 4294967296) (hy : y.cols ≠ [] ∧ y.cols.length ≤ 4294967296) (gx : GS x.rows) (gy : GS y.rows) : run P E T (d + 4) 32 [.arr 0 0 2] [some (.row 3 [tabc x, tabc y])] = some (.arr 1 0 2, [some (.row 3 [tabc x, tabc y]), some (.row 3 [tabc x, tabc y])]) := by
  rw [run_succ _ _ _ _ _ _ _ _ T_32]
  have h1 : run P E T (d + 3) 58 _ _ = _ := cloneCols_run P E (d + 2) x.cols hx.1 hx.2
  have h2 : run P E T (d + 3) 58 _ _ = _ := cloneCols_run P E (d + 2) y.cols hy.1 hy.2
  have h3 := copy_run P E d x.rows gx
  have h4 := copy_run P E d y.rows gy
  simp -implicitDefEqProofs [v32, tabc, rounds_L, rounds_L1, rounds_L2, exB v32_0.eq_1, h1, h2, h3, h4, wrap1, wrap2, anyX, opsT.eq_1, opsT.eq_2, clear, Tr.meets, Tr.foot, List.idxOf?_cons, List.range_succ]
set_option maxHeartbeats 4000000 in
theorem in_run (P : Program) (E : Env) (d : Nat) (x y : Tab) : run P E T (d + 1) 21 [.arr 0 0 2] [some (.row 3 [tabc x, tabc y])] = some (.d (.lst [tabc x, tabc y]), [some (.row 3 [tabc x, tabc y])]) := by
  rw [run_succ _ _ _ _ _ _ _ _ T_21]
  simp -implicitDefEqProofs [v21, tabc, rounds_L, rounds_L1, rounds_L2, exB v21_0.eq_1, wrap1, wrap2, anyX, opsT.eq_1, opsT.eq_2, clear, Tr.meets, Tr.foot, List.idxOf?_cons, List.range_succ]
end Go.Vm.B
namespace Go.Vm.B
open Go.Fl
attribute [local irreducible] IntKind.wrap Go.Fl.fl tnD
variable {P : Program} {E : Env}

/-- A table as it may be. -/
structure TB (x : Tab) : Prop where
  cols : x.cols ≠ [] ∧ x.cols.length ≤ 6
  gs : GS x.rows
  plain : plainS x.rows
  fit : ∀ r ∈ x.rows, fits x.cols r.1 = true
  tot : tot x.rows ≤ 1000000
def fr39 (a : V) (j k : Nat) : Fr := ⟨[a, .bot, .bot, .d (.int .i64 j), .d (.int .i64 k), .bot, .bot, .bot, .bot, .bot, .bot, .bot, .bot, .bot, .bot, .bot, .bot, .bot, .bot, .bot, .bot, .bot, .bot, .bot, .bot, .bot, .bot, .bot, .bot, .bot, .bot, .bot, .bot, .bot, .bot, .bot, .bot, .bot, .bot, .bot, .bot, .bot, .bot, .bot, .bot, .bot, .bot, .bot], []⟩
def fe39 (a : V) (j : Nat) : Fr := ⟨[a, .bot, .bot, .d (.int .i64 j), .bot, .bot, .bot, .bot, .bot, .bot, .bot, .bot, .bot, .bot, .bot, .bot, .bot, .bot, .bot, .bot, .bot, .bot, .bot, .bot, .bot, .bot, .bot, .bot, .bot, .bot, .bot, .bot, .bot, .bot, .bot, .bot, .bot, .bot, .bot, .bot, .bot, .bot, .bot, .bot, .bot, .bot, .bot, .bot], []⟩
set_option maxHeartbeats 4000000 in
theorem rounds39 (g : Good P E) (d : Nat) (tabs : List (List D)) (j : Nat) (z : Tab) (hz : tabs[j]? = some (tabc z)) (h : TB z) : ∀ (m k f : Nat), m = z.rows.length - k → k ≤ z.rows.length → m < f →
    rounds (exec P (run P E T (d + 2)) (refsOf T) 0 v39_0) (forget 0 25) (forget 0 13) f (fr39 (.d (.lst tabs)) j k) = some (.exit 2, fe39 (.d (.lst tabs)) j) := by
  intro m
  have hsl := h.gs.len
  have hjl : j < tabs.length := by
    rcases Nat.lt_or_ge j tabs.length with h | h
    · exact h
    · rw [List.getElem?_eq_none h] at hz; cases hz
  have hzz : tabs[j] = tabc z := by rw [List.getElem?_eq_getElem hjl] at hz; injection hz
  have hzz' : tabs[j] = [.str z.n, .lst (colsc z.cols), .lst (setc z.rows)] := hzz
  induction m with
  | zero =>
    intro k f hm hk hf
    obtain ⟨f, rfl⟩ : ∃ f', f = f' + 1 := ⟨f - 1, by omega⟩
    have : k = z.rows.length := by omega
    subst this
    rw [rounds]
    simp -implicitDefEqProofs [exB v39_0.eq_1, fr39, fe39, setc_len, hz, hzz', hjl]
  | succ m ih =>
    intro k f hm hk hf
    obtain ⟨f, rfl⟩ : ∃ f', f = f' + 1 := ⟨f - 1, by omega⟩
    have hlt : k < z.rows.length := by omega
    have hx := setc_get hlt
    have hmm := List.getElem_mem hlt
    have hr := right_len (h.gs.right _ hmm)
    have hc : run P E T (d + 2) 40 _ _ = _ := refFits_run P E d z.cols z.rows[k].1 (by omega)
    rw [h.fit _ hmm] at hc
    have hw : IntKind.i64.wrap ((k : Int) + 1) = (k : Int) + 1 := wrap_small (by omega) (by omega)
    rw [rounds, ← ih (k + 1) f (by omega) (by omega) (by omega)]
    generalize hxe : z.rows[k] = x at *
    simp -implicitDefEqProofs [exB v39_0.eq_1, fr39, fe39, setc_len, hz, hzz', hjl, hlt, hx, hxe, itc, hc, hw]
set_option maxHeartbeats 4000000 in
theorem rTabs_run (g : Good P E) (d : Nat) (x y : Tab) (tx : TB x) (ty : TB y) (hd : ∀ d, run P E T (d + 4) 72 [.d (.lst [defc x, defc y])] [] = some (.d (.int .i64 0), [])) : run P E T (d + 6) 39 [.d (.lst [tabc x, tabc y])] [] = some (.d (.bool true), []) := by
  rw [run_succ _ _ _ _ _ _ _ _ T_39]
  have h0 : ((0 : Nat) : Int) = 0 := rfl
  have h1i : ((1 : Nat) : Int) = 1 := rfl
  have h1 : run P E T (d + 5) 73 _ _ = _ := refDefs_run P E (d + 4) x y
  have h2 : run P E T (d + 5) 72 _ _ = _ := hd (d + 1)
  have h3 := rPlain_run g d x.rows tx.gs tx.plain
  have h4 := rPlain_run g d y.rows ty.gs ty.plain
  have h5 : rounds (exec P (run P E T (d + 5)) (refsOf T) 0 v39_0) _ _ _ _ = _ := rounds39 g (d + 3) [tabc x, tabc y] 0 x rfl tx _ 0 LOOPS rfl (by omega) (by have := tx.gs.len; unfold LOOPS; omega)
  have h6 : rounds (exec P (run P E T (d + 5)) (refsOf T) 0 v39_0) _ _ _ _ = _ := rounds39 g (d + 3) [tabc x, tabc y] 1 y rfl ty _ 0 LOOPS rfl (by omega) (by have := ty.gs.len; unfold LOOPS; omega)
  simp only [fr39, fe39, tabc] at h5 h6
  simp only [tabc, defc] at h1 h2
  rw [h0] at h5 h6
  rw [h1i] at h6
  have r1 := fun fr => rounds_L (exec P (run P E T (d + 5)) (refsOf T) 0 v39_1) (forget 0 9) (forget 0 4) fr
  have r2 := fun fr => rounds_L1 (exec P (run P E T (d + 5)) (refsOf T) 0 v39_1) (forget 0 9) (forget 0 4) fr
  have r3 := fun fr => rounds_L2 (exec P (run P E T (d + 5)) (refsOf T) 0 v39_1) (forget 0 9) (forget 0 4) fr
  simp -implicitDefEqProofs [v39, tabc, h1, h2, h3, h4, h5, h6, r1, r2, r3, exB v39_1.eq_1, wrap1, wrap2]
end Go.Vm.B
namespace Go.Vm.B
open Go.Fl
attribute [local irreducible] IntKind.wrap Go.Fl.fl tnD
variable {P : Program} {E : Env}

theorem r56 (P : Program) (E : Env) (d : Nat) (z : Tab) (x : Row × Int) (hl : x.1.length < 4611686018427387904) : run P E T (d + 3) 56 [itv x, .ptr 0 0 0] [some (.box [.d (.str z.n), .d (.lst (colsc z.cols)), .d (.lst (setc z.rows))])] = some (.d (.bool !fits z.cols x.1), [some (.box [.d (.str z.n), .d (.lst (colsc z.cols)), .d (.lst (setc z.rows))])]) := by
  rw [run_succ _ _ _ _ _ _ _ _ T_56]
  have h := fits_run P E d z.cols x.1 hl
  have e : (itv x) = .agg [.d (.lst x.1.c), .d (tnD x.2)] := rfl
  rw [e]
  have hk := gc_keep (cells := [.str z.n, .lst (colsc z.cols), .lst (setc z.rows)])
  simp only [List.map_cons, List.map_nil] at hk
  generalize fits z.cols x.1 = b at *
  simp -implicitDefEqProofs [v56, h, hk]
theorem r55B (P : Program) (E : Env) (d : Nat) (z : Tab) (h : TB z) : run P E T (d + 5) 55 [.d (.lst (setc z.rows)), .clo 56 [] [.ptr 0 0 0]] [some (.box [.d (.str z.n), .d (.lst (colsc z.cols)), .d (.lst (setc z.rows))])] = some (.d (.bool false), [some (.box [.d (.str z.n), .d (.lst (colsc z.cols)), .d (.lst (setc z.rows))])]) := by
  have hg : ∀ x ∈ setc z.rows, callX (run P E T (d + 3)) (refsOf T 56) 56 [.agg (x.map V.d), .ptr 0 0 0] [some (.box (([.str z.n, .lst (colsc z.cols), .lst (setc z.rows)] : List D).map V.d))] 1 = some (.d (.bool false), [(0, some (.box (([.str z.n, .lst (colsc z.cols), .lst (setc z.rows)] : List D).map V.d)))]) := by
    intro x hx
    obtain ⟨y, hy, rfl⟩ := List.mem_map.1 hx
    have hr := right_len (h.gs.right _ hy)
    have h1 := r56 P E d z y (by omega)
    rw [h.fit y hy] at h1
    simp only [itv, tn, Bool.not_true] at h1
    simp -implicitDefEqProofs [callX, callIds, frzArgs, passArgs, itc, h1, S_56, List.idxOf?_cons]
  have hl2 : ∀ x ∈ setc z.rows, x.length = 2 := by
    intro x hx
    obtain ⟨y, hy, rfl⟩ := List.mem_map.1 hx
    rfl
  have h83 := ixB_run P E (d + 3) (N := 83) (s := 2) (by rw [T_83, ix83]) 56 (fun _ => false) (setc z.rows) [.str z.n, .lst (colsc z.cols), .lst (setc z.rows)] hl2 (by rw [setc_len]; have := h.gs.len; omega) hg (by decide)
  rw [ixFrom_none _ _ _ (fun _ _ => rfl)] at h83
  simp only [List.map_cons, List.map_nil] at h83
  have hk := gc_keep (cells := [.str z.n, .lst (colsc z.cols), .lst (setc z.rows)])
  simp only [List.map_cons, List.map_nil] at hk
  rw [run_succ _ _ _ _ _ _ _ _ T_55]
  simp -implicitDefEqProofs [v55, -callX_plain, callX, callIds, frzArgs, passArgs, h83, hk, S_83, List.idxOf?_cons]
end Go.Vm.B
namespace Go.Vm.B
open Go.Fl
attribute [local irreducible] IntKind.wrap Go.Fl.fl tnD
variable {P : Program} {E : Env}

set_option maxHeartbeats 4000000 in
theorem tabs_run (g : Good P E) (d : Nat) (x y : Tab) (tx : TB x) (ty : TB y) (hd : ∀ d, run P E T (d + 9) 52 [.d (.lst [defc x, defc y])] [] = some (.d (.int .i64 0), [])) : run P E T (d + 10) 31 [.d (.lst [tabc x, tabc y])] [] = some (.d (.bool true), []) := by
  rw [run_succ _ _ _ _ _ _ _ _ T_31]
  have h1 : run P E T (d + 9) 53 _ _ = _ := defs_run P E (d + 7) x y ⟨tx.cols.1, by have := tx.cols.2; omega⟩ ⟨ty.cols.1, by have := ty.cols.2; omega⟩
  have h2 : run P E T (d + 9) 52 _ _ = _ := hd d
  have h3 := zPlain_run g d x.rows tx.gs tx.plain
  have h4 := zPlain_run g d y.rows ty.gs ty.plain
  have h5 : run P E T (d + 9) 55 _ _ = _ := r55B P E (d + 4) x tx
  have h6 : run P E T (d + 9) 55 _ _ = _ := r55B P E (d + 4) y ty
  simp only [tabc, defc] at h1 h2
  have r1 := fun fr => rounds_L (exec P (run P E T (d + 9)) (refsOf T) 0 v31_0) (forget 0 3584) (forget 0 4) fr
  have r2 := fun fr => rounds_L1 (exec P (run P E T (d + 9)) (refsOf T) 0 v31_0) (forget 0 3584) (forget 0 4) fr
  have r3 := fun fr => rounds_L2 (exec P (run P E T (d + 9)) (refsOf T) 0 v31_0) (forget 0 3584) (forget 0 4) fr
  simp -implicitDefEqProofs [v31, tabc, h1, h2, h3, h4, h5, h6, r1, r2, r3, exB v31_0.eq_1, wrap1, wrap2, -callX_plain, callX, callIds, frzArgs, passArgs, S_55, S_53, S_52, S_54, List.idxOf?_cons]
end Go.Vm.B
namespace Go.Vm.B
open Go.Fl
attribute [local irreducible] IntKind.wrap Go.Fl.fl tnD
variable {P : Program} {E : Env}

theorem eqGuard_tmp (op : BinOp) (t a b : Nat) (v w : Value) : eqGuard op t (.tmp a) (.tmp b) v w = eqGuard op t (.tmp 0) (.tmp 1) v w := rfl
@[simp] theorem scal_bin (ts : List V) (a b t t' ty : Nat) : scal P ts (.binOp .neq t (.tmp a) (.tmp b) t') ty = scal2 P (.binOp .neq t (.tmp 0) (.tmp 1) t') ty (ts.getD a .bot) (ts.getD b .bot) := by
  unfold scal2 scal
  have h1 := fun v w => eqGuard_tmp .neq t a b v w
  simp [Op.operands, Call.operands, execOp, resolve, evOpd]
  simp only [h1]
/-- What is asked of the comparing of structs. -/
structure Cmp (P : Program) : Prop where
  c32 : ∀ v : Val, scal2 P (.binOp .neq 32 (.tmp 0) (.tmp 1) 32) 4 (.agg [.d (.int .i64 v.k), .d (.int .i64 v.n), .d (.str v.s)]) (.agg [.d (.int .i64 v.k), .d (.int .i64 v.n), .d (.str v.s)]) = some (.d (.bool false))
  c74 : ∀ v : Col, scal2 P (.binOp .neq 74 (.tmp 0) (.tmp 1) 74) 4 (.agg [.d (.str v.1), .d (.int .i64 v.2)]) (.agg [.d (.str v.1), .d (.int .i64 v.2)]) = some (.d (.bool false))
def fr47 (a b : V) (i : Nat) : Fr := ⟨[a, b, .bot, .bot, .bot, .d (.int .i64 i), .bot, .bot, .bot, .bot, .bot, .bot, .bot, .bot, .bot, .bot, .bot, .bot, .bot, .bot, .bot, .bot, .bot, .bot, .bot, .bot], []⟩
def fe47 : Fr := ⟨[.bot, .bot, .bot, .bot, .bot, .bot, .bot, .bot, .bot, .bot, .bot, .bot, .bot, .bot, .bot, .bot, .bot, .bot, .bot, .bot, .bot, .bot, .bot, .bot, .bot, .bot], []⟩
set_option maxHeartbeats 2000000 in
theorem rounds47 (c : Cmp P) (d : Nat) (s : Row) (hl : s.length ≤ 4294967296) : ∀ (m i f : Nat), m = s.length - i → i ≤ s.length → m < f →
    rounds (exec P (run P E T d) (refsOf T) 0 v47_0) (forget 0 35) (forget 0 16) f (fr47 (.d (.lst s.c)) (.d (.lst s.c)) i) = some (.exit 0, fe47) := by
  intro m
  induction m with
  | zero =>
    intro i f hm hi hf
    obtain ⟨f, rfl⟩ : ∃ f', f = f' + 1 := ⟨f - 1, by omega⟩
    have : i = s.length := by omega
    subst this
    rw [rounds]
    simp -implicitDefEqProofs [exB v47_0.eq_1, fr47, fe47, Row.c_len]
  | succ m ih =>
    intro i f hm hi hf
    obtain ⟨f, rfl⟩ : ∃ f', f = f' + 1 := ⟨f - 1, by omega⟩
    have hlt : i < s.length := by omega
    have hx := Row.c_get hlt
    have hc := c.c32 s[i]
    have hw : IntKind.i64.wrap ((i : Int) + 1) = (i : Int) + 1 := wrap_small (by omega) (by omega)
    rw [rounds, ← ih (i + 1) f (by omega) (by omega) (by omega)]
    generalize hxe : s[i] = x at *
    simp -implicitDefEqProofs [exB v47_0.eq_1, fr47, Row.c_len, hlt, hx, hxe, Val.c, hc, hw]
theorem rowEq_run (c : Cmp P) (d : Nat) (s : Row) (hl : s.length ≤ 4294967296) : run P E T (d + 1) 47 [.d (.lst s.c), .d (.lst s.c)] [] = some (.d (.bool true), []) := by
  rw [run_succ _ _ _ _ _ _ _ _ T_47]
  have h := rounds47 (E := E) c d s hl _ 0 LOOPS rfl (by omega) (by unfold LOOPS; omega)
  have h0 : ((0 : Nat) : Int) = 0 := rfl
  simp only [fr47] at h
  rw [h0] at h
  simp -implicitDefEqProofs [v47, h, fe47, Row.c_len]
def fr22 (a b : V) (i : Nat) : Fr := ⟨[a, b, .bot, .bot, .bot, .d (.int .i64 i), .bot, .bot, .bot, .bot, .bot, .bot, .bot, .bot, .bot, .bot, .bot, .bot, .bot, .bot, .bot, .bot, .bot, .bot, .bot, .bot], []⟩
def fe22 : Fr := ⟨[.bot, .bot, .bot, .bot, .bot, .bot, .bot, .bot, .bot, .bot, .bot, .bot, .bot, .bot, .bot, .bot, .bot, .bot, .bot, .bot, .bot, .bot, .bot, .bot, .bot, .bot], []⟩
set_option maxHeartbeats 2000000 in
theorem rounds22 (c : Cmp P) (d : Nat) (s : List Col) (hl : s.length ≤ 4294967296) : ∀ (m i f : Nat), m = s.length - i → i ≤ s.length → m < f →
    rounds (exec P (run P E T d) (refsOf T) 0 v22_0) (forget 0 35) (forget 0 16) f (fr22 (.d (.lst (colsc s))) (.d (.lst (colsc s))) i) = some (.exit 0, fe22) := by
  intro m
  induction m with
  | zero =>
    intro i f hm hi hf
    obtain ⟨f, rfl⟩ : ∃ f', f = f' + 1 := ⟨f - 1, by omega⟩
    have : i = s.length := by omega
    subst this
    rw [rounds]
    simp -implicitDefEqProofs [exB v22_0.eq_1, fr22, fe22, colsc_len]
  | succ m ih =>
    intro i f hm hi hf
    obtain ⟨f, rfl⟩ : ∃ f', f = f' + 1 := ⟨f - 1, by omega⟩
    have hlt : i < s.length := by omega
    have hx := colsc_get hlt
    have hc := c.c74 s[i]
    have hw : IntKind.i64.wrap ((i : Int) + 1) = (i : Int) + 1 := wrap_small (by omega) (by omega)
    rw [rounds, ← ih (i + 1) f (by omega) (by omega) (by omega)]
    generalize hxe : s[i] = x at *
    simp -implicitDefEqProofs [exB v22_0.eq_1, fr22, colsc_len, hlt, hx, hxe, colc, hc, hw]
theorem colsEq_run (c : Cmp P) (d : Nat) (s : List Col) (hl : s.length ≤ 4294967296) : run P E T (d + 1) 22 [.d (.lst (colsc s)), .d (.lst (colsc s))] [] = some (.d (.bool true), []) := by
  rw [run_succ _ _ _ _ _ _ _ _ T_22]
  have h := rounds22 (E := E) c d s hl _ 0 LOOPS rfl (by omega) (by unfold LOOPS; omega)
  have h0 : ((0 : Nat) : Int) = 0 := rfl
  simp only [fr22] at h
  rw [h0] at h
  simp -implicitDefEqProofs [v22, h, fe22, colsc_len]
def fr23 (a b : V) (i : Nat) : Fr := ⟨[a, b, .bot, .bot, .bot, .d (.int .i64 i), .bot, .bot, .bot, .bot, .bot, .bot, .bot, .bot, .bot, .bot, .bot, .bot, .bot, .bot, .bot, .bot, .bot, .bot, .bot, .bot, .bot, .bot, .bot, .bot, .bot, .bot, .bot, .bot, .bot, .bot, .bot, .bot, .bot, .bot, .bot, .bot], []⟩
def fe23 : Fr := ⟨[.bot, .bot, .bot, .bot, .bot, .bot, .bot, .bot, .bot, .bot, .bot, .bot, .bot, .bot, .bot, .bot, .bot, .bot, .bot, .bot, .bot, .bot, .bot, .bot, .bot, .bot, .bot, .bot, .bot, .bot, .bot, .bot, .bot, .bot, .bot, .bot, .bot, .bot, .bot, .bot, .bot, .bot], []⟩
set_option maxHeartbeats 4000000 in
theorem rounds23 (c : Cmp P) (d : Nat) (s : Set) (hr : ∀ x ∈ s, x.1.length ≤ 4294967296 ∧ -1125899906842624 ≤ x.2 ∧ x.2 ≤ 1125899906842624) (hl : s.length ≤ 4294967296) : ∀ (m i f : Nat), m = s.length - i → i ≤ s.length → m < f →
    rounds (exec P (run P E T (d + 1)) (refsOf T) 0 v23_0) (forget 0 35) (forget 0 16) f (fr23 (.d (.lst (setc s))) (.d (.lst (setc s))) i) = some (.exit 0, fe23) := by
  intro m
  induction m with
  | zero =>
    intro i f hm hi hf
    obtain ⟨f, rfl⟩ : ∃ f', f = f' + 1 := ⟨f - 1, by omega⟩
    have : i = s.length := by omega
    subst this
    rw [rounds]
    simp -implicitDefEqProofs [exB v23_0.eq_1, fr23, fe23, setc_len]
  | succ m ih =>
    intro i f hm hi hf
    obtain ⟨f, rfl⟩ : ∃ f', f = f' + 1 := ⟨f - 1, by omega⟩
    have hlt : i < s.length := by omega
    have hx := setc_get hlt
    have hrr := hr _ (List.getElem_mem hlt)
    have hc := rowEq_run (E := E) c d s[i].1 hrr.1
    have hq := tn_neq (P := P) 53 s[i].2 s[i].2 hrr.2.1 hrr.2.2 hrr.2.1 hrr.2.2
    rw [decide_eq_true rfl] at hq
    simp only [tn, Bool.not_true] at hq
    have hw : IntKind.i64.wrap ((i : Int) + 1) = (i : Int) + 1 := wrap_small (by omega) (by omega)
    rw [rounds, ← ih (i + 1) f (by omega) (by omega) (by omega)]
    generalize hxe : s[i] = x at *
    simp -implicitDefEqProofs [exB v23_0.eq_1, fr23, setc_len, hlt, hx, hxe, itc, hc, hq, hw]
theorem setEq_run (c : Cmp P) (d : Nat) (s : Set) (hr : ∀ x ∈ s, x.1.length ≤ 4294967296 ∧ -1125899906842624 ≤ x.2 ∧ x.2 ≤ 1125899906842624) (hl : s.length ≤ 4294967296) : run P E T (d + 2) 23 [.d (.lst (setc s)), .d (.lst (setc s))] [] = some (.d (.bool true), []) := by
  rw [run_succ _ _ _ _ _ _ _ _ T_23]
  have h := rounds23 (E := E) c d s hr hl _ 0 LOOPS rfl (by omega) (by unfold LOOPS; omega)
  have h0 : ((0 : Nat) : Int) = 0 := rfl
  simp only [fr23] at h
  rw [h0] at h
  simp -implicitDefEqProofs [v23, h, fe23, setc_len]
/-- batch.find in two tables. -/
def tfind (x y : Tab) (n : ByteArray) : Int := if x.n = n then 0 else if y.n = n then 1 else -1
theorem find_run (P : Program) (E : Env) (d : Nat) (x y : Tab) (n : ByteArray) : run P E T (d + 3) 36 [.d (.lst [tabc x, tabc y]), .d (.str n)] [] = some (.d (.int .i64 (tfind x y n)), []) := by
  have hg : ∀ z ∈ [tabc x, tabc y], callX (run P E T (d + 1)) (refsOf T 66) 66 [.agg (z.map V.d), .ptr 0 0 0] [some (.box (([.str n] : List D).map V.d))] 1 = some (.d (.bool (match z with | .str m :: _ => decide (m = n) | _ => false)), [(0, some (.box (([.str n] : List D).map V.d)))]) := by
    intro z hz
    have hk := gc_keep (cells := [.str n])
    simp only [List.map_cons, List.map_nil] at hk
    have hz : ∃ w : Tab, z = tabc w := by simp at hz; rcases hz with rfl | rfl; exact ⟨x, rfl⟩; exact ⟨y, rfl⟩
    obtain ⟨w, rfl⟩ := hz
    have h66 : run P E T (d + 1) 66 [.agg [.d (.str w.n), .d (.lst (colsc w.cols)), .d (.lst (setc w.rows))], .ptr 0 0 0] [some (.box [.d (.str n)])] = some (.d (.bool (decide (w.n = n))), [some (.box [.d (.str n)])]) := by
      rw [run_succ _ _ _ _ _ _ _ _ T_66]
      simp -implicitDefEqProofs [v66, hk]
    simp -implicitDefEqProofs [callX, callIds, frzArgs, passArgs, tabc, h66, S_66, List.idxOf?_cons]
  have h65 := ixB_run P E (d + 1) (N := 65) (s := 3) (by rw [T_65, ix65]) 66 (fun z => match z with | .str m :: _ => decide (m = n) | _ => false) [tabc x, tabc y] [.str n] (by simp [tabc]) (by simp) hg (by decide)
  have hix : ixFrom (fun z => match z with | .str m :: _ => decide (m = n) | _ => false) [tabc x, tabc y] 0 = tfind x y n := by
    simp [ixFrom, tabc, tfind]
  rw [hix] at h65
  have hk := gc_keep (cells := [.str n])
  simp only [List.map_cons, List.map_nil] at hk h65
  rw [run_succ _ _ _ _ _ _ _ _ T_36]
  generalize tfind x y n = z at *
  simp -implicitDefEqProofs [v36, -callX_plain, callX, callIds, frzArgs, passArgs, h65, hk, S_65, List.idxOf?_cons]
end Go.Vm.B
namespace Go.Vm.B
open Go.Fl
attribute [local irreducible] IntKind.wrap Go.Fl.fl tnD
variable {P : Program} {E : Env}

/-- An element sinks to its place. -/
def sinkS (a : Nat) : Set → Nat → Set
  | l, 0 => l
  | l, j + 1 => match l[j + 1]?, l[j]? with
    | some x, some y => if a < j + 1 ∧ Row.cmp x.1 y.1 < 0 then sinkS a ((l.set (j + 1) y).set j x) j else l
    | _, _ => l
theorem sinkS_len (a : Nat) : ∀ (j : Nat) (l : Set), (sinkS a l j).length = l.length
  | 0, l => rfl
  | j + 1, l => by
    rw [sinkS]
    split
    · split
      · rw [sinkS_len a j]; simp
      · rfl
    · rfl
theorem sinkS_mem (a : Nat) : ∀ (j : Nat) (l : Set) (p : Row × Int → Prop), (∀ x ∈ l, p x) → ∀ x ∈ sinkS a l j, p x
  | 0, l, p, h => h
  | j + 1, l, p, h => by
    rw [sinkS]
    split
    · rename_i x y hx hy
      split
      · refine sinkS_mem a j _ p fun z hz => ?_
        rcases List.mem_or_eq_of_mem_set hz with hz | rfl
        · rcases List.mem_or_eq_of_mem_set hz with hz | rfl
          · exact h z hz
          · exact h _ (List.mem_of_getElem? hy)
        · exact h _ (List.mem_of_getElem? hx)
      · exact h
    · exact h
theorem cmpItem_run (P : Program) (E : Env) (d : Nat) (x y : Row × Int) (hx : x.1.length < 4611686018427387904) (hy : y.1.length < 4611686018427387904) : run P E T (d + 6) 101 [.agg [.d (.lst x.1.c), .d (tnD x.2)], .agg [.d (.lst y.1.c), .d (tnD y.2)]] [] = some (.d (.int .i64 (Row.cmp x.1 y.1)), []) := by
  rw [run_succ _ _ _ _ _ _ _ _ T_101]
  have h := compare_run P E d x.1 y.1 hx hy
  simp -implicitDefEqProofs [v101, h]
def fr135 (n a b i j : Nat) (l : Set) : Fr := ⟨[.arr 0 0 n, .d (.int .i64 a), .d (.int .i64 b), .clo 101 [] [], .bot, .bot, .bot, .bot, .d (.int .i64 i), .d (.int .i64 j), .bot, .bot, .bot, .bot, .bot, .bot, .bot, .bot, .bot, .bot, .bot, .bot, .bot, .bot, .bot, .bot, .bot, .bot, .bot, .bot, .bot, .bot, .bot, .bot, .bot, .bot, .bot, .bot, .bot, .bot, .bot, .bot, .bot, .bot, .bot, .bot, .bot, .bot, .bot, .bot, .bot, .bot, .bot], [some (.row 2 (setc l))]⟩
def fe135 (n a b i : Nat) (l : Set) : Fr := ⟨[.arr 0 0 n, .d (.int .i64 a), .d (.int .i64 b), .clo 101 [] [], .bot, .bot, .bot, .bot, .d (.int .i64 i), .bot, .bot, .bot, .bot, .bot, .bot, .bot, .bot, .bot, .bot, .bot, .bot, .bot, .bot, .bot, .bot, .bot, .bot, .bot, .bot, .bot, .bot, .bot, .bot, .bot, .bot, .bot, .bot, .bot, .bot, .bot, .bot, .bot, .bot, .bot, .bot, .bot, .bot, .bot, .bot, .bot, .bot, .bot, .bot], [some (.row 2 (setc l))]⟩
set_option maxHeartbeats 8000000 in
theorem rounds135 (d : Nat) (a b i : Nat) (hi : i ≤ 4294967296) (ha : a ≤ 4294967296) : ∀ (j : Nat) (l : Set) (f : Nat), j < l.length → l.length ≤ 4294967296 → (∀ x ∈ l, x.1.length ≤ 6) → j < f →
    rounds (exec P (run P E T (d + 6)) (refsOf T) 1 v135_0) (forget 1 783) (forget 1 271) f (fr135 l.length a b i j l) = some (.exit 2, fe135 l.length a b i (sinkS a l j)) := by
  intro j
  induction j with
  | zero =>
    intro l f hj hl hr hf
    obtain ⟨f, rfl⟩ : ∃ f', f = f' + 1 := ⟨f - 1, by omega⟩
    rw [rounds]
    have e : ¬ ((a : Int) < 0) := by omega
    simp -implicitDefEqProofs [exB v135_0.eq_1, fr135, fe135, sinkS, e, List.range_succ]
  | succ j ih =>
    intro l f hj hl hr hf
    obtain ⟨f, rfl⟩ : ∃ f', f = f' + 1 := ⟨f - 1, by omega⟩
    have hj0 : j < l.length := by omega
    have hx := setc_get hj
    have hy := setc_get hj0
    have hc := cmpItem_run P E d l[j + 1] l[j] (by have := hr _ (List.getElem_mem hj); omega) (by have := hr _ (List.getElem_mem hj0); omega)
    have hw2 : IntKind.i64.wrap (j : Int) = j := wrap_small (by omega) (by omega)
    have hnn : ((j : Int) + 1 < 0) = False := by simp; omega
    have htn : ((j : Int) + 1).toNat = j + 1 := by omega
    have hjI : (j : Int) + 1 < l.length := by omega
    have hjI0 : (j : Int) < l.length := by omega
    rw [sinkS, List.getElem?_eq_getElem hj, List.getElem?_eq_getElem hj0, rounds]
    dsimp only
    generalize hxe : l[j + 1] = x at *
    generalize hye : l[j] = y at *
    by_cases ha : a < j + 1
    · have haI : (a : Int) < (j : Int) + 1 := by omega
      by_cases h0 : Row.cmp x.1 y.1 < 0
      · rw [if_pos ⟨ha, h0⟩]
        have ih := ih ((l.set (j + 1) y).set j x) f (by simpa using hj0) (by simpa using hl) (fun z hz => ?_) (by omega)
        · have hlen : ((l.set (j + 1) y).set j x).length = l.length := by simp
          rw [hlen] at ih
          rw [← ih]
          have hset : setc ((l.set (j + 1) y).set j x) = ((setc l).set (j + 1) (itc y)).set j (itc x) := by unfold setc; rw [List.map_set, List.map_set]
          have hne : ¬ (j + 1 = j) := by omega
          simp -implicitDefEqProofs [exB v135_0.eq_1, fr135, fe135, hset, setc_len, hx, hy, hxe, hye, itc, hc, hw2, hnn, htn, hjI, hjI0, hj, hj0, haI, h0, hne, List.range_succ, anyX, opsT.eq_1, opsT.eq_2, clear, Tr.meets, Tr.foot]
        · rcases List.mem_or_eq_of_mem_set hz with hz | rfl
          · rcases List.mem_or_eq_of_mem_set hz with hz | rfl
            · exact hr z hz
            · rw [← hye]; exact hr _ (List.getElem_mem hj0)
          · rw [← hxe]; exact hr _ (List.getElem_mem hj)
      · rw [if_neg (fun h => h0 h.2)]
        simp -implicitDefEqProofs [exB v135_0.eq_1, fr135, fe135, setc_len, hx, hy, hxe, hye, itc, hc, hw2, hnn, htn, hjI, hjI0, hj, hj0, haI, h0, List.range_succ]
    · rw [if_neg (fun h => ha h.1)]
      have haI : ¬ ((a : Int) < (j : Int) + 1) := by omega
      simp -implicitDefEqProofs [exB v135_0.eq_1, fr135, fe135, haI, List.range_succ]
end Go.Vm.B
namespace Go.Vm.B
open Go.Fl
attribute [local irreducible] IntKind.wrap Go.Fl.fl tnD
variable {P : Program} {E : Env}

/-- Insertion sort, from a place on. -/
def insRange (a : Nat) : Nat → Nat → Set → Set
  | 0, _, l => l
  | m + 1, i, l => insRange a m (i + 1) (sinkS a l i)
theorem insRange_len (a : Nat) : ∀ (m i : Nat) (l : Set), (insRange a m i l).length = l.length
  | 0, _, l => rfl
  | m + 1, i, l => by rw [insRange, insRange_len, sinkS_len]
theorem insRange_mem (a : Nat) : ∀ (m i : Nat) (l : Set) (p : Row × Int → Prop), (∀ x ∈ l, p x) → ∀ x ∈ insRange a m i l, p x
  | 0, _, l, p, h => h
  | m + 1, i, l, p, h => by rw [insRange]; exact insRange_mem a m (i + 1) _ p (sinkS_mem a i l p h)
def fz135 (l : Set) : Fr := ⟨[.bot, .bot, .bot, .bot, .bot, .bot, .bot, .bot, .bot, .bot, .bot, .bot, .bot, .bot, .bot, .bot, .bot, .bot, .bot, .bot, .bot, .bot, .bot, .bot, .bot, .bot, .bot, .bot, .bot, .bot, .bot, .bot, .bot, .bot, .bot, .bot, .bot, .bot, .bot, .bot, .bot, .bot, .bot, .bot, .bot, .bot, .bot, .bot, .bot, .bot, .bot, .bot, .bot], [some (.row 2 (setc l))]⟩
set_option maxHeartbeats 8000000 in
theorem rounds135o (d : Nat) (a b : Nat) (ha : a ≤ 4294967296) : ∀ (m i : Nat) (l : Set) (f : Nat), m = b - i → b ≤ l.length → l.length ≤ 4294967296 → (∀ x ∈ l, x.1.length ≤ 6) → m < f → i ≤ 4294967296 →
    rounds (exec P (run P E T (d + 6)) (refsOf T) 1 v135_1) (forget 1 271) (forget 1 0) f (fe135 l.length a b i l) = some (.exit 0, fz135 (insRange a m i l)) := by
  intro m
  induction m with
  | zero =>
    intro i l f hm hb hl hr hf hi
    obtain ⟨f, rfl⟩ : ∃ f', f = f' + 1 := ⟨f - 1, by omega⟩
    have e : ¬ ((i : Int) < b) := by omega
    rw [rounds]
    simp -implicitDefEqProofs [exB v135_1.eq_1, fe135, fz135, insRange, e, List.range_succ]
  | succ m ih =>
    intro i l f hm hb hl hr hf hi
    obtain ⟨f, rfl⟩ : ∃ f', f = f' + 1 := ⟨f - 1, by omega⟩
    have e : ((i : Int) < b) := by omega
    have hin := rounds135 (P := P) (E := E) d a b i hi ha i l LOOPS (by omega) hl hr (by unfold LOOPS; omega)
    have ih := ih (i + 1) (sinkS a l i) f (by omega) (by rw [sinkS_len]; exact hb) (by rw [sinkS_len]; exact hl) (sinkS_mem a i l _ hr) (by omega) (by omega)
    rw [sinkS_len] at ih
    have hw : IntKind.i64.wrap ((i : Int) + 1) = (i : Int) + 1 := wrap_small (by omega) (by omega)
    simp only [fr135] at hin
    rw [insRange, rounds, ← ih]
    simp -implicitDefEqProofs [exB v135_1.eq_1, fe135, hin, e, hw, List.range_succ]
theorem insSort_run (d : Nat) (a b : Nat) (l : Set) (ha : a ≤ 4294967295) (hb : b ≤ l.length) (hl : l.length ≤ 4294967296) (hr : ∀ x ∈ l, x.1.length ≤ 6) :
    run P E T (d + 7) 135 [.arr 0 0 l.length, .d (.int .i64 a), .d (.int .i64 b), .clo 101 [] []] [some (.row 2 (setc l))] = some (.tup [], [some (.row 2 (setc (insRange a (b - (a + 1)) (a + 1) l)))]) := by
  rw [run_succ _ _ _ _ _ _ _ _ T_135]
  have h := rounds135o (P := P) (E := E) d a b (by omega) (b - (a + 1)) (a + 1) l LOOPS rfl hb hl hr (by unfold LOOPS; omega) (by omega)
  have hw : IntKind.i64.wrap ((a : Int) + 1) = (a : Int) + 1 := wrap_small (by omega) (by omega)
  simp only [fe135, fz135] at h
  rw [show ((a + 1 : Nat) : Int) = (a : Int) + 1 from rfl] at h
  simp -implicitDefEqProofs [v135, hw, h, List.range_succ]
/-- What the merging of two ranges gives, and that it is what function 136 does. -/
structure MG (P : Program) (E : Env) (mg : Nat → Nat → Nat → Set → Set) : Prop where
  len : ∀ a m b l, (mg a m b l).length = l.length
  mem : ∀ a m b l (p : Row × Int → Prop), (∀ x ∈ l, p x) → ∀ x ∈ mg a m b l, p x
  run : ∀ (d a m b : Nat) (l : Set), a < m → m < b → b ≤ l.length → l.length ≤ 100000 → (∀ x ∈ l, x.1.length ≤ 6) →
    run P E T (d + 100) 136 [.arr 0 0 l.length, .d (.int .i64 a), .d (.int .i64 m), .d (.int .i64 b), .clo 101 [] []] [some (.row 2 (setc l))] = some (.tup [], [some (.row 2 (setc (mg a m b l)))])
end Go.Vm.B
namespace Go.Vm.B
open Go.Fl
attribute [local irreducible] IntKind.wrap Go.Fl.fl tnD
variable {P : Program} {E : Env}

def blkA (n : Nat) : Nat → Nat → Set → Nat × Set
  | 0, a, l => (a, l)
  | k + 1, a, l => if a + 20 ≤ n then blkA n k (a + 20) (insRange a 19 (a + 1) l) else (a, l)
def mrgA (mg : Nat → Nat → Nat → Set → Set) (n bs : Nat) : Nat → Nat → Set → Nat × Set
  | 0, a, l => (a, l)
  | k + 1, a, l => if a + 2 * bs ≤ n then mrgA mg n bs k (a + 2 * bs) (mg a (a + bs) (a + 2 * bs) l) else (a, l)
def mrgO (mg : Nat → Nat → Nat → Set → Set) (n bs : Nat) (l : Set) : Set :=
  if (mrgA mg n bs n 0 l).1 + bs < n then mg (mrgA mg n bs n 0 l).1 ((mrgA mg n bs n 0 l).1 + bs) n (mrgA mg n bs n 0 l).2 else (mrgA mg n bs n 0 l).2
def mrgS (mg : Nat → Nat → Nat → Set → Set) (n : Nat) : Nat → Nat → Set → Set
  | 0, _, l => l
  | k + 1, bs, l => if bs < n then mrgS mg n k (bs * 2) (mrgO mg n bs l) else l
/-- slices.SortStableFunc. -/
def stS (mg : Nat → Nat → Nat → Set → Set) (l : Set) : Set :=
  mrgS mg l.length l.length 20 (insRange (blkA l.length l.length 0 l).1 (l.length - ((blkA l.length l.length 0 l).1 + 1)) ((blkA l.length l.length 0 l).1 + 1) (blkA l.length l.length 0 l).2)
def fl123 (n bs a b : Nat) (l : Set) : Fr := ⟨[.arr 0 0 n, .d (.int .i64 n), .clo 101 [] [], .bot, .bot, .bot, .d (.int .i64 bs), .d (.int .i64 a), .d (.int .i64 b), .bot, .bot, .bot, .bot, .bot, .bot, .bot, .bot, .bot, .bot, .bot, .bot, .bot, .bot, .bot, .bot, .bot, .bot, .bot, .bot, .bot, .bot, .bot, .bot, .bot, .bot, .bot, .bot, .bot, .bot, .bot, .bot, .bot, .bot, .bot, .bot, .bot, .bot, .bot, .bot, .bot, .bot, .bot, .bot, .bot, .bot, .bot, .bot, .bot, .bot, .bot, .bot, .bot, .bot], [some (.row 2 (setc l))]⟩
def fo123 (n bs a : Nat) (l : Set) : Fr := ⟨[.arr 0 0 n, .d (.int .i64 n), .clo 101 [] [], .bot, .bot, .bot, .d (.int .i64 bs), .d (.int .i64 a), .bot, .bot, .bot, .bot, .bot, .bot, .bot, .bot, .bot, .bot, .bot, .bot, .bot, .bot, .bot, .bot, .bot, .bot, .bot, .bot, .bot, .bot, .bot, .bot, .bot, .bot, .bot, .bot, .bot, .bot, .bot, .bot, .bot, .bot, .bot, .bot, .bot, .bot, .bot, .bot, .bot, .bot, .bot, .bot, .bot, .bot, .bot, .bot, .bot, .bot, .bot, .bot, .bot, .bot, .bot], [some (.row 2 (setc l))]⟩
def fm123 (n bs : Nat) (l : Set) : Fr := ⟨[.arr 0 0 n, .d (.int .i64 n), .clo 101 [] [], .bot, .bot, .bot, .d (.int .i64 bs), .bot, .bot, .bot, .bot, .bot, .bot, .bot, .bot, .bot, .bot, .bot, .bot, .bot, .bot, .bot, .bot, .bot, .bot, .bot, .bot, .bot, .bot, .bot, .bot, .bot, .bot, .bot, .bot, .bot, .bot, .bot, .bot, .bot, .bot, .bot, .bot, .bot, .bot, .bot, .bot, .bot, .bot, .bot, .bot, .bot, .bot, .bot, .bot, .bot, .bot, .bot, .bot, .bot, .bot, .bot, .bot], [some (.row 2 (setc l))]⟩
def fz123 (l : Set) : Fr := ⟨[.bot, .bot, .bot, .bot, .bot, .bot, .bot, .bot, .bot, .bot, .bot, .bot, .bot, .bot, .bot, .bot, .bot, .bot, .bot, .bot, .bot, .bot, .bot, .bot, .bot, .bot, .bot, .bot, .bot, .bot, .bot, .bot, .bot, .bot, .bot, .bot, .bot, .bot, .bot, .bot, .bot, .bot, .bot, .bot, .bot, .bot, .bot, .bot, .bot, .bot, .bot, .bot, .bot, .bot, .bot, .bot, .bot, .bot, .bot, .bot, .bot, .bot, .bot], [some (.row 2 (setc l))]⟩
theorem blkA_spec (n : Nat) : ∀ (k a : Nat) (l : Set), (blkA n k a l).2.length = l.length ∧ (∀ (p : Row × Int → Prop), (∀ x ∈ l, p x) → ∀ x ∈ (blkA n k a l).2, p x) ∧ (a ≤ n → (blkA n k a l).1 ≤ n)
  | 0, a, l => ⟨rfl, fun p h => h, fun h => h⟩
  | k + 1, a, l => by
    rw [blkA]
    split
    · obtain ⟨h1, h2, h3⟩ := blkA_spec n k (a + 20) (insRange a 19 (a + 1) l)
      exact ⟨by rw [h1, insRange_len], fun p h => h2 p (insRange_mem a 19 (a + 1) l p h), fun _ => h3 (by omega)⟩
    · exact ⟨rfl, fun p h => h, fun h => h⟩
set_option maxHeartbeats 8000000 in
theorem rounds123a (d : Nat) : ∀ (k a : Nat) (l : Set) (f : Nat), k < f → l.length < a + 20 + 20 * k → a ≤ l.length → l.length ≤ 100000 → (∀ x ∈ l, x.1.length ≤ 6) →
    rounds (exec P (run P E T (d + 7)) (refsOf T) 1 v123_0) (forget 1 455) (forget 1 199) f (fl123 l.length 20 a (a + 20) l) = some (.exit 0, fo123 l.length 20 (blkA l.length k a l).1 (blkA l.length k a l).2) := by
  intro k
  induction k with
  | zero =>
    intro a l f hf hn ha hl hr
    obtain ⟨f, rfl⟩ : ∃ f', f = f' + 1 := ⟨f - 1, by omega⟩
    have e : ¬ ((a : Int) + 20 ≤ l.length) := by omega
    rw [rounds, blkA]
    simp -implicitDefEqProofs [exB v123_0.eq_1, fl123, fo123, e, List.range_succ]
  | succ k ih =>
    intro a l f hf hn ha hl hr
    obtain ⟨f, rfl⟩ : ∃ f', f = f' + 1 := ⟨f - 1, by omega⟩
    rw [rounds, blkA]
    by_cases h : a + 20 ≤ l.length
    · rw [if_pos h]
      have e : ((a : Int) + 20 ≤ l.length) := by omega
      have ih := ih (a + 20) (insRange a 19 (a + 1) l) f (by omega) (by rw [insRange_len]; omega) (by rw [insRange_len]; omega) (by rw [insRange_len]; omega) (insRange_mem a 19 (a + 1) l _ hr)
      rw [insRange_len] at ih
      rw [← ih]
      have hi := insSort_run (P := P) (E := E) d a (a + 20) l (by omega) h (by omega) hr
      rw [show a + 20 - (a + 1) = 19 by omega, show ((a + 20 : Nat) : Int) = (a : Int) + 20 from rfl] at hi
      have hw : IntKind.i64.wrap ((a : Int) + 20 + 20) = (a : Int) + 20 + 20 := wrap_small (by omega) (by omega)
      simp -implicitDefEqProofs [exB v123_0.eq_1, fl123, fo123, e, hi, hw, List.range_succ, callX, callIds, frzArgs, passArgs, S_135, List.idxOf?_cons]
    · rw [if_neg h]
      have e : ¬ ((a : Int) + 20 ≤ l.length) := by omega
      simp -implicitDefEqProofs [exB v123_0.eq_1, fl123, fo123, e, List.range_succ]
end Go.Vm.B
namespace Go.Vm.B
open Go.Fl
attribute [local irreducible] IntKind.wrap Go.Fl.fl tnD
variable {P : Program} {E : Env}

variable {mg : Nat → Nat → Nat → Set → Set}
theorem mrgA_spec (M : MG P E mg) (n bs : Nat) : ∀ (k a : Nat) (l : Set), (mrgA mg n bs k a l).2.length = l.length ∧ (∀ (p : Row × Int → Prop), (∀ x ∈ l, p x) → ∀ x ∈ (mrgA mg n bs k a l).2, p x) ∧ (a ≤ n → (mrgA mg n bs k a l).1 ≤ n)
  | 0, a, l => ⟨rfl, fun p h => h, fun h => h⟩
  | k + 1, a, l => by
    rw [mrgA]
    split
    · obtain ⟨h1, h2, h3⟩ := mrgA_spec M n bs k (a + 2 * bs) (mg a (a + bs) (a + 2 * bs) l)
      exact ⟨by rw [h1, M.len], fun p h => h2 p (M.mem _ _ _ l p h), fun _ => h3 (by omega)⟩
    · exact ⟨rfl, fun p h => h, fun h => h⟩
theorem mrgO_spec (M : MG P E mg) (n bs : Nat) (l : Set) : (mrgO mg n bs l).length = l.length ∧ (∀ (p : Row × Int → Prop), (∀ x ∈ l, p x) → ∀ x ∈ mrgO mg n bs l, p x) := by
  obtain ⟨h1, h2, h3⟩ := mrgA_spec M n bs n 0 l
  unfold mrgO
  split
  · exact ⟨by rw [M.len, h1], fun p h => M.mem _ _ _ _ p (h2 p h)⟩
  · exact ⟨h1, h2⟩
set_option maxHeartbeats 8000000 in
theorem rounds123b (M : MG P E mg) (d : Nat) (bs : Nat) (hbs : 0 < bs) (hb2 : bs ≤ 100000) : ∀ (k a : Nat) (l : Set) (f : Nat), k < f → l.length < a + 2 * bs + 2 * bs * k → a ≤ l.length → l.length ≤ 100000 → (∀ x ∈ l, x.1.length ≤ 6) →
    rounds (exec P (run P E T (d + 100)) (refsOf T) 1 v123_1) (forget 1 455) (forget 1 199) f (fl123 l.length bs a (a + 2 * bs) l) = some (.exit 4, fo123 l.length bs (mrgA mg l.length bs k a l).1 (mrgA mg l.length bs k a l).2) := by
  intro k
  induction k with
  | zero =>
    intro a l f hf hn ha hl hr
    obtain ⟨f, rfl⟩ : ∃ f', f = f' + 1 := ⟨f - 1, by omega⟩
    have e : ¬ ((a : Int) + 2 * bs ≤ l.length) := by omega
    rw [rounds, mrgA]
    simp -implicitDefEqProofs [exB v123_1.eq_1, fl123, fo123, e, List.range_succ]
  | succ k ih =>
    intro a l f hf hn ha hl hr
    obtain ⟨f, rfl⟩ : ∃ f', f = f' + 1 := ⟨f - 1, by omega⟩
    rw [rounds, mrgA]
    by_cases h : a + 2 * bs ≤ l.length
    · rw [if_pos h]
      have e : ((a : Int) + 2 * bs ≤ l.length) := by omega
      have hmul : 2 * bs * (k + 1) = 2 * bs * k + 2 * bs := by rw [Nat.mul_add, Nat.mul_one]
      have ih := ih (a + 2 * bs) (mg a (a + bs) (a + 2 * bs) l) f (by omega) (by rw [M.len]; omega) (by rw [M.len]; omega) (by rw [M.len]; omega) (M.mem _ _ _ l _ hr)
      rw [M.len] at ih
      rw [← ih]
      have hi := M.run d a (a + bs) (a + 2 * bs) l (by omega) (by omega) h hl hr
      have hw1 : IntKind.i64.wrap ((a : Int) + bs) = (a : Int) + bs := wrap_small (by omega) (by omega)
      have hw2 : IntKind.i64.wrap (2 * (bs : Int)) = 2 * (bs : Int) := wrap_small (by omega) (by omega)
      have hw3 : IntKind.i64.wrap ((a : Int) + 2 * bs + 2 * bs) = (a : Int) + 2 * bs + 2 * bs := wrap_small (by omega) (by omega)
      rw [show ((a + bs : Nat) : Int) = (a : Int) + bs by omega, show ((a + 2 * bs : Nat) : Int) = (a : Int) + 2 * bs by omega] at hi
      simp -implicitDefEqProofs [exB v123_1.eq_1, fl123, fo123, e, hi, hw1, hw2, hw3, List.range_succ, callX, callIds, frzArgs, passArgs, S_136, List.idxOf?_cons]
    · rw [if_neg h]
      have e : ¬ ((a : Int) + 2 * bs ≤ l.length) := by omega
      simp -implicitDefEqProofs [exB v123_1.eq_1, fl123, fo123, e, List.range_succ]
set_option maxHeartbeats 8000000 in
theorem rounds123c (M : MG P E mg) (d : Nat) : ∀ (k bs : Nat) (l : Set) (f : Nat), k < f → l.length < bs + k → 0 < bs → bs ≤ 200000 → l.length ≤ 100000 → (∀ x ∈ l, x.1.length ≤ 6) →
    rounds (exec P (run P E T (d + 100)) (refsOf T) 1 v123_2) (forget 1 71) (forget 1 0) f (fm123 l.length bs l) = some (.exit 2, fz123 (mrgS mg l.length k bs l)) := by
  intro k
  induction k with
  | zero =>
    intro bs l f hf hn h0 hb hl hr
    obtain ⟨f, rfl⟩ : ∃ f', f = f' + 1 := ⟨f - 1, by omega⟩
    have e : ¬ ((bs : Int) < l.length) := by omega
    rw [rounds, mrgS]
    simp -implicitDefEqProofs [exB v123_2.eq_1, fm123, fz123, e, List.range_succ]
  | succ k ih =>
    intro bs l f hf hn h0 hb hl hr
    obtain ⟨f, rfl⟩ : ∃ f', f = f' + 1 := ⟨f - 1, by omega⟩
    rw [rounds, mrgS]
    by_cases h : bs < l.length
    · rw [if_pos h]
      have e : ((bs : Int) < l.length) := by omega
      obtain ⟨s1, s2⟩ := mrgO_spec M l.length bs l
      obtain ⟨q1, q2, q3⟩ := mrgA_spec M l.length bs l.length 0 l
      have ih := ih (bs * 2) (mrgO mg l.length bs l) f (by omega) (by omega) (by omega) (by omega) (by omega) (s2 _ hr)
      rw [s1] at ih
      rw [← ih]
      have hmul : l.length ≤ 2 * bs * l.length := by rw [Nat.mul_comm]; exact Nat.le_mul_of_pos_right _ (by omega)
      have hb := rounds123b M d bs h0 (by omega) l.length 0 l LOOPS (by unfold LOOPS; omega) (by omega) (by omega) hl hr
      have hq := q3 (by omega)
      rw [Nat.zero_add] at hb
      have hw2 : IntKind.i64.wrap (2 * (bs : Int)) = 2 * (bs : Int) := wrap_small (by omega) (by omega)
      have hw4 : IntKind.i64.wrap ((bs : Int) * 2) = (bs : Int) * 2 := wrap_small (by omega) (by omega)
      unfold mrgO
      simp only [fl123, fo123] at hb
      rw [show ((2 * bs : Nat) : Int) = 2 * (bs : Int) by omega, show ((0 : Nat) : Int) = 0 from rfl] at hb
      generalize hz : mrgA mg l.length bs l.length 0 l = z at *
      have hw1 : IntKind.i64.wrap ((z.1 : Int) + bs) = (z.1 : Int) + bs := wrap_small (by omega) (by omega)
      by_cases h2 : z.1 + bs < l.length
      · have e2 : (z.1 : Int) + bs < l.length := by omega
        have hi := M.run d z.1 (z.1 + bs) l.length z.2 (by omega) h2 (by omega) (by omega) (q2 _ hr)
        rw [q1, show ((z.1 + bs : Nat) : Int) = (z.1 : Int) + bs by omega] at hi
        rw [if_pos h2]
        simp -implicitDefEqProofs [exB v123_2.eq_1, fm123, e, e2, hb, hi, hw1, hw2, hw4, List.range_succ, callX, callIds, frzArgs, passArgs, S_136, List.idxOf?_cons]
      · have e2 : ¬ (z.1 : Int) + bs < l.length := by omega
        rw [if_neg h2]
        simp -implicitDefEqProofs [exB v123_2.eq_1, fm123, e, e2, hb, hw1, hw2, hw4, List.range_succ, callX, callIds, frzArgs, passArgs, S_136, List.idxOf?_cons]
    · rw [if_neg h]
      have e : ¬ ((bs : Int) < l.length) := by omega
      simp -implicitDefEqProofs [exB v123_2.eq_1, fm123, fz123, e, List.range_succ]
theorem stable_run (M : MG P E mg) (d : Nat) (l : Set) (hl : l.length ≤ 100000) (hr : ∀ x ∈ l, x.1.length ≤ 6) :
    run P E T (d + 101) 123 [.arr 0 0 l.length, .d (.int .i64 l.length), .clo 101 [] []] [some (.row 2 (setc l))] = some (.tup [], [some (.row 2 (setc (stS mg l)))]) := by
  rw [run_succ _ _ _ _ _ _ _ _ T_123]
  have h1 := rounds123a (P := P) (E := E) (d + 93) l.length 0 l LOOPS (by unfold LOOPS; omega) (by omega) (by omega) hl hr
  obtain ⟨s1, s2, s3⟩ := blkA_spec l.length l.length 0 l
  have hq := s3 (by omega)
  unfold stS
  generalize hz : blkA l.length l.length 0 l = z at *
  have h2 := insSort_run (P := P) (E := E) (d + 93) z.1 l.length z.2 (by omega) (by omega) (by omega) (s2 _ hr)
  have h3 := rounds123c M d l.length 20 (insRange z.1 (l.length - (z.1 + 1)) (z.1 + 1) z.2) LOOPS (by unfold LOOPS; omega) (by rw [insRange_len]; omega) (by omega) (by omega) (by rw [insRange_len]; omega) (insRange_mem _ _ _ _ _ (s2 _ hr))
  rw [insRange_len, s1] at h3
  rw [s1] at h2
  simp only [fl123, fo123, Nat.zero_add] at h1
  simp only [fm123, fz123] at h3
  rw [show ((0 : Nat) : Int) = 0 from rfl, show ((20 : Nat) : Int) = 20 from rfl] at h1
  rw [show ((20 : Nat) : Int) = 20 from rfl] at h3
  simp -implicitDefEqProofs [v123, h1, h2, h3, List.range_succ, callX, callIds, frzArgs, passArgs, S_135, List.idxOf?_cons]
theorem sortStable_run (M : MG P E mg) (d : Nat) (l : Set) (hl : l.length ≤ 100000) (hr : ∀ x ∈ l, x.1.length ≤ 6) :
    run P E T (d + 102) 100 [.arr 0 0 l.length, .clo 101 [] []] [some (.row 2 (setc l))] = some (.tup [], [some (.row 2 (setc (stS mg l)))]) := by
  rw [run_succ _ _ _ _ _ _ _ _ T_100]
  have h := stable_run M d l hl hr
  simp -implicitDefEqProofs [v100, h, List.range_succ, callX, callIds, frzArgs, passArgs, S_123, List.idxOf?_cons]
end Go.Vm.B
namespace Go.Vm.B
open Go.Fl
attribute [local irreducible] IntKind.wrap Go.Fl.fl tnD
variable {P : Program} {E : Env}

def swp (l : Set) (i j : Nat) : Set := match l[i]?, l[j]? with
  | some x, some y => (l.set i y).set j x
  | _, _ => l
theorem swp_len (l : Set) (i j : Nat) : (swp l i j).length = l.length := by unfold swp; split <;> simp
theorem swp_mem (l : Set) (i j : Nat) (p : Row × Int → Prop) (h : ∀ x ∈ l, p x) : ∀ x ∈ swp l i j, p x := by
  unfold swp
  split
  · rename_i x y hx hy
    intro z hz
    rcases List.mem_or_eq_of_mem_set hz with hz | rfl
    · rcases List.mem_or_eq_of_mem_set hz with hz | rfl
      · exact h z hz
      · exact h _ (List.mem_of_getElem? hy)
    · exact h _ (List.mem_of_getElem? hx)
  · exact h
/-- Two ranges change places, from the i-th on, m elements. -/
def swapR (a b : Nat) : Nat → Nat → Set → Set
  | 0, _, l => l
  | m + 1, i, l => swapR a b m (i + 1) (swp l (a + i) (b + i))
theorem swapR_len (a b : Nat) : ∀ (m i : Nat) (l : Set), (swapR a b m i l).length = l.length
  | 0, _, l => rfl
  | m + 1, i, l => by rw [swapR, swapR_len, swp_len]
theorem swapR_mem (a b : Nat) : ∀ (m i : Nat) (l : Set) (p : Row × Int → Prop), (∀ x ∈ l, p x) → ∀ x ∈ swapR a b m i l, p x
  | 0, _, l, p, h => h
  | m + 1, i, l, p, h => by rw [swapR]; exact swapR_mem a b m (i + 1) _ p (swp_mem l _ _ p h)
def fr144 (len a b n i : Nat) (l : Set) : Fr := ⟨[.arr 0 0 len, .d (.int .i64 a), .d (.int .i64 b), .d (.int .i64 n), .bot, .bot, .bot, .bot, .bot, .bot, .d (.int .i64 i), .bot, .bot, .bot, .bot, .bot, .bot, .bot, .bot, .bot, .bot, .bot, .bot, .bot, .bot, .bot, .bot, .bot, .bot, .bot, .bot, .bot, .bot, .bot, .bot, .bot, .bot, .bot], [some (.row 2 (setc l))]⟩
def fz144 (l : Set) : Fr := ⟨[.bot, .bot, .bot, .bot, .bot, .bot, .bot, .bot, .bot, .bot, .bot, .bot, .bot, .bot, .bot, .bot, .bot, .bot, .bot, .bot, .bot, .bot, .bot, .bot, .bot, .bot, .bot, .bot, .bot, .bot, .bot, .bot, .bot, .bot, .bot, .bot, .bot, .bot], [some (.row 2 (setc l))]⟩
set_option maxHeartbeats 8000000 in
theorem rounds144 (d : Nat) (a b n : Nat) (ha : a ≤ 100000) (hb : b ≤ 100000) (hn : n ≤ 100000) (hab : a ≠ b) : ∀ (m i : Nat) (l : Set) (f : Nat), m = n - i → a + n ≤ l.length → b + n ≤ l.length → i ≤ n → l.length ≤ 100000 → m < f →
    rounds (exec P (run P E T d) (refsOf T) 1 v144_0) (forget 1 1039) (forget 1 0) f (fr144 l.length a b n i l) = some (.exit 0, fz144 (swapR a b m i l)) := by
  intro m
  induction m with
  | zero =>
    intro i l f hm h1 h2 hi hl hf
    obtain ⟨f, rfl⟩ : ∃ f', f = f' + 1 := ⟨f - 1, by omega⟩
    have e : ¬ ((i : Int) < n) := by omega
    rw [rounds, swapR]
    simp -implicitDefEqProofs [exB v144_0.eq_1, fr144, fz144, e, List.range_succ]
  | succ m ih =>
    intro i l f hm h1 h2 hi hl hf
    obtain ⟨f, rfl⟩ : ∃ f', f = f' + 1 := ⟨f - 1, by omega⟩
    have e : ((i : Int) < n) := by omega
    have hia : a + i < l.length := by omega
    have hib : b + i < l.length := by omega
    have ih := ih (i + 1) (swp l (a + i) (b + i)) f (by omega) (by rw [swp_len]; exact h1) (by rw [swp_len]; exact h2) (by omega) (by rw [swp_len]; exact hl) (by omega)
    rw [swp_len] at ih
    rw [rounds, swapR, ← ih]
    have hx := setc_get hia
    have hy := setc_get hib
    have hs : swp l (a + i) (b + i) = (l.set (a + i) l[b + i]).set (b + i) l[a + i] := by unfold swp; rw [List.getElem?_eq_getElem hia, List.getElem?_eq_getElem hib]
    rw [hs]
    generalize hxe : l[a + i] = x at *
    generalize hye : l[b + i] = y at *
    have hset : setc ((l.set (a + i) y).set (b + i) x) = ((setc l).set (a + i) (itc y)).set (b + i) (itc x) := by unfold setc; rw [List.map_set, List.map_set]
    have hw1 : IntKind.i64.wrap ((a : Int) + i) = (a : Int) + i := wrap_small (by omega) (by omega)
    have hw2 : IntKind.i64.wrap ((b : Int) + i) = (b : Int) + i := wrap_small (by omega) (by omega)
    have hw3 : IntKind.i64.wrap ((i : Int) + 1) = (i : Int) + 1 := wrap_small (by omega) (by omega)
    have n1 : ((a : Int) + i < 0) = False := by simp; omega
    have n2 : ((b : Int) + i < 0) = False := by simp; omega
    have t1 : ((a : Int) + i).toNat = a + i := by omega
    have t2 : ((b : Int) + i).toNat = b + i := by omega
    have l1 : (a : Int) + i < l.length := by omega
    have l2 : (b : Int) + i < l.length := by omega
    have hne : ¬ (a + i = b + i) := by omega
    simp -implicitDefEqProofs [exB v144_0.eq_1, fr144, hset, setc_len, e, hx, hy, hxe, hye, itc, hia, hib, hw1, hw2, hw3, n1, n2, t1, t2, l1, l2, hne, hab, List.range_succ, anyX, opsT.eq_1, opsT.eq_2, clear, Tr.meets, Tr.foot]
theorem swap_run (P : Program) (E : Env) (d : Nat) (a b n : Nat) (l : Set) (hab : a ≠ b) (h1 : a + n ≤ l.length) (h2 : b + n ≤ l.length) (hl : l.length ≤ 100000) :
    run P E T (d + 1) 144 [.arr 0 0 l.length, .d (.int .i64 a), .d (.int .i64 b), .d (.int .i64 n), .clo 101 [] []] [some (.row 2 (setc l))] = some (.tup [], [some (.row 2 (setc (swapR a b n 0 l)))]) := by
  rw [run_succ _ _ _ _ _ _ _ _ T_144]
  have h := rounds144 (P := P) (E := E) d a b n (by omega) (by omega) (by omega) hab n 0 l LOOPS rfl h1 h2 (by omega) hl (by unfold LOOPS; omega)
  simp only [fr144, fz144] at h
  rw [show ((0 : Nat) : Int) = 0 from rfl] at h
  simp -implicitDefEqProofs [v144, h, List.range_succ]
end Go.Vm.B
