/- A part of the proofs of the statements BatchTells and BatchNumbers: C57, C58, C59, C60, C61. Conditions: none of its own. -/
import Derived.Test.YtoaafpebcdfniaaGreatT20
set_option linter.unusedSimpArgs false
set_option linter.unusedVariables false
set_option linter.unnecessarySimpa false
set_option linter.all false
set_option maxRecDepth 100000
namespace Go.Vm.B
open Go.Fl
attribute [local irreducible] IntKind.wrap Go.Fl.fl tnD
variable {P : Program} {E : Env}
theorem rounds20 (g : Good P E) (d : Nat) (l : List (List D)) (cs : List Chg) (hl : cs.length ≤ 8) (hr : ∀ c ∈ cs, c.r.length ≤ 1000) : ∀ (m i f : Nat) (x y : Tab) (ns : List Bool) (k : Int), m = cs.length - i → i ≤ cs.length → m < f → ST k x y → k + m ≤ 999 → (∃ bs, bs.length = i ∧ ns = putAll bs) →
    match appF put x y (cs.drop i) i ns with
    | .inl (e, j) => ∃ x' y' ns', rounds (exec P (run P E T (d + 6)) (refsOf T) 0 v20_1) (forget 0 1795) (forget 0 1009) f (fr20 l x y cs i ns) = some (.ret, fe20e l x' y' ns' e j)
    | .inr (x', y', ns') => rounds (exec P (run P E T (d + 6)) (refsOf T) 0 v20_1) (forget 0 1795) (forget 0 1009) f (fr20 l x y cs i ns) = some (.exit 0, fe20 l x' y' ns') := by
  intro m
  induction m with
  | zero =>
    intro i f x y ns k hm hi hf hst hk hns
    obtain ⟨f, rfl⟩ : ∃ f', f = f' + 1 := ⟨f - 1, by omega⟩
    have : i = cs.length := by omega
    subst this
    rw [List.drop_length, appF, rounds]
    by_cases hn : ns = []
    · simp -implicitDefEqProofs [exB v20_1.eq_1, fr20, fe20, nsW, hn, chsc_len, callX, callIds, frzArgs, passArgs, List.range_succ, List.idxOf?_cons, -forget, ↓get8, ↓set8, mask20a, mask20b, mask20c, mask20d, mask20e, mask20f, mask20g, mask20h]
    · simp -implicitDefEqProofs [exB v20_1.eq_1, fr20, fe20, nsW, hn, chsc_len, callX, callIds, frzArgs, passArgs, List.range_succ, List.idxOf?_cons, -forget, ↓get8, ↓set8, mask20a, mask20b, mask20c, mask20d, mask20e, mask20f, mask20g, mask20h]
  | succ m ih =>
    intro i f x y ns k hm hi hf hst hk hns
    obtain ⟨f, rfl⟩ : ∃ f', f = f' + 1 := ⟨f - 1, by omega⟩
    have hlt : i < cs.length := by omega
    obtain ⟨hs1, _, _⟩ := stp_st hst (by omega) cs[i]
    obtain ⟨bs, hbs, hbn⟩ := hns
    have hnl : ns.length ≤ 1000 := by
      have hok := names_ok bs (by omega)
      rw [← hbn] at hok
      unfold okN at hok
      simp only [Bool.or_eq_true, beq_iff_eq] at hok
      rcases hok with ((h | h) | h) | h <;> rw [h] <;> simp
    rw [List.drop_eq_getElem_cons hlt, appF]
    have hih := ih (i + 1) f _ _ (put ns (decide (cs[i].t = x.n))) (k + 1) (by omega) (by omega) (by omega) hs1 (by omega) ⟨bs ++ [decide (cs[i].t = x.n)], by simp [hbs], by rw [hbn]; simp [putAll, put]⟩
    have hstep := step20 g d l cs hl x y k hst (by omega) i f ns hnl hlt cs[i] rfl (hr _ (List.getElem_mem hlt))
    by_cases h0 : (stp x y cs[i]).1 = 0
    · rw [if_pos h0] at hstep ⊢
      rw [hstep]
      exact hih
    · rw [if_neg h0] at hstep ⊢
      exact ⟨x, y, ns, hstep⟩
def fr20c (x y a b : Tab) (ks : List Bool) (i : Nat) (out : List (List D)) : Fr :=
  ⟨[.d (.lst [tabc x, tabc y]), .bot, .bot, .bot, .bot, .bot, .bot, .bot, .arr 0 0 2, .d (.lst (nmc ks)), .bot, .bot, .bot, .bot, .bot, .bot, ouV 1 out, .d (.int .i64 (i : Nat)), .bot, .bot, .bot, .bot, .bot, .bot, .bot, .bot, .bot, .bot, .bot, .bot, .bot, .bot, .bot, .bot, .bot, .bot, .bot, .bot, .bot, .bot, .bot, .bot, .bot, .bot, .bot, .bot, .bot, .bot, .bot, .bot, .bot, .bot, .bot, .bot, .bot, .bot, .bot, .bot, .bot, .bot, .bot, .bot, .bot, .bot, .bot, .bot, .bot, .bot, .bot, .bot, .bot, .bot, .bot, .bot, .bot, .bot, .bot, .bot, .bot, .bot, .bot, .bot, .bot, .bot, .bot, .bot, .bot, .bot, .bot, .bot, .bot, .bot, .bot, .bot, .bot, .bot, .bot, .bot, .bot, .bot, .bot, .bot, .bot, .bot, .bot, .bot, .bot, .bot, .bot, .bot, .bot, .bot, .bot, .bot, .bot, .bot, .bot, .bot, .bot, .bot, .bot, .bot, .bot, .bot, .bot, .bot, .bot, .bot, .bot, .bot, .bot, .bot, .bot, .bot, .bot, .bot, .bot, .bot, .bot, .bot, .bot, .bot, .bot, .bot, .bot, .bot, .bot, .bot, .bot, .bot, .bot, .bot, .bot, .bot, .bot, .bot, .bot, .bot, .bot, .bot, .bot, .bot, .bot, .bot, .bot, .bot, .bot, .bot, .bot, .bot, .bot, .bot, .bot, .bot, .bot, .bot, .bot, .bot, .bot, .bot, .bot, .bot, .bot, .bot, .bot],
    some (.row 3 [tabc a, tabc b]) :: (if out = [] then [] else [some (.row 2 out)])⟩
def fe20c (a b : Tab) (out : List (List D)) : Fr :=
  ⟨[.bot, .bot, .bot, .bot, .bot, .bot, .bot, .bot, .arr 0 0 2, .bot, .bot, .bot, .bot, .bot, .bot, .bot, ouV 1 out, .bot, .bot, .bot, .bot, .bot, .bot, .bot, .bot, .bot, .bot, .bot, .bot, .bot, .bot, .bot, .bot, .bot, .bot, .bot, .bot, .bot, .bot, .bot, .bot, .bot, .bot, .bot, .bot, .bot, .bot, .bot, .bot, .bot, .bot, .bot, .bot, .bot, .bot, .bot, .bot, .bot, .bot, .bot, .bot, .bot, .bot, .bot, .bot, .bot, .bot, .bot, .bot, .bot, .bot, .bot, .bot, .bot, .bot, .bot, .bot, .bot, .bot, .bot, .bot, .bot, .bot, .bot, .bot, .bot, .bot, .bot, .bot, .bot, .bot, .bot, .bot, .bot, .bot, .bot, .bot, .bot, .bot, .bot, .bot, .bot, .bot, .bot, .bot, .bot, .bot, .bot, .bot, .bot, .bot, .bot, .bot, .bot, .bot, .bot, .bot, .bot, .bot, .bot, .bot, .bot, .bot, .bot, .bot, .bot, .bot, .bot, .bot, .bot, .bot, .bot, .bot, .bot, .bot, .bot, .bot, .bot, .bot, .bot, .bot, .bot, .bot, .bot, .bot, .bot, .bot, .bot, .bot, .bot, .bot, .bot, .bot, .bot, .bot, .bot, .bot, .bot, .bot, .bot, .bot, .bot, .bot, .bot, .bot, .bot, .bot, .bot, .bot, .bot, .bot, .bot, .bot, .bot, .bot, .bot, .bot, .bot, .bot, .bot, .bot, .bot, .bot, .bot, .bot], some (.row 3 [tabc a, tabc b]) :: (if out = [] then [] else [some (.row 2 out)])⟩
set_option maxHeartbeats 32000000 in
theorem rounds20c (g : Good P E) (d : Nat) (x y a b : Tab) (k : Int) (hk : k ≤ 1000) (hst : ST k x y) (hst' : ST k a b) (ks : List Bool) (hl : ks.length ≤ 1000) : ∀ (m i f : Nat) (out : List (List D)), m = ks.length - i → i ≤ ks.length → m < f → out.length = i →
    rounds (exec P (run P E T (d + 6)) (refsOf T) 0 v20_3) (forget 0 197377) (forget 0 66032) f (fr20c x y a b ks i out) = some (.exit 4, fe20c a b (out ++ (ks.drop i).map (dltD x y a b))) := by
  intro m
  induction m with
  | zero =>
    intro i f out hm hi hf ho
    obtain ⟨f, rfl⟩ : ∃ f', f = f' + 1 := ⟨f - 1, by omega⟩
    have : i = ks.length := by omega
    subst this
    rw [List.drop_length, List.map_nil, List.append_nil, rounds]
    by_cases hn : out = []
    · simp -implicitDefEqProofs [exB v20_3.eq_1, fr20c, fe20c, ouV, hn, nmc_len, callX, callIds, frzArgs, passArgs, List.range_succ, List.idxOf?_cons, -forget, ↓get8, ↓set8, mask20a, mask20b, mask20c, mask20d, mask20e, mask20f, mask20g, mask20h]
    · simp -implicitDefEqProofs [exB v20_3.eq_1, fr20c, fe20c, ouV, hn, nmc_len, callX, callIds, frzArgs, passArgs, List.range_succ, List.idxOf?_cons, -forget, ↓get8, ↓set8, mask20a, mask20b, mask20c, mask20d, mask20e, mask20f, mask20g, mask20h]
  | succ m ih =>
    intro i f out hm hi hf ho
    obtain ⟨f, rfl⟩ : ∃ f', f = f' + 1 := ⟨f - 1, by omega⟩
    have hlt : i < ks.length := by omega
    have hI : (i : Int) < ks.length := by omega
    have hx := nmc_get hlt
    have hw : IntKind.i64.wrap ((i : Int) + 1) = (i : Int) + 1 := wrap_small (by omega) (by omega)
    rw [List.drop_eq_getElem_cons hlt, List.map_cons, show out ++ dltD x y a b ks[i] :: (ks.drop (i + 1)).map (dltD x y a b) = (out ++ [dltD x y a b ks[i]]) ++ (ks.drop (i + 1)).map (dltD x y a b) by simp]
    rw [← ih (i + 1) f (out ++ [dltD x y a b ks[i]]) (by omega) (by omega) (by omega) (by simp [ho]), rounds]
    have hds := dlt_ok hst hst' hk hk ks[i]
    have hb1 : out.length + 1 ≤ 4294967296 := by omega
    have hb1n : out.length + 1 ≠ 0 := by omega
    clear ih
    generalize hne : ks[i] = n at *
    cases n with
    | true =>
      have hdx : decide (a.n = nmB true) = true := decide_eq_true hst'.xn
      have hdy : decide (b.n = nmB true) = false := decide_eq_false (by rw [hst'.yn, nm_eq]; decide)
      obtain ⟨k1, k2, k3⟩ := hds
      simp only [cond_true, cond_false] at k1 k2 k3
      have h46 : run P E T (d + 6) 46 [.d (.lst (setc x.rows))] [] = some (.d (.lst (setc (flipS x.rows))), []) := refFlip_run g (d + 1) x.rows hst.tx.gs
      have h44 : run P E T (d + 6) 44 [.d (.lst (setc a.rows)), .d (.lst (setc (flipS x.rows)))] [] = some (.tup [.d (.lst (setc (mkS (a.rows ++ flipS x.rows)))), .d (.int .i64 0)], []) := refAdd_run g d a.rows (flipS x.rows) k1 (by omega) (by omega)
      simp only [dltD, cond_true, cond_false]
      by_cases hn : out = []
      · subst hn
        simp -implicitDefEqProofs [exB v20_3.eq_1, exB v20_2.eq_1, rounds_L, rounds_L1, rounds_L2, wrap1, wrap2, fr20c, ouV, tabc, nmc_len, hlt, hI, hx, hw, hne, hdx, hdy, h44, h46, S_44, S_46, callX, callIds, frzArgs, passArgs, List.range_succ, List.idxOf?_cons, -forget, ↓get8, ↓set8, mask20a, mask20b, mask20c, mask20d, mask20e, mask20f, mask20g, mask20h]
      · simp -implicitDefEqProofs [exB v20_3.eq_1, exB v20_2.eq_1, rounds_L, rounds_L1, rounds_L2, wrap1, wrap2, fr20c, ouV, tabc, nmc_len, hlt, hI, hx, hw, hne, hdx, hdy, hn, hb1, hb1n, h44, h46, S_44, S_46, callX, callIds, frzArgs, passArgs, List.range_succ, List.idxOf?_cons, -forget, ↓get8, ↓set8, mask20a, mask20b, mask20c, mask20d, mask20e, mask20f, mask20g, mask20h]
    | false =>
      have hdx : decide (a.n = nmB false) = false := decide_eq_false (by rw [hst'.xn, nm_eq]; decide)
      have hdy : decide (b.n = nmB false) = true := decide_eq_true hst'.yn
      obtain ⟨k1, k2, k3⟩ := hds
      simp only [cond_true, cond_false] at k1 k2 k3
      have h46 : run P E T (d + 6) 46 [.d (.lst (setc y.rows))] [] = some (.d (.lst (setc (flipS y.rows))), []) := refFlip_run g (d + 1) y.rows hst.ty.gs
      have h44 : run P E T (d + 6) 44 [.d (.lst (setc b.rows)), .d (.lst (setc (flipS y.rows)))] [] = some (.tup [.d (.lst (setc (mkS (b.rows ++ flipS y.rows)))), .d (.int .i64 0)], []) := refAdd_run g d b.rows (flipS y.rows) k1 (by omega) (by omega)
      simp only [dltD, cond_true, cond_false]
      by_cases hn : out = []
      · subst hn
        simp -implicitDefEqProofs [exB v20_3.eq_1, exB v20_2.eq_1, rounds_L, rounds_L1, rounds_L2, wrap1, wrap2, fr20c, ouV, tabc, nmc_len, hlt, hI, hx, hw, hne, hdx, hdy, h44, h46, S_44, S_46, callX, callIds, frzArgs, passArgs, List.range_succ, List.idxOf?_cons, -forget, ↓get8, ↓set8, mask20a, mask20b, mask20c, mask20d, mask20e, mask20f, mask20g, mask20h]
      · simp -implicitDefEqProofs [exB v20_3.eq_1, exB v20_2.eq_1, rounds_L, rounds_L1, rounds_L2, wrap1, wrap2, fr20c, ouV, tabc, nmc_len, hlt, hI, hx, hw, hne, hdx, hdy, hn, hb1, hb1n, h44, h46, S_44, S_46, callX, callIds, frzArgs, passArgs, List.range_succ, List.idxOf?_cons, -forget, ↓get8, ↓set8, mask20a, mask20b, mask20c, mask20d, mask20e, mask20f, mask20g, mask20h]
end Go.Vm.B
namespace Go.Vm.B
open Go.Fl
attribute [local irreducible] IntKind.wrap Go.Fl.fl tnD
variable {P : Program} {E : Env}
theorem putAll_ne (ms : List Bool) (h : ms ≠ []) : putAll ms ≠ [] := by
  obtain ⟨l, b, rfl⟩ : ∃ l b, ms = l ++ [b] := ⟨ms.dropLast, ms.getLast h, (List.dropLast_concat_getLast h).symm⟩
  unfold putAll
  rw [List.foldl_append]
  exact putB_ne _ b false rfl
set_option maxHeartbeats 32000000 in
theorem refApply_run (g : Good P E) (d : Nat) (x y : Tab) (hst : ST 500 x y) (cs : List Chg) (hl : cs.length ≤ 1000) (hr : ∀ c ∈ cs, c.r.length ≤ 1000)
    (h39 : run P E T (d + 6) 39 [.d (.lst [tabc x, tabc y])] [] = some (.d (.bool true), [])) :
    run P E T (d + 7) 20 [.d (.lst [tabc x, tabc y]), .d (.lst (chsc cs))] [] = some (.tup [.d (.lst (applyR x y cs).1), .d (.lst (applyR x y cs).2.1), .d (.int .i64 (applyR x y cs).2.2.1), .d (.int .i64 (applyR x y cs).2.2.2)], []) := by
  rw [run_succ _ _ _ _ _ _ _ _ T_20]
  have hl3 : (tabc x).length = 3 ∧ (tabc y).length = 3 := ⟨rfl, rfl⟩
  unfold applyR
  by_cases h8 : 8 < cs.length
  · have h8I : (8 : Int) < cs.length := by omega
    rw [if_pos h8]
    simp -implicitDefEqProofs [v20, h39, h8, h8I, chsc_len, S_39, callX, callIds, frzArgs, passArgs, List.range_succ, List.idxOf?_cons, -forget, mask20a, mask20b, mask20c, mask20d, mask20e, mask20f, mask20g, mask20h]
  · have h8I : ¬ (8 : Int) < cs.length := by omega
    rw [if_neg h8]
    by_cases h0 : cs.length = 0
    · rw [if_pos h0]
      have h00 : cs = [] := List.eq_nil_of_length_eq_zero h0
      subst h00
      simp -implicitDefEqProofs [v20, h39, chsc, S_39, callX, callIds, frzArgs, passArgs, List.range_succ, List.idxOf?_cons, -forget, mask20a, mask20b, mask20c, mask20d, mask20e, mask20f, mask20g, mask20h]
    · rw [if_neg h0]
      have h00 : cs ≠ [] := fun e => h0 (by rw [e]; rfl)
      have h0I : ¬ ((cs.length : Int) = 0) := by omega
      have hA := rounds20 g d [tabc x, tabc y] cs (by omega) hr cs.length 0 LOOPS x y [] 500 (by omega) (by omega) (by unfold LOOPS; omega) hst (by omega) ⟨[], rfl, rfl⟩
      have hlaw := appF_law put [] cs x y 0 []
      have hstf := appF_st put cs x y 0 [] 500 hst (by omega)
      rw [List.drop_zero] at hA
      simp only [fr20, fe20, fe20e, nsW, if_pos] at hA
      rw [show ((0 : Nat) : Int) = 0 from rfl] at hA
      cases he : appF put x y cs 0 [] with
      | inl q =>
        obtain ⟨e, j⟩ := q
        rw [he] at hA
        obtain ⟨x', y', ns', hA⟩ := hA
        simp -implicitDefEqProofs [v20, h39, h8I, h00, h0I, h8, hl3, chsc_len, hA, S_39, callX, callIds, frzArgs, passArgs, List.range_succ, List.idxOf?_cons, -forget, mask20a, mask20b, mask20c, mask20d, mask20e, mask20f, mask20g, mask20h]
      | inr q =>
        obtain ⟨a, b, ks⟩ := q
        rw [he] at hA
        obtain ⟨hst', _, _⟩ := hstf a b ks he
        have hks : ks ≠ [] ∧ ks.length ≤ 2 := by
          cases hs : appF snoc x y cs 0 [] with
          | inl e => rw [hs] at hlaw; rw [hlaw []] at he; cases he
          | inr q =>
            obtain ⟨a', b', ms⟩ := q
            rw [hs] at hlaw
            obtain ⟨bs, b1, b2, b3⟩ := hlaw
            rw [b3 []] at he
            injection he with he
            injection he with _ he
            injection he with _ he
            rw [← he]
            refine ⟨putAll_ne bs fun e => h0 (by rw [← b1, e]; rfl), ?_⟩
            have hok := names_ok bs (by omega)
            unfold okN at hok
            simp only [Bool.or_eq_true, beq_iff_eq] at hok
            show (putAll bs).length ≤ 2
            rcases hok with ((h | h) | h) | h <;> rw [h] <;> simp
        have hC := rounds20c g d x y a b 600 (by omega) (hst.mono (by omega)) (hst'.mono (by omega)) ks (by omega) ks.length 0 LOOPS [] (by omega) (by omega) (by unfold LOOPS; omega) rfl
        rw [List.drop_zero, List.nil_append] at hC
        simp only [fr20c, ouV, if_pos] at hC
        rw [show ((0 : Nat) : Int) = 0 from rfl] at hC
        simp only [hks.1, if_false] at hA
        have hne : List.map (dltD x y a b) ks ≠ [] := by simpa using hks.1
        dsimp only
        generalize hout : List.map (dltD x y a b) ks = out at *
        simp only [fe20c, ouV, hne, if_false] at hC
        simp -implicitDefEqProofs [v20, h39, h8I, h00, h0I, h8, hne, hl3, chsc_len, hA, hC, S_39, callX, callIds, frzArgs, passArgs, List.range_succ, List.idxOf?_cons, -forget, mask20a, mask20b, mask20c, mask20d, mask20e, mask20f, mask20g, mask20h]
end Go.Vm.B
namespace Go.Vm.B
open Go.Fl
theorem mask11a (ts : List V) (σ : Store) (h : ts.length = 139) : forget 1 79616 ⟨ts, σ⟩ = ⟨(gc 1 (List.zipWith (fun v b => bif b then v else .bot) ts [false, false, false, false, false, false, false, false, true, true, true, false, true, true, false, false, true, false, false, false, false, false, false, false, false, false, false, false, false, false, false, false, false, false, false, false, false, false, false, false, false, false, false, false, false, false, false, false, false, false, false, false, false, false, false, false, false, false, false, false, false, false, false, false, false, false, false, false, false, false, false, false, false, false, false, false, false, false, false, false, false, false, false, false, false, false, false, false, false, false, false, false, false, false, false, false, false, false, false, false, false, false, false, false, false, false, false, false, false, false, false, false, false, false, false, false, false, false, false, false, false, false, false, false, false, false, false, false, false, false, false, false, false, false, false, false, false, false, false]) σ).1, (gc 1 (List.zipWith (fun v b => bif b then v else .bot) ts [false, false, false, false, false, false, false, false, true, true, true, false, true, true, false, false, true, false, false, false, false, false, false, false, false, false, false, false, false, false, false, false, false, false, false, false, false, false, false, false, false, false, false, false, false, false, false, false, false, false, false, false, false, false, false, false, false, false, false, false, false, false, false, false, false, false, false, false, false, false, false, false, false, false, false, false, false, false, false, false, false, false, false, false, false, false, false, false, false, false, false, false, false, false, false, false, false, false, false, false, false, false, false, false, false, false, false, false, false, false, false, false, false, false, false, false, false, false, false, false, false, false, false, false, false, false, false, false, false, false, false, false, false, false, false, false, false, false, false]) σ).2⟩ := forget_mask 1 79616 _ (by decide +kernel) ts σ h
theorem mask11b (ts : List V) (σ : Store) (h : ts.length = 139) : forget 1 10224 ⟨ts, σ⟩ = ⟨(gc 1 (List.zipWith (fun v b => bif b then v else .bot) ts [false, false, false, false, true, true, true, true, true, true, true, false, false, true, false, false, false, false, false, false, false, false, false, false, false, false, false, false, false, false, false, false, false, false, false, false, false, false, false, false, false, false, false, false, false, false, false, false, false, false, false, false, false, false, false, false, false, false, false, false, false, false, false, false, false, false, false, false, false, false, false, false, false, false, false, false, false, false, false, false, false, false, false, false, false, false, false, false, false, false, false, false, false, false, false, false, false, false, false, false, false, false, false, false, false, false, false, false, false, false, false, false, false, false, false, false, false, false, false, false, false, false, false, false, false, false, false, false, false, false, false, false, false, false, false, false, false, false, false]) σ).1, (gc 1 (List.zipWith (fun v b => bif b then v else .bot) ts [false, false, false, false, true, true, true, true, true, true, true, false, false, true, false, false, false, false, false, false, false, false, false, false, false, false, false, false, false, false, false, false, false, false, false, false, false, false, false, false, false, false, false, false, false, false, false, false, false, false, false, false, false, false, false, false, false, false, false, false, false, false, false, false, false, false, false, false, false, false, false, false, false, false, false, false, false, false, false, false, false, false, false, false, false, false, false, false, false, false, false, false, false, false, false, false, false, false, false, false, false, false, false, false, false, false, false, false, false, false, false, false, false, false, false, false, false, false, false, false, false, false, false, false, false, false, false, false, false, false, false, false, false, false, false, false, false, false, false]) σ).2⟩ := forget_mask 1 10224 _ (by decide +kernel) ts σ h
theorem mask11c (ts : List V) (σ : Store) (h : ts.length = 139) : forget 1 141056 ⟨ts, σ⟩ = ⟨(gc 1 (List.zipWith (fun v b => bif b then v else .bot) ts [false, false, false, false, false, false, false, false, true, true, true, false, false, true, false, false, false, true, false, false, false, false, false, false, false, false, false, false, false, false, false, false, false, false, false, false, false, false, false, false, false, false, false, false, false, false, false, false, false, false, false, false, false, false, false, false, false, false, false, false, false, false, false, false, false, false, false, false, false, false, false, false, false, false, false, false, false, false, false, false, false, false, false, false, false, false, false, false, false, false, false, false, false, false, false, false, false, false, false, false, false, false, false, false, false, false, false, false, false, false, false, false, false, false, false, false, false, false, false, false, false, false, false, false, false, false, false, false, false, false, false, false, false, false, false, false, false, false, false]) σ).1, (gc 1 (List.zipWith (fun v b => bif b then v else .bot) ts [false, false, false, false, false, false, false, false, true, true, true, false, false, true, false, false, false, true, false, false, false, false, false, false, false, false, false, false, false, false, false, false, false, false, false, false, false, false, false, false, false, false, false, false, false, false, false, false, false, false, false, false, false, false, false, false, false, false, false, false, false, false, false, false, false, false, false, false, false, false, false, false, false, false, false, false, false, false, false, false, false, false, false, false, false, false, false, false, false, false, false, false, false, false, false, false, false, false, false, false, false, false, false, false, false, false, false, false, false, false, false, false, false, false, false, false, false, false, false, false, false, false, false, false, false, false, false, false, false, false, false, false, false, false, false, false, false, false, false]) σ).2⟩ := forget_mask 1 141056 _ (by decide +kernel) ts σ h
theorem mask11d (ts : List V) (σ : Store) (h : ts.length = 139) : forget 1 2032 ⟨ts, σ⟩ = ⟨(gc 1 (List.zipWith (fun v b => bif b then v else .bot) ts [false, false, false, false, true, true, true, true, true, true, true, false, false, false, false, false, false, false, false, false, false, false, false, false, false, false, false, false, false, false, false, false, false, false, false, false, false, false, false, false, false, false, false, false, false, false, false, false, false, false, false, false, false, false, false, false, false, false, false, false, false, false, false, false, false, false, false, false, false, false, false, false, false, false, false, false, false, false, false, false, false, false, false, false, false, false, false, false, false, false, false, false, false, false, false, false, false, false, false, false, false, false, false, false, false, false, false, false, false, false, false, false, false, false, false, false, false, false, false, false, false, false, false, false, false, false, false, false, false, false, false, false, false, false, false, false, false, false, false]) σ).1, (gc 1 (List.zipWith (fun v b => bif b then v else .bot) ts [false, false, false, false, true, true, true, true, true, true, true, false, false, false, false, false, false, false, false, false, false, false, false, false, false, false, false, false, false, false, false, false, false, false, false, false, false, false, false, false, false, false, false, false, false, false, false, false, false, false, false, false, false, false, false, false, false, false, false, false, false, false, false, false, false, false, false, false, false, false, false, false, false, false, false, false, false, false, false, false, false, false, false, false, false, false, false, false, false, false, false, false, false, false, false, false, false, false, false, false, false, false, false, false, false, false, false, false, false, false, false, false, false, false, false, false, false, false, false, false, false, false, false, false, false, false, false, false, false, false, false, false, false, false, false, false, false, false, false]) σ).2⟩ := forget_mask 1 2032 _ (by decide +kernel) ts σ h
attribute [local irreducible] IntKind.wrap Go.Fl.fl tnD
variable {P : Program} {E : Env}
def tbsc (l : List Tab) : List (List D) := l.map tabc
theorem tbsc_len (l : List Tab) : (tbsc l).length = l.length := by simp [tbsc]
theorem tbsc_get {l : List Tab} {i : Nat} (h : i < l.length) : (tbsc l)[i]? = some (tabc l[i]) := by simp [tbsc, h]
@[simp] theorem tbsc_getElem (l : List Tab) (i : Nat) (h : i < (tbsc l).length) : (tbsc l)[i] = tabc (l[i]'(by rwa [tbsc_len] at h)) := by simp [tbsc]
abbrev Dlt := ByteArray × Set
def dlc (x : Dlt) : List D := [.str x.1, .lst (setc x.2)]
def dlsc (l : List Dlt) : List (List D) := l.map dlc
theorem dlsc_len (l : List Dlt) : (dlsc l).length = l.length := by simp [dlsc]
theorem dlsc_get {l : List Dlt} {i : Nat} (h : i < l.length) : (dlsc l)[i]? = some (dlc l[i]) := by simp [dlsc, h]
@[simp] theorem dlsc_getElem (l : List Dlt) (i : Nat) (h : i < (dlsc l).length) : (dlsc l)[i] = dlc (l[i]'(by rwa [dlsc_len] at h)) := by simp [dlsc]
structure SB2 (s : Set) : Prop where
  row : ∀ x ∈ s, x.1.length ≤ 4294967296 ∧ -1125899906842624 ≤ x.2 ∧ x.2 ≤ 1125899906842624
  len : s.length ≤ 4294967296
def fr11a (o : List (List D)) (l : List Tab) (q r : List (List D)) (e : Int) (i : Nat) : Fr := ⟨[.bot, .bot, .bot, .bot, .bot, .bot, .bot, .bot, .d (.lst (tbsc l)), .d (.lst q), .d (.int .i64 e), .bot, .d (.lst (tbsc l)), .d (.lst r), .bot, .bot, .d (.int .i64 (i : Nat)), .bot, .bot, .bot, .bot, .bot, .bot, .bot, .bot, .bot, .bot, .bot, .bot, .bot, .bot, .bot, .bot, .bot, .bot, .bot, .bot, .bot, .bot, .bot, .bot, .bot, .bot, .bot, .bot, .bot, .bot, .bot, .bot, .bot, .bot, .bot, .bot, .bot, .bot, .bot, .bot, .bot, .bot, .bot, .bot, .bot, .bot, .bot, .bot, .bot, .bot, .bot, .bot, .bot, .bot, .bot, .bot, .bot, .bot, .bot, .bot, .bot, .bot, .bot, .bot, .bot, .bot, .bot, .bot, .bot, .bot, .bot, .bot, .bot, .bot, .bot, .bot, .bot, .bot, .bot, .bot, .bot, .bot, .bot, .bot, .bot, .bot, .bot, .bot, .bot, .bot, .bot, .bot, .bot, .bot, .bot, .bot, .bot, .bot, .bot, .bot, .bot, .bot, .bot, .bot, .bot, .bot, .bot, .bot, .bot, .bot, .bot, .bot, .bot, .bot, .bot, .bot, .bot, .bot, .bot, .bot, .bot, .bot], [some (.row 3 o)]⟩
def fe11a (o : List (List D)) (l : List Tab) (q r : List (List D)) (e : Int) : Fr := ⟨[.bot, .bot, .bot, .bot, .bot, .bot, .bot, .bot, .d (.lst (tbsc l)), .d (.lst q), .d (.int .i64 e), .bot, .bot, .d (.lst r), .bot, .bot, .bot, .bot, .bot, .bot, .bot, .bot, .bot, .bot, .bot, .bot, .bot, .bot, .bot, .bot, .bot, .bot, .bot, .bot, .bot, .bot, .bot, .bot, .bot, .bot, .bot, .bot, .bot, .bot, .bot, .bot, .bot, .bot, .bot, .bot, .bot, .bot, .bot, .bot, .bot, .bot, .bot, .bot, .bot, .bot, .bot, .bot, .bot, .bot, .bot, .bot, .bot, .bot, .bot, .bot, .bot, .bot, .bot, .bot, .bot, .bot, .bot, .bot, .bot, .bot, .bot, .bot, .bot, .bot, .bot, .bot, .bot, .bot, .bot, .bot, .bot, .bot, .bot, .bot, .bot, .bot, .bot, .bot, .bot, .bot, .bot, .bot, .bot, .bot, .bot, .bot, .bot, .bot, .bot, .bot, .bot, .bot, .bot, .bot, .bot, .bot, .bot, .bot, .bot, .bot, .bot, .bot, .bot, .bot, .bot, .bot, .bot, .bot, .bot, .bot, .bot, .bot, .bot, .bot, .bot, .bot, .bot, .bot, .bot], [some (.row 3 o)]⟩
def fr11b (o : List (List D)) (l : List (List D)) (q : List Dlt) (e : Int) (i : Nat) : Fr := ⟨[.bot, .bot, .bot, .bot, .bot, .bot, .bot, .bot, .d (.lst l), .d (.lst (dlsc q)), .d (.int .i64 e), .bot, .bot, .d (.lst (dlsc q)), .bot, .bot, .bot, .d (.int .i64 (i : Nat)), .bot, .bot, .bot, .bot, .bot, .bot, .bot, .bot, .bot, .bot, .bot, .bot, .bot, .bot, .bot, .bot, .bot, .bot, .bot, .bot, .bot, .bot, .bot, .bot, .bot, .bot, .bot, .bot, .bot, .bot, .bot, .bot, .bot, .bot, .bot, .bot, .bot, .bot, .bot, .bot, .bot, .bot, .bot, .bot, .bot, .bot, .bot, .bot, .bot, .bot, .bot, .bot, .bot, .bot, .bot, .bot, .bot, .bot, .bot, .bot, .bot, .bot, .bot, .bot, .bot, .bot, .bot, .bot, .bot, .bot, .bot, .bot, .bot, .bot, .bot, .bot, .bot, .bot, .bot, .bot, .bot, .bot, .bot, .bot, .bot, .bot, .bot, .bot, .bot, .bot, .bot, .bot, .bot, .bot, .bot, .bot, .bot, .bot, .bot, .bot, .bot, .bot, .bot, .bot, .bot, .bot, .bot, .bot, .bot, .bot, .bot, .bot, .bot, .bot, .bot, .bot, .bot, .bot, .bot, .bot, .bot], [some (.row 3 o)]⟩
def fe11b (o : List (List D)) (l : List (List D)) (q : List Dlt) (e : Int) : Fr := ⟨[.bot, .bot, .bot, .bot, .bot, .bot, .bot, .bot, .d (.lst l), .d (.lst (dlsc q)), .d (.int .i64 e), .bot, .bot, .bot, .bot, .bot, .bot, .bot, .bot, .bot, .bot, .bot, .bot, .bot, .bot, .bot, .bot, .bot, .bot, .bot, .bot, .bot, .bot, .bot, .bot, .bot, .bot, .bot, .bot, .bot, .bot, .bot, .bot, .bot, .bot, .bot, .bot, .bot, .bot, .bot, .bot, .bot, .bot, .bot, .bot, .bot, .bot, .bot, .bot, .bot, .bot, .bot, .bot, .bot, .bot, .bot, .bot, .bot, .bot, .bot, .bot, .bot, .bot, .bot, .bot, .bot, .bot, .bot, .bot, .bot, .bot, .bot, .bot, .bot, .bot, .bot, .bot, .bot, .bot, .bot, .bot, .bot, .bot, .bot, .bot, .bot, .bot, .bot, .bot, .bot, .bot, .bot, .bot, .bot, .bot, .bot, .bot, .bot, .bot, .bot, .bot, .bot, .bot, .bot, .bot, .bot, .bot, .bot, .bot, .bot, .bot, .bot, .bot, .bot, .bot, .bot, .bot, .bot, .bot, .bot, .bot, .bot, .bot, .bot, .bot, .bot, .bot, .bot, .bot], [some (.row 3 o)]⟩
set_option maxHeartbeats 16000000 in
theorem rounds11a (c : Cmp P) (d : Nat) (o : List (List D)) (l : List Tab) (q r : List (List D)) (e : Int) (hl : l.length ≤ 1000) (hc : ∀ t ∈ l, t.cols.length ≤ 4294967296 ∧ SB2 t.rows) : ∀ (m i f : Nat), m = l.length - i → i ≤ l.length → m < f →
    rounds (exec P (run P E T (d + 2)) (refsOf T) 1 v11_0) (forget 1 79616) (forget 1 10224) f (fr11a o l q r e i) = some (.exit 0, fe11a o l q r e) := by
  intro m
  induction m with
  | zero =>
    intro i f hm hi hf
    obtain ⟨f, rfl⟩ : ∃ f', f = f' + 1 := ⟨f - 1, by omega⟩
    have : i = l.length := by omega
    subst this
    rw [rounds]
    simp -implicitDefEqProofs [exB v11_0.eq_1, fr11a, fe11a, tbsc_len, callX, callIds, frzArgs, passArgs, List.range_succ, List.idxOf?_cons, -forget, mask11a, mask11b, mask11c, mask11d]
  | succ m ih =>
    intro i f hm hi hf
    obtain ⟨f, rfl⟩ : ∃ f', f = f' + 1 := ⟨f - 1, by omega⟩
    have hlt : i < l.length := by omega
    have hI : (i : Int) < l.length := by omega
    have hx := tbsc_get hlt
    have hw : IntKind.i64.wrap ((i : Int) + 1) = (i : Int) + 1 := wrap_small (by omega) (by omega)
    obtain ⟨h1, h2⟩ := hc _ (List.getElem_mem hlt)
    rw [← ih (i + 1) f (by omega) (by omega) (by omega), rounds]
    clear ih
    generalize hte : l[i] = t at *
    have h22 : run P E T (d + 2) 22 [.d (.lst (colsc t.cols)), .d (.lst (colsc t.cols))] [] = some (.d (.bool true), []) := colsEq_run c (d + 1) t.cols h1
    have h23 := setEq_run (E := E) c d t.rows h2.row h2.len
    simp -implicitDefEqProofs [exB v11_0.eq_1, fr11a, tbsc_len, hlt, hI, hx, hte, tabc, hw, h22, h23, S_22, S_23, callX, callIds, frzArgs, passArgs, List.range_succ, List.idxOf?_cons, -forget, mask11a, mask11b, mask11c, mask11d]
set_option maxHeartbeats 16000000 in
theorem rounds11b (c : Cmp P) (d : Nat) (o : List (List D)) (l : List (List D)) (q : List Dlt) (e : Int) (hl : q.length ≤ 1000) (hc : ∀ t ∈ q, SB2 t.2) : ∀ (m i f : Nat), m = q.length - i → i ≤ q.length → m < f →
    rounds (exec P (run P E T (d + 2)) (refsOf T) 1 v11_1) (forget 1 141056) (forget 1 2032) f (fr11b o l q e i) = some (.exit 2, fe11b o l q e) := by
  intro m
  induction m with
  | zero =>
    intro i f hm hi hf
    obtain ⟨f, rfl⟩ : ∃ f', f = f' + 1 := ⟨f - 1, by omega⟩
    have : i = q.length := by omega
    subst this
    rw [rounds]
    simp -implicitDefEqProofs [exB v11_1.eq_1, fr11b, fe11b, dlsc_len, callX, callIds, frzArgs, passArgs, List.range_succ, List.idxOf?_cons, -forget, mask11a, mask11b, mask11c, mask11d]
  | succ m ih =>
    intro i f hm hi hf
    obtain ⟨f, rfl⟩ : ∃ f', f = f' + 1 := ⟨f - 1, by omega⟩
    have hlt : i < q.length := by omega
    have hI : (i : Int) < q.length := by omega
    have hx := dlsc_get hlt
    have hw : IntKind.i64.wrap ((i : Int) + 1) = (i : Int) + 1 := wrap_small (by omega) (by omega)
    have h2 := hc _ (List.getElem_mem hlt)
    rw [← ih (i + 1) f (by omega) (by omega) (by omega), rounds]
    clear ih
    generalize hte : q[i] = t at *
    have h23 := setEq_run (E := E) c d t.2 h2.row h2.len
    simp -implicitDefEqProofs [exB v11_1.eq_1, fr11b, dlsc_len, hlt, hI, hx, hte, dlc, hw, h23, S_22, S_23, callX, callIds, frzArgs, passArgs, List.range_succ, List.idxOf?_cons, -forget, mask11a, mask11b, mask11c, mask11d]
/-- The answer of the changes: what tables and Deltas it holds. -/
theorem applyR_form (x y : Tab) (hst : ST 500 x y) (cs : List Chg) (hl : cs.length ≤ 400) : ∃ (l : List Tab) (q : List Dlt), (applyR x y cs).1 = tbsc l ∧ (applyR x y cs).2.1 = dlsc q ∧ l.length ≤ 1000 ∧ q.length ≤ 1000 ∧ (∀ t ∈ l, t.cols.length ≤ 4294967296 ∧ SB2 t.rows) ∧ ∀ t ∈ q, SB2 t.2 := by
  have none : ∃ (l : List Tab) (q : List Dlt), ([] : List (List D)) = tbsc l ∧ ([] : List (List D)) = dlsc q ∧ l.length ≤ 1000 ∧ q.length ≤ 1000 ∧ (∀ t ∈ l, t.cols.length ≤ 4294967296 ∧ SB2 t.rows) ∧ ∀ t ∈ q, SB2 t.2 := ⟨[], [], rfl, rfl, by simp, by simp, fun _ h => by simp at h, fun _ h => by simp at h⟩
  have sb : ∀ s : Set, GS s → SB2 s := fun s h => ⟨fun x hx => ⟨by have := right_len (h.right x hx); omega, h.lo x hx, h.hi x hx⟩, h.len⟩
  unfold applyR
  split
  · exact none
  · rename_i h8
    split
    · exact none
    · split
      · exact none
      · rename_i a b ks he
        obtain ⟨hst', _, _⟩ := appF_st put cs x y 0 [] 500 hst (by omega) a b ks he
        have hks : ks.length ≤ 2 := by
          have hlaw := appF_law put [] cs x y 0 []
          cases hs : appF snoc x y cs 0 [] with
          | inl e => rw [hs] at hlaw; rw [hlaw []] at he; cases he
          | inr q =>
            obtain ⟨a', b', ms⟩ := q
            rw [hs] at hlaw
            obtain ⟨bs, b1, b2, b3⟩ := hlaw
            rw [b3 []] at he
            injection he with he
            injection he with _ he
            injection he with _ he
            rw [← he]
            have hok := names_ok bs (by omega)
            unfold okN at hok
            simp only [Bool.or_eq_true, beq_iff_eq] at hok
            show (putAll bs).length ≤ 2
            rcases hok with ((h | h) | h) | h <;> rw [h] <;> simp
        refine ⟨[a, b], ks.map fun n => (nmB n, mkS ((bif n then a.rows else b.rows) ++ flipS (bif n then x.rows else y.rows))), rfl, ?_, by simp, by simp; omega, fun t ht => ?_, fun t ht => ?_⟩
        · show ks.map (dltD x y a b) = _
          unfold dlsc
          rw [List.map_map]
          rfl
        · simp only [List.mem_cons, List.mem_nil_iff, or_false] at ht
          rcases ht with rfl | rfl
          · exact ⟨by have := hst'.tx.cols.2; omega, sb _ hst'.tx.gs⟩
          · exact ⟨by have := hst'.ty.cols.2; omega, sb _ hst'.ty.gs⟩
        · obtain ⟨n, hn, rfl⟩ := List.mem_map.mp ht
          obtain ⟨k1, k2, k3⟩ := dlt_ok (hst.mono (show (500 : Int) ≤ 900 by omega)) (hst'.mono (show (500 : Int) + cs.length ≤ 900 by omega)) (by omega) (by omega) n
          exact sb _ (mkS_gs _ k1.right (by omega) (by omega))
set_option maxHeartbeats 16000000 in
theorem both_run (g : Good P E) (c : Cmp P) (d : Nat) (x y : Tab) (hst : ST 500 x y) (cs : List Chg) (hl : cs.length ≤ 400) (hr : ∀ c ∈ cs, c.r.length ≤ 1000)
    (h31 : ∀ d, run P E T (d + 105) 31 [.d (.lst [tabc x, tabc y])] [] = some (.d (.bool true), []))
    (h39 : ∀ d, run P E T (d + 6) 39 [.d (.lst [tabc x, tabc y])] [] = some (.d (.bool true), [])) :
    run P E T (d + 107) 11 [.arr 0 0 2, .d (.lst (chsc cs))] [some (.row 3 [tabc x, tabc y])] = some (.tup [.d (.lst (applyR x y cs).1), .d (.lst (applyR x y cs).2.1), .d (.int .i64 (applyR x y cs).2.2.1), .d (.bool true)], [some (.row 3 [tabc x, tabc y])]) := by
  rw [run_succ _ _ _ _ _ _ _ _ T_11]
  have h19 := apply_run g d x y hst cs (by omega) hr (h31 d)
  have h20 : run P E T (d + 106) 20 [.d (.lst [tabc x, tabc y]), .d (.lst (chsc cs))] [] = some (.tup [.d (.lst (applyR x y cs).1), .d (.lst (applyR x y cs).2.1), .d (.int .i64 (applyR x y cs).2.2.1), .d (.int .i64 (applyR x y cs).2.2.2)], []) := refApply_run g (d + 99) x y hst cs (by omega) hr (h39 (d + 99))
  have h21 : run P E T (d + 106) 21 [.arr 0 0 2] [some (.row 3 [tabc x, tabc y])] = some (.d (.lst [tabc x, tabc y]), [some (.row 3 [tabc x, tabc y])]) := in_run P E (d + 105) x y
  obtain ⟨l, q, e1, e2, l1, l2, l3, l4⟩ := applyR_form x y hst cs hl
  rw [e1, e2] at h19 h20 ⊢
  generalize (applyR x y cs).2.2.1 = e at *
  generalize (applyR x y cs).2.2.2 = at' at *
  have hA : rounds (exec P (run P E T (d + 106)) (refsOf T) 1 v11_0) (forget 1 79616) (forget 1 10224) LOOPS (fr11a [tabc x, tabc y] l (dlsc q) (dlsc q) e 0) = some (.exit 0, fe11a [tabc x, tabc y] l (dlsc q) (dlsc q) e) := rounds11a c (d + 104) _ l _ _ e l1 l3 _ 0 LOOPS rfl (by omega) (by unfold LOOPS; omega)
  have hB : rounds (exec P (run P E T (d + 106)) (refsOf T) 1 v11_1) (forget 1 141056) (forget 1 2032) LOOPS (fr11b [tabc x, tabc y] (tbsc l) q e 0) = some (.exit 2, fe11b [tabc x, tabc y] (tbsc l) q e) := rounds11b c (d + 104) _ _ q e l2 l4 _ 0 LOOPS rfl (by omega) (by unfold LOOPS; omega)
  simp only [fr11a, fe11a, fr11b, fe11b] at hA hB
  rw [show ((0 : Nat) : Int) = 0 from rfl] at hA hB
  generalize [tabc x, tabc y] = o at *
  simp -implicitDefEqProofs [v11, h19, h20, h21, hA, hB, S_19, S_20, S_21, callX, callIds, frzArgs, passArgs, List.range_succ, List.idxOf?_cons, -forget, mask11a, mask11b, mask11c, mask11d]
end Go.Vm.B
namespace Go.Vm
open Go.Fl
variable {P : Program}
@[simp] theorem scal_cxa (ts : List V) (t u u' ty : Nat) (c : Value) : scal P ts (.call { callee := .builtin .complex, args := #[(.tmp t), .const c], argTypes := #[u, u'] }) ty = scal1 P (.call { callee := .builtin .complex, args := #[(.tmp 0), .const c], argTypes := #[u, u'] }) ty (ts.getD t .bot) := by
  unfold scal1 scal
  simp [Op.operands, Call.operands, execOp, resolve, evOpd]
@[simp] theorem scal_cxb (ts : List V) (t u u' ty : Nat) (c : Value) : scal P ts (.call { callee := .builtin .complex, args := #[.const c, (.tmp t)], argTypes := #[u, u'] }) ty = scal1 P (.call { callee := .builtin .complex, args := #[.const c, (.tmp 0)], argTypes := #[u, u'] }) ty (ts.getD t .bot) := by
  unfold scal1 scal
  simp [Op.operands, Call.operands, execOp, resolve, evOpd]
@[simp] theorem s1_cxa (a b u u' ty : Nat) : scal1 P (.call { callee := .builtin .complex, args := #[(.tmp 0), .const (.float .f64 b)], argTypes := #[u, u'] }) ty (.d (.float .f64 a)) = some (.d (.complex .f64 a b)) := scal_complex rfl rfl
@[simp] theorem s1_cxb (a b u u' ty : Nat) : scal1 P (.call { callee := .builtin .complex, args := #[.const (.float .f64 b), (.tmp 0)], argTypes := #[u, u'] }) ty (.d (.float .f64 a)) = some (.d (.complex .f64 b a)) := scal_complex rfl rfl
theorem binD_rem (ty : TypeId) (a b : Int) (hb : b ≠ 0) : binD P .rem ty (.d (.int .i64 a)) (.d (.int .i64 b)) = some (.d (.int .i64 (a.tmod b))) := by
  simp [binD, binOp, Op.intDiv, pureRun, ofVal, pure, hb]
end Go.Vm
namespace Go.Vm.B
open Go.Fl
attribute [local irreducible] IntKind.wrap Go.Fl.fl tnD
variable {P : Program} {E : Env}
theorem nm_u : nmB true = ⟨#[117]⟩ := by unfold nmB; rfl
theorem nm_t : nmB false = ⟨#[116]⟩ := by unfold nmB; rfl
def num (n : Int) : Val := ⟨1, n, nilS⟩
def strV (s : ByteArray) : Val := ⟨2, 0, s⟩
theorem num_run (P : Program) (E : Env) (d : Nat) (n : Int) : run P E T (d + 1) 9 [.d (.int .i64 n)] [] = some (.agg [.d (.int .i64 1), .d (.int .i64 n), .d (.str nilS)], []) := by
  rw [run_succ _ _ _ _ _ _ _ _ T_9]
  simp -implicitDefEqProofs [v9]
theorem str_run (P : Program) (E : Env) (d : Nat) (s : ByteArray) : run P E T (d + 1) 10 [.d (.str s)] [] = some (.agg [.d (.int .i64 2), .d (.int .i64 0), .d (.str s)], []) := by
  rw [run_succ _ _ _ _ _ _ _ _ T_10]
  simp -implicitDefEqProofs [v10]
def colsU : List Col := [(⟨#[97]⟩, 1), (⟨#[99]⟩, 1)]
def colsT : List Col := [(⟨#[97]⟩, 1), (⟨#[98]⟩, 1), (⟨#[115]⟩, 2)]
theorem u_run (P : Program) (E : Env) (d : Nat) : run P E T (d + 1) 16 [] [] = some (.d (.lst (colsc colsU)), []) := by
  rw [run_succ _ _ _ _ _ _ _ _ T_16]
  simp -implicitDefEqProofs [v16, colsc, colc, colsU, List.range_succ]
theorem t_run (P : Program) (E : Env) (d : Nat) : run P E T (d + 1) 17 [] [] = some (.d (.lst (colsc colsT)), []) := by
  rw [run_succ _ _ _ _ _ _ _ _ T_17]
  simp -implicitDefEqProofs [v17, colsc, colc, colsT, List.range_succ]
def nums2 (a b : Int) : Row := [num a, num b]
theorem nums_run (P : Program) (E : Env) (d : Nat) (a b : Int) : run P E T (d + 2) 6 [.d (.lst [[.int .i64 a], [.int .i64 b]])] [] = some (.d (.lst (nums2 a b).c), []) := by
  rw [run_succ _ _ _ _ _ _ _ _ T_6]
  have h1 := num_run P E d
  simp -implicitDefEqProofs [v6, exB v6_0.eq_1, rounds_L, rounds_L1, rounds_L2, wrap1, wrap2, h1, nums2, num, Row.c, Val.c, S_9, List.range_succ, List.idxOf?_cons]
theorem keepOne_run (g : Good P E) (d : Nat) (n : Int) (hn : 0 < n) (r : Row) : run P E T (d + 1) 12 [.d (.int .i64 n), .d (.lst r.c)] [] = some (.d (.lst (setc [(r, n)])), []) := by
  rw [run_succ _ _ _ _ _ _ _ _ T_12]
  have e : ¬ (n < 0) := by omega
  have hc := fun ty => g.c1' n ty (by omega)
  have ht : tnD n = .complex .f64 (fl n.toNat) 0 := by
    unfold tnD; rw [show (-n).toNat = 0 by omega, ← fl0]
  simp -implicitDefEqProofs [v12, e, hc, setc, itc, ht, List.range_succ]
theorem keepOneM_run (g : Good P E) (d : Nat) (n : Int) (hn : n < 0) (hn2 : -1125899906842624 ≤ n) (r : Row) : run P E T (d + 1) 12 [.d (.int .i64 n), .d (.lst r.c)] [] = some (.d (.lst (setc [(r, n)])), []) := by
  rw [run_succ _ _ _ _ _ _ _ _ T_12]
  have hc := fun ty => g.c1' (-n) ty (by omega)
  have hw : IntKind.i64.wrap (-n) = -n := wrap_small (by omega) (by omega)
  have ht : tnD n = .complex .f64 0 (fl (-n).toNat) := by
    unfold tnD; rw [show n.toNat = 0 by omega, ← fl0]
  simp -implicitDefEqProofs [v12, hn, hc, hw, setc, itc, ht, List.range_succ]
theorem keepPut_run (P : Program) (E : Env) (d : Nat) (t : ByteArray) (r : Row) : run P E T (d + 1) 5 [.d (.str t), .d (.lst r.c)] [] = some (.agg [.d (.str t), .d (.lst r.c), .d (.bool false)], []) := by
  rw [run_succ _ _ _ _ _ _ _ _ T_5]
  simp -implicitDefEqProofs [v5]
theorem keepTake_run (P : Program) (E : Env) (d : Nat) (t : ByteArray) (r : Row) : run P E T (d + 1) 8 [.d (.str t), .d (.lst r.c)] [] = some (.agg [.d (.str t), .d (.lst r.c), .d (.bool true)], []) := by
  rw [run_succ _ _ _ _ _ _ _ _ T_8]
  simp -implicitDefEqProofs [v8]
theorem near_run (P : Program) (E : Env) (d : Nat) (k : Int) : run P E T (d + 1) 24 [.d (.int .i64 k)] [] = some (.d (.int .i64 (if k < -1000 ∨ 1000 < k then 0 else k)), []) := by
  rw [run_succ _ _ _ _ _ _ _ _ T_24]
  by_cases h1 : k < -1000
  · have h : k < -1000 ∨ 1000 < k := Or.inl h1
    rw [if_pos h]
    simp -implicitDefEqProofs [v24, h1]
  · by_cases h2 : 1000 < k
    · have h : k < -1000 ∨ 1000 < k := Or.inr h2
      rw [if_pos h]
      simp -implicitDefEqProofs [v24, h1, h2]
    · have h : ¬ (k < -1000 ∨ 1000 < k) := by omega
      rw [if_neg h]
      simp -implicitDefEqProofs [v24, h1, h2]
end Go.Vm.B
namespace Go.Vm.B
open Go.Fl
attribute [local irreducible] IntKind.wrap Go.Fl.fl tnD
variable {P : Program} {E : Env}
def tmN : Row → Int
  | [] => 0
  | v :: _ => v.n.tmod 4
def tmM : Row → Int
  | _ :: w :: _ => w.n.tmod 4
  | _ => 0
def tmS : Row → ByteArray
  | _ :: w :: _ => if 2 < w.s.size then w.s.extract 0 2 else w.s
  | _ => nilS
def tame (c : Chg) : Chg := if c.t.size % 2 = 0 then ⟨nmB false, [num (tmN c.r), num (tmM c.r), strV (tmS c.r)], c.m⟩ else ⟨nmB true, [num (tmN c.r), num (tmM c.r)], c.m⟩
theorem tmod2 (n : Nat) : ((n : Int)).tmod 2 = ((n % 2 : Nat) : Int) := by
  rw [Int.tmod_eq_emod_of_nonneg (by omega)]; omega
set_option maxHeartbeats 16000000 in
theorem tame_run (P : Program) (E : Env) (d : Nat) (c : Chg) : run P E T (d + 2) 15 [.agg [.d (.str c.t), .d (.lst c.r.c), .d (.bool c.m)]] [] = some (.agg [.d (.str (tame c).t), .d (.lst (tame c).r.c), .d (.bool (tame c).m)], []) := by
  rw [run_succ _ _ _ _ _ _ _ _ T_15]
  obtain ⟨t, r, m⟩ := c
  have h9 := num_run P E d
  have h10 := str_run P E d
  have htm := tmod2 t.size
  unfold tame
  dsimp only
  match r with
  | [] =>
    unfold tmN tmM tmS
    dsimp only
    have hn : nilS.size = 0 := rfl
    by_cases hp : t.size % 2 = 0
    · rw [if_pos hp]
      rw [hp] at htm
      simp only [Row.c, List.map_cons, List.map_nil, Val.c, num, strV, nm_t]
      simp -implicitDefEqProofs [v15, htm, hn, List.range_succ, List.idxOf?_cons, binD_rem, h9, h10, S_9, S_10, callX, callIds, frzArgs, passArgs]
    · rw [if_neg hp]
      have hp1 : t.size % 2 = 1 := by omega
      rw [hp1] at htm
      simp only [Row.c, List.map_cons, List.map_nil, Val.c, num, strV, nm_u]
      simp -implicitDefEqProofs [v15, htm, hn, List.range_succ, List.idxOf?_cons, binD_rem, h9, h10, S_9, S_10, callX, callIds, frzArgs, passArgs]
  | [v] =>
    unfold tmN tmM tmS
    dsimp only
    have hn : nilS.size = 0 := rfl
    by_cases hp : t.size % 2 = 0
    · rw [if_pos hp]
      rw [hp] at htm
      simp only [Row.c, List.map_cons, List.map_nil, Val.c, num, strV, nm_t]
      simp -implicitDefEqProofs [v15, htm, hn, List.range_succ, List.idxOf?_cons, binD_rem, h9, h10, S_9, S_10, callX, callIds, frzArgs, passArgs]
    · rw [if_neg hp]
      have hp1 : t.size % 2 = 1 := by omega
      rw [hp1] at htm
      simp only [Row.c, List.map_cons, List.map_nil, Val.c, num, strV, nm_u]
      simp -implicitDefEqProofs [v15, htm, hn, List.range_succ, List.idxOf?_cons, binD_rem, h9, h10, S_9, S_10, callX, callIds, frzArgs, passArgs]
  | v :: w :: rest =>
    unfold tmN tmM tmS
    dsimp only
    have e1 : (1 : Int) < ((rest.length + 1 + 1 : Nat) : Int) := by omega
    have e0 : (0 : Int) < ((rest.length + 1 + 1 : Nat) : Int) := by omega
    have e1' : (1 : Int) < (rest.length : Int) + 1 + 1 := by omega
    have e0' : (0 : Int) < (rest.length : Int) + 1 + 1 := by omega
    by_cases hs : 2 < w.s.size
    · have hsI : (2 : Int) < w.s.size := by omega
      have hsI2 : (2 : Int) ≤ w.s.size := by omega
      rw [if_pos hs]
      by_cases hp : t.size % 2 = 0
      · rw [if_pos hp]
        rw [hp] at htm
        simp only [Row.c, List.map_cons, List.map_nil, Val.c, num, strV, nm_t]
        simp -implicitDefEqProofs [v15, htm, e1, e0, e1', e0', hs, hsI, hsI2, List.range_succ, List.idxOf?_cons, binD_rem, h9, h10, S_9, S_10, callX, callIds, frzArgs, passArgs]
      · rw [if_neg hp]
        have hp1 : t.size % 2 = 1 := by omega
        rw [hp1] at htm
        simp only [Row.c, List.map_cons, List.map_nil, Val.c, num, strV, nm_u]
        simp -implicitDefEqProofs [v15, htm, e1, e0, e1', e0', hs, hsI, hsI2, List.range_succ, List.idxOf?_cons, binD_rem, h9, h10, S_9, S_10, callX, callIds, frzArgs, passArgs]
    · have hsI : ¬ (2 : Int) < w.s.size := by omega
      rw [if_neg hs]
      by_cases hp : t.size % 2 = 0
      · rw [if_pos hp]
        rw [hp] at htm
        simp only [Row.c, List.map_cons, List.map_nil, Val.c, num, strV, nm_t]
        simp -implicitDefEqProofs [v15, htm, e1, e0, e1', e0', hs, hsI, List.range_succ, List.idxOf?_cons, binD_rem, h9, h10, S_9, S_10, callX, callIds, frzArgs, passArgs]
      · rw [if_neg hp]
        have hp1 : t.size % 2 = 1 := by omega
        rw [hp1] at htm
        simp only [Row.c, List.map_cons, List.map_nil, Val.c, num, strV, nm_u]
        simp -implicitDefEqProofs [v15, htm, e1, e0, e1', e0', hs, hsI, List.range_succ, List.idxOf?_cons, binD_rem, h9, h10, S_9, S_10, callX, callIds, frzArgs, passArgs]
end Go.Vm.B
