/- A part of the proofs of the statements BatchTells and BatchNumbers: C53, C54, C55. Conditions: none of its own. -/
import Derived.Test.YtoaafpebcdfniaaGreatT18
set_option linter.unusedSimpArgs false
set_option linter.unusedVariables false
set_option linter.unnecessarySimpa false
set_option linter.all false
set_option maxRecDepth 100000
namespace Go.Vm.B
open Go.Fl
theorem mask19a (ts : List V) (σ : Store) (h : ts.length = 89) : forget 1 60129542913 ⟨ts, σ⟩ = ⟨(gc 1 (List.zipWith (fun v b => bif b then v else .bot) ts [true, false, false, false, false, false, false, false, true, true, false, false, false, false, false, false, false, false, false, false, false, false, false, false, false, false, false, false, false, false, false, false, false, true, true, true, false, false, false, false, false, false, false, false, false, false, false, false, false, false, false, false, false, false, false, false, false, false, false, false, false, false, false, false, false, false, false, false, false, false, false, false, false, false, false, false, false, false, false, false, false, false, false, false, false, false, false, false, false]) σ).1, (gc 1 (List.zipWith (fun v b => bif b then v else .bot) ts [true, false, false, false, false, false, false, false, true, true, false, false, false, false, false, false, false, false, false, false, false, false, false, false, false, false, false, false, false, false, false, false, false, true, true, true, false, false, false, false, false, false, false, false, false, false, false, false, false, false, false, false, false, false, false, false, false, false, false, false, false, false, false, false, false, false, false, false, false, false, false, false, false, false, false, false, false, false, false, false, false, false, false, false, false, false, false, false, false]) σ).2⟩ := forget_mask 1 60129542913 _ (by decide +kernel) ts σ h
theorem mask19b (ts : List V) (σ : Store) (h : ts.length = 89) : forget 1 1009 ⟨ts, σ⟩ = ⟨(gc 1 (List.zipWith (fun v b => bif b then v else .bot) ts [true, false, false, false, true, true, true, true, true, true, false, false, false, false, false, false, false, false, false, false, false, false, false, false, false, false, false, false, false, false, false, false, false, false, false, false, false, false, false, false, false, false, false, false, false, false, false, false, false, false, false, false, false, false, false, false, false, false, false, false, false, false, false, false, false, false, false, false, false, false, false, false, false, false, false, false, false, false, false, false, false, false, false, false, false, false, false, false, false]) σ).1, (gc 1 (List.zipWith (fun v b => bif b then v else .bot) ts [true, false, false, false, true, true, true, true, true, true, false, false, false, false, false, false, false, false, false, false, false, false, false, false, false, false, false, false, false, false, false, false, false, false, false, false, false, false, false, false, false, false, false, false, false, false, false, false, false, false, false, false, false, false, false, false, false, false, false, false, false, false, false, false, false, false, false, false, false, false, false, false, false, false, false, false, false, false, false, false, false, false, false, false, false, false, false, false, false]) σ).2⟩ := forget_mask 1 1009 _ (by decide +kernel) ts σ h
theorem mask19c (ts : List V) (σ : Store) (h : ts.length = 89) : forget 1 504403158265504001 ⟨ts, σ⟩ = ⟨(gc 1 (List.zipWith (fun v b => bif b then v else .bot) ts [true, false, false, false, false, false, false, false, true, false, false, false, false, true, false, false, false, false, false, false, false, false, false, false, false, false, false, false, false, false, false, false, false, false, false, false, false, false, false, false, false, false, false, false, false, false, false, false, false, false, false, false, false, false, false, false, true, true, true, false, false, false, false, false, false, false, false, false, false, false, false, false, false, false, false, false, false, false, false, false, false, false, false, false, false, false, false, false, false]) σ).1, (gc 1 (List.zipWith (fun v b => bif b then v else .bot) ts [true, false, false, false, false, false, false, false, true, false, false, false, false, true, false, false, false, false, false, false, false, false, false, false, false, false, false, false, false, false, false, false, false, false, false, false, false, false, false, false, false, false, false, false, false, false, false, false, false, false, false, false, false, false, false, false, true, true, true, false, false, false, false, false, false, false, false, false, false, false, false, false, false, false, false, false, false, false, false, false, false, false, false, false, false, false, false, false, false]) σ).2⟩ := forget_mask 1 504403158265504001 _ (by decide +kernel) ts σ h
theorem mask19d (ts : List V) (σ : Store) (h : ts.length = 89) : forget 1 8688 ⟨ts, σ⟩ = ⟨(gc 1 (List.zipWith (fun v b => bif b then v else .bot) ts [false, false, false, false, true, true, true, true, true, false, false, false, false, true, false, false, false, false, false, false, false, false, false, false, false, false, false, false, false, false, false, false, false, false, false, false, false, false, false, false, false, false, false, false, false, false, false, false, false, false, false, false, false, false, false, false, false, false, false, false, false, false, false, false, false, false, false, false, false, false, false, false, false, false, false, false, false, false, false, false, false, false, false, false, false, false, false, false, false]) σ).1, (gc 1 (List.zipWith (fun v b => bif b then v else .bot) ts [false, false, false, false, true, true, true, true, true, false, false, false, false, true, false, false, false, false, false, false, false, false, false, false, false, false, false, false, false, false, false, false, false, false, false, false, false, false, false, false, false, false, false, false, false, false, false, false, false, false, false, false, false, false, false, false, false, false, false, false, false, false, false, false, false, false, false, false, false, false, false, false, false, false, false, false, false, false, false, false, false, false, false, false, false, false, false, false, false]) σ).2⟩ := forget_mask 1 8688 _ (by decide +kernel) ts σ h
attribute [local irreducible] IntKind.wrap Go.Fl.fl tnD
variable {P : Program} {E : Env}
def chsc (cs : List Chg) : List (List D) := cs.map chc
theorem chsc_len (cs : List Chg) : (chsc cs).length = cs.length := by simp [chsc]
theorem chsc_get {cs : List Chg} {i : Nat} (h : i < cs.length) : (chsc cs)[i]? = some (chc cs[i]) := by simp [chsc, h]
@[simp] theorem chsc_getElem (cs : List Chg) (i : Nat) (h : i < (chsc cs).length) : (chsc cs)[i] = chc (cs[i]'(by rwa [chsc_len] at h)) := by simp [chsc]
def nsV (ns : List Bool) : V := if ns = [] then .nils else .arr 2 0 ns.length
def nsS (o p x y : Tab) (ns : List Bool) : Store := some (.row 3 [tabc o, tabc p]) :: some (.row 3 [tabc x, tabc y]) :: (if ns = [] then [] else [some (.row 1 (nmc ns))])
def fr19 (o p x y : Tab) (cs : List Chg) (i : Nat) (ns : List Bool) : Fr := ⟨[.arr 0 0 2, .bot, .bot, .bot, .bot, .bot, .bot, .bot, .arr 1 0 2, nsV ns, .bot, .bot, .bot, .bot, .bot, .bot, .bot, .bot, .bot, .bot, .bot, .bot, .bot, .bot, .bot, .bot, .bot, .bot, .bot, .bot, .bot, .bot, .bot, .d (.lst (chsc cs)), .d (.int .i64 (cs.length : Nat)), .d (.int .i64 (i : Nat)), .bot, .bot, .bot, .bot, .bot, .bot, .bot, .bot, .bot, .bot, .bot, .bot, .bot, .bot, .bot, .bot, .bot, .bot, .bot, .bot, .bot, .bot, .bot, .bot, .bot, .bot, .bot, .bot, .bot, .bot, .bot, .bot, .bot, .bot, .bot, .bot, .bot, .bot, .bot, .bot, .bot, .bot, .bot, .bot, .bot, .bot, .bot, .bot, .bot, .bot, .bot, .bot, .bot], nsS o p x y ns⟩
def fe19 (o p x y : Tab) (ns : List Bool) : Fr := ⟨[.arr 0 0 2, .bot, .bot, .bot, .bot, .bot, .bot, .bot, .arr 1 0 2, nsV ns, .bot, .bot, .bot, .bot, .bot, .bot, .bot, .bot, .bot, .bot, .bot, .bot, .bot, .bot, .bot, .bot, .bot, .bot, .bot, .bot, .bot, .bot, .bot, .bot, .bot, .bot, .bot, .bot, .bot, .bot, .bot, .bot, .bot, .bot, .bot, .bot, .bot, .bot, .bot, .bot, .bot, .bot, .bot, .bot, .bot, .bot, .bot, .bot, .bot, .bot, .bot, .bot, .bot, .bot, .bot, .bot, .bot, .bot, .bot, .bot, .bot, .bot, .bot, .bot, .bot, .bot, .bot, .bot, .bot, .bot, .bot, .bot, .bot, .bot, .bot, .bot, .bot, .bot, .bot], nsS o p x y ns⟩
def fe19e (o p x y : Tab) (ns : List Bool) (e : Int) (i : Nat) : Fr := ⟨[.arr 0 0 2, .bot, .bot, .bot, .nils, .nils, .d (.int .i64 e), .d (.int .i64 (i : Nat)), .arr 1 0 2, nsV ns, .bot, .bot, .bot, .bot, .bot, .bot, .bot, .bot, .bot, .bot, .bot, .bot, .bot, .bot, .bot, .bot, .bot, .bot, .bot, .bot, .bot, .bot, .bot, .bot, .bot, .bot, .bot, .bot, .bot, .bot, .bot, .bot, .bot, .bot, .bot, .bot, .bot, .bot, .bot, .bot, .bot, .bot, .bot, .bot, .bot, .bot, .bot, .bot, .bot, .bot, .bot, .bot, .bot, .bot, .bot, .bot, .bot, .bot, .bot, .bot, .bot, .bot, .bot, .bot, .bot, .bot, .bot, .bot, .bot, .bot, .bot, .bot, .bot, .bot, .bot, .bot, .bot, .bot, .bot], nsS o p x y ns⟩
set_option maxHeartbeats 16000000 in
theorem rounds19 (g : Good P E) (d : Nat) (o p : Tab) (cs : List Chg) (hl : cs.length ≤ 8) (hr : ∀ c ∈ cs, c.r.length ≤ 1000) : ∀ (m i f : Nat) (x y : Tab) (ns : List Bool) (k : Int), m = cs.length - i → i ≤ cs.length → m < f → ST k x y → k + m ≤ 999 → ns.length = i →
    match appF snoc x y (cs.drop i) i ns with
    | .inl (e, j) => ∃ x' y' ns', rounds (exec P (run P E T (d + 105)) (refsOf T) 1 v19_0) (forget 1 60129542913) (forget 1 1009) f (fr19 o p x y cs i ns) = some (.ret, fe19e o p x' y' ns' e j)
    | .inr (x', y', ns') => rounds (exec P (run P E T (d + 105)) (refsOf T) 1 v19_0) (forget 1 60129542913) (forget 1 1009) f (fr19 o p x y cs i ns) = some (.exit 1, fe19 o p x' y' ns') := by
  intro m
  induction m with
  | zero =>
    intro i f x y ns k hm hi hf hst hk hns
    obtain ⟨f, rfl⟩ : ∃ f', f = f' + 1 := ⟨f - 1, by omega⟩
    have : i = cs.length := by omega
    subst this
    rw [List.drop_length, appF, rounds]
    by_cases hn : ns = []
    · simp -implicitDefEqProofs [exB v19_0.eq_1, fr19, fe19, nsV, nsS, hn, chsc_len, callX, callIds, frzArgs, passArgs, List.range_succ, List.idxOf?_cons, -forget, mask19a, mask19b, mask19c, mask19d]
    · simp -implicitDefEqProofs [exB v19_0.eq_1, fr19, fe19, nsV, nsS, hn, chsc_len, callX, callIds, frzArgs, passArgs, List.range_succ, List.idxOf?_cons, -forget, mask19a, mask19b, mask19c, mask19d]
  | succ m ih =>
    intro i f x y ns k hm hi hf hst hk hns
    obtain ⟨f, rfl⟩ : ∃ f', f = f' + 1 := ⟨f - 1, by omega⟩
    have hlt : i < cs.length := by omega
    have hI : (i : Int) < cs.length := by omega
    have hx := chsc_get hlt
    have hw : IntKind.i64.wrap ((i : Int) + 1) = (i : Int) + 1 := wrap_small (by omega) (by omega)
    have h33 := one_run g d x y hst.tx hst.ty (by have := hst.hx; omega) (by have := hst.hy; omega) cs[i] (by have := hr _ (List.getElem_mem hlt); omega)
    obtain ⟨hs1, _, _⟩ := stp_st hst (by omega) cs[i]
    have hnm := stp_name hst cs[i]
    rw [List.drop_eq_getElem_cons hlt, appF]
    have hih := ih (i + 1) f (stp x y cs[i]).2.1 (stp x y cs[i]).2.2 (snoc ns (decide (cs[i].t = x.n))) (k + 1) (by omega) (by omega) (by omega) hs1 (by omega) (by simp [snoc, hns])
    generalize hce : cs[i] = c at *
    generalize hcb : decide (c.t = x.n) = cb at *
    generalize hst' : stp x y c = q at *
    obtain ⟨e, x1, y1⟩ := q
    simp only at *
    by_cases h0 : e = 0
    · rw [if_pos h0]
      subst h0
      replace hnm := hnm rfl
      obtain ⟨ct, cr, cm⟩ := c
      simp only at *
      subst hnm
      have hss : snoc ns cb ≠ [] := by simp [snoc]
      have hlen : (snoc ns cb).length = ns.length + 1 := by simp [snoc]
      have hnc : nmc (snoc ns cb) = nmc ns ++ [[.str (nmB cb)]] := by simp [nmc, snoc]
      have hb1 : ns.length + 1 ≤ 4294967296 := by omega
      have stepEq : rounds (exec P (run P E T (d + 105)) (refsOf T) 1 v19_0) (forget 1 60129542913) (forget 1 1009) (f + 1) (fr19 o p x y cs i ns) = rounds (exec P (run P E T (d + 105)) (refsOf T) 1 v19_0) (forget 1 60129542913) (forget 1 1009) f (fr19 o p x1 y1 cs (i + 1) (snoc ns cb)) := by
        rw [rounds]
        by_cases hn : ns = []
        · subst hn
          simp -implicitDefEqProofs [exB v19_0.eq_1, fr19, nsV, nsS, hss, hlen, hnc, chsc_len, hlt, hI, hx, hce, chc, hw, h33, S_33, nmc_len, show nmc [] = [] from rfl, callX, callIds, frzArgs, passArgs, List.range_succ, List.idxOf?_cons, -forget, mask19a, mask19b, mask19c, mask19d]
        · simp -implicitDefEqProofs [exB v19_0.eq_1, fr19, nsV, nsS, hn, hss, hlen, hnc, hb1, chsc_len, hlt, hI, hx, hce, chc, hw, h33, S_33, nmc_len, callX, callIds, frzArgs, passArgs, List.range_succ, List.idxOf?_cons, -forget, mask19a, mask19b, mask19c, mask19d]
      rw [stepEq]
      exact hih
    · rw [if_neg h0]
      refine ⟨x1, y1, ns, ?_⟩
      rw [rounds]
      obtain ⟨ct, cr, cm⟩ := c
      simp only at *
      by_cases hn : ns = []
      · subst hn
        simp -implicitDefEqProofs [exB v19_0.eq_1, fr19, fe19e, nsV, nsS, chsc_len, hlt, hI, hx, hce, chc, hw, h33, h0, S_33, nmc_len, show nmc [] = [] from rfl, callX, callIds, frzArgs, passArgs, List.range_succ, List.idxOf?_cons, -forget, mask19a, mask19b, mask19c, mask19d]
      · simp -implicitDefEqProofs [exB v19_0.eq_1, fr19, fe19e, nsV, nsS, hn, chsc_len, hlt, hI, hx, hce, chc, hw, h33, h0, S_33, nmc_len, callX, callIds, frzArgs, passArgs, List.range_succ, List.idxOf?_cons, -forget, mask19a, mask19b, mask19c, mask19d]
end Go.Vm.B
namespace Go.Vm.B
open Go.Fl
attribute [local irreducible] IntKind.wrap Go.Fl.fl tnD
variable {P : Program} {E : Env}
def ouV (id : Nat) (out : List (List D)) : V := if out = [] then .nils else .arr id 0 out.length
def fr19c (x y a b : Tab) (ks : List Bool) (rest : List (List D)) (i : Nat) (out : List (List D)) : Fr :=
  ⟨[.arr 0 0 2, .bot, .bot, .bot, .bot, .bot, .bot, .bot, .arr 1 0 2, .bot, .bot, .bot, .bot, ouV 2 out, .bot, .bot, .bot, .bot, .bot, .bot, .bot, .bot, .bot, .bot, .bot, .bot, .bot, .bot, .bot, .bot, .bot, .bot, .bot, .bot, .bot, .bot, .bot, .bot, .bot, .bot, .bot, .bot, .bot, .bot, .bot, .bot, .bot, .bot, .bot, .bot, .bot, .bot, .bot, .bot, .bot, .bot, .arr (if out = [] then 2 else 3) 0 ks.length, .d (.int .i64 (ks.length : Nat)), .d (.int .i64 (i : Nat)), .bot, .bot, .bot, .bot, .bot, .bot, .bot, .bot, .bot, .bot, .bot, .bot, .bot, .bot, .bot, .bot, .bot, .bot, .bot, .bot, .bot, .bot, .bot, .bot, .bot, .bot, .bot, .bot, .bot, .bot],
    some (.row 3 [tabc x, tabc y]) :: some (.row 3 [tabc a, tabc b]) :: (if out = [] then [some (.row 1 (nmc ks ++ rest))] else [some (.row 2 out), some (.row 1 (nmc ks ++ rest))])⟩
def fe19c (x y a b : Tab) (out : List (List D)) : Fr :=
  ⟨[.bot, .bot, .bot, .bot, .bot, .bot, .bot, .bot, .arr 1 0 2, .bot, .bot, .bot, .bot, ouV 2 out, .bot, .bot, .bot, .bot, .bot, .bot, .bot, .bot, .bot, .bot, .bot, .bot, .bot, .bot, .bot, .bot, .bot, .bot, .bot, .bot, .bot, .bot, .bot, .bot, .bot, .bot, .bot, .bot, .bot, .bot, .bot, .bot, .bot, .bot, .bot, .bot, .bot, .bot, .bot, .bot, .bot, .bot, .bot, .bot, .bot, .bot, .bot, .bot, .bot, .bot, .bot, .bot, .bot, .bot, .bot, .bot, .bot, .bot, .bot, .bot, .bot, .bot, .bot, .bot, .bot, .bot, .bot, .bot, .bot, .bot, .bot, .bot, .bot, .bot, .bot], some (.row 3 [tabc x, tabc y]) :: some (.row 3 [tabc a, tabc b]) :: (if out = [] then [] else [some (.row 2 out)])⟩
set_option maxHeartbeats 16000000 in
theorem rounds19c (g : Good P E) (d : Nat) (x y a b : Tab) (k : Int) (hk : k ≤ 1000) (hst : ST k x y) (hst' : ST k a b) (ks : List Bool) (rest : List (List D)) (hl : ks.length ≤ 1000) : ∀ (m i f : Nat) (out : List (List D)), m = ks.length - i → i ≤ ks.length → m < f → out.length = i →
    rounds (exec P (run P E T (d + 105)) (refsOf T) 1 v19_1) (forget 1 504403158265504001) (forget 1 8688) f (fr19c x y a b ks rest i out) = some (.exit 3, fe19c x y a b (out ++ (ks.drop i).map (dltD x y a b))) := by
  intro m
  induction m with
  | zero =>
    intro i f out hm hi hf ho
    obtain ⟨f, rfl⟩ : ∃ f', f = f' + 1 := ⟨f - 1, by omega⟩
    have : i = ks.length := by omega
    subst this
    rw [List.drop_length, List.map_nil, List.append_nil, rounds]
    by_cases hn : out = []
    · simp -implicitDefEqProofs [exB v19_1.eq_1, fr19c, fe19c, ouV, hn, callX, callIds, frzArgs, passArgs, List.range_succ, List.idxOf?_cons, -forget, mask19a, mask19b, mask19c, mask19d]
    · simp -implicitDefEqProofs [exB v19_1.eq_1, fr19c, fe19c, ouV, hn, callX, callIds, frzArgs, passArgs, List.range_succ, List.idxOf?_cons, -forget, mask19a, mask19b, mask19c, mask19d]
  | succ m ih =>
    intro i f out hm hi hf ho
    obtain ⟨f, rfl⟩ : ∃ f', f = f' + 1 := ⟨f - 1, by omega⟩
    have hlt : i < ks.length := by omega
    have hI : (i : Int) < ks.length := by omega
    have hx : (nmc ks ++ rest)[i]? = some [.str (nmB ks[i])] := by rw [List.getElem?_append_left (by rw [nmc_len]; exact hlt)]; exact nmc_get hlt
    have hxl : i < ks.length + rest.length := by omega
    have hw : IntKind.i64.wrap ((i : Int) + 1) = (i : Int) + 1 := wrap_small (by omega) (by omega)
    rw [List.drop_eq_getElem_cons hlt, List.map_cons, show out ++ dltD x y a b ks[i] :: (ks.drop (i + 1)).map (dltD x y a b) = (out ++ [dltD x y a b ks[i]]) ++ (ks.drop (i + 1)).map (dltD x y a b) by simp]
    rw [← ih (i + 1) f (out ++ [dltD x y a b ks[i]]) (by omega) (by omega) (by omega) (by simp [ho]), rounds]
    have h36 : ∀ n, run P E T (d + 105) 36 [.d (.lst [tabc a, tabc b]), .d (.str n)] [] = some (.d (.int .i64 (tfind a b n)), []) := fun n => find_run P E (d + 102) a b n
    have hds := dlt_ok hst hst' hk hk ks[i]
    have hb1 : out.length + 1 ≤ 4294967296 := by omega
    have hb1n : out.length + 1 ≠ 0 := by omega
    have hge : (nmc ks ++ rest)[i]'(by rw [List.length_append, nmc_len]; omega) = [.str (nmB ks[i])] := by rw [List.getElem_append_left (by rw [nmc_len]; exact hlt)]; simp
    generalize hne : ks[i] = n at *
    cases n with
    | true =>
      obtain ⟨k1, k2, k3⟩ := hds
      simp only [cond_true] at k1 k2 k3
      have h38 : run P E T (d + 105) 38 [.d (.lst (setc x.rows))] [] = some (.d (.lst (setc (flipS x.rows))), []) := zFlip_run g (d + 97) x.rows hst.tx.gs
      have h37 : run P E T (d + 105) 37 [.d (.lst (setc a.rows)), .d (.lst (setc (flipS x.rows)))] [] = some (.tup [.d (.lst (setc (mkS (a.rows ++ flipS x.rows)))), .d (.int .i64 0)], []) := zAdd_run g (d + 1) a.rows (flipS x.rows) k1 (by omega) (by omega)
      have h36 := h36 (nmB true)
      have ht : tfind a b (nmB true) = 0 := by unfold tfind; rw [if_pos hst'.xn]
      rw [ht] at h36
      simp only [tabc] at h36
      simp only [dltD, cond_true]
      by_cases hn : out = []
      · subst hn
        simp -implicitDefEqProofs [exB v19_1.eq_1, fr19c, ouV, tabc, nmc_len, hx, hge, hlt, hI, hxl, hw, h36, h37, h38, S_36, S_37, S_38, callX, callIds, frzArgs, passArgs, List.range_succ, List.idxOf?_cons, -forget, mask19a, mask19b, mask19c, mask19d]
      · simp -implicitDefEqProofs [exB v19_1.eq_1, fr19c, ouV, hn, hb1, hb1n, tabc, nmc_len, hx, hge, hlt, hI, hxl, hw, h36, h37, h38, S_36, S_37, S_38, callX, callIds, frzArgs, passArgs, List.range_succ, List.idxOf?_cons, -forget, mask19a, mask19b, mask19c, mask19d]
    | false =>
      obtain ⟨k1, k2, k3⟩ := hds
      simp only [cond_false] at k1 k2 k3
      have h38 : run P E T (d + 105) 38 [.d (.lst (setc y.rows))] [] = some (.d (.lst (setc (flipS y.rows))), []) := zFlip_run g (d + 97) y.rows hst.ty.gs
      have h37 : run P E T (d + 105) 37 [.d (.lst (setc b.rows)), .d (.lst (setc (flipS y.rows)))] [] = some (.tup [.d (.lst (setc (mkS (b.rows ++ flipS y.rows)))), .d (.int .i64 0)], []) := zAdd_run g (d + 1) b.rows (flipS y.rows) k1 (by omega) (by omega)
      have h36 := h36 (nmB false)
      have ht : tfind a b (nmB false) = 1 := by unfold tfind; rw [if_neg (by rw [hst'.xn, nm_eq]; decide), if_pos hst'.yn]
      rw [ht] at h36
      simp only [tabc] at h36
      simp only [dltD, cond_false]
      by_cases hn : out = []
      · subst hn
        simp -implicitDefEqProofs [exB v19_1.eq_1, fr19c, ouV, tabc, nmc_len, hx, hge, hlt, hI, hxl, hw, h36, h37, h38, S_36, S_37, S_38, callX, callIds, frzArgs, passArgs, List.range_succ, List.idxOf?_cons, -forget, mask19a, mask19b, mask19c, mask19d]
      · simp -implicitDefEqProofs [exB v19_1.eq_1, fr19c, ouV, hn, hb1, hb1n, tabc, nmc_len, hx, hge, hlt, hI, hxl, hw, h36, h37, h38, S_36, S_37, S_38, callX, callIds, frzArgs, passArgs, List.range_succ, List.idxOf?_cons, -forget, mask19a, mask19b, mask19c, mask19d]
end Go.Vm.B
namespace Go.Vm.B
open Go.Fl
attribute [local irreducible] IntKind.wrap Go.Fl.fl tnD
variable {P : Program} {E : Env}
set_option maxHeartbeats 16000000 in
theorem apply_run (g : Good P E) (d : Nat) (x y : Tab) (hst : ST 500 x y) (cs : List Chg) (hl : cs.length ≤ 1000) (hr : ∀ c ∈ cs, c.r.length ≤ 1000)
    (h31 : run P E T (d + 105) 31 [.d (.lst [tabc x, tabc y])] [] = some (.d (.bool true), [])) :
    run P E T (d + 106) 19 [.arr 0 0 2, .d (.lst (chsc cs))] [some (.row 3 [tabc x, tabc y])] = some (.tup [.d (.lst (applyR x y cs).1), .d (.lst (applyR x y cs).2.1), .d (.int .i64 (applyR x y cs).2.2.1), .d (.int .i64 (applyR x y cs).2.2.2)], [some (.row 3 [tabc x, tabc y])]) := by
  rw [run_succ _ _ _ _ _ _ _ _ T_19]
  unfold applyR
  by_cases h8 : 8 < cs.length
  · have h8I : (8 : Int) < cs.length := by omega
    rw [if_pos h8]
    simp -implicitDefEqProofs [v19, h31, h8, h8I, chsc_len, S_31, callX, callIds, frzArgs, passArgs, List.range_succ, List.idxOf?_cons, -forget, mask19a, mask19b, mask19c, mask19d]
  · have h8I : ¬ (8 : Int) < cs.length := by omega
    rw [if_neg h8]
    by_cases h0 : cs.length = 0
    · rw [if_pos h0]
      have h00 : cs = [] := List.eq_nil_of_length_eq_zero h0
      subst h00
      simp -implicitDefEqProofs [v19, h31, chsc, S_31, callX, callIds, frzArgs, passArgs, List.range_succ, List.idxOf?_cons, -forget, mask19a, mask19b, mask19c, mask19d]
    · rw [if_neg h0]
      have h00 : cs ≠ [] := fun e => h0 (by rw [e]; rfl)
      have h0I : ¬ ((cs.length : Int) = 0) := by omega
      have hA := rounds19 g d x y cs (by omega) hr cs.length 0 LOOPS x y [] 500 (by omega) (by omega) (by unfold LOOPS; omega) hst (by omega) rfl
      have hlaw := appF_law put [] cs x y 0 []
      have hstf := appF_st snoc cs x y 0 [] 500 hst (by omega)
      have h32 : run P E T (d + 105) 32 [.arr 0 0 2] [some (.row 3 [tabc x, tabc y])] = some (.arr 1 0 2, [some (.row 3 [tabc x, tabc y]), some (.row 3 [tabc x, tabc y])]) := copied_run P E (d + 101) x y ⟨hst.tx.cols.1, by have := hst.tx.cols.2; omega⟩ ⟨hst.ty.cols.1, by have := hst.ty.cols.2; omega⟩ hst.tx.gs hst.ty.gs
      rw [List.drop_zero] at hA
      simp only [fr19, fe19, fe19e, nsV, nsS, if_true, if_pos] at hA
      rw [show ((0 : Nat) : Int) = 0 from rfl] at hA
      cases he : appF snoc x y cs 0 [] with
      | inl q =>
        obtain ⟨e, j⟩ := q
        rw [he] at hA hlaw
        obtain ⟨x', y', ns', hA⟩ := hA
        rw [hlaw []]
        by_cases hn : ns' = []
        · simp only [hn, if_pos] at hA
          simp -implicitDefEqProofs [v19, h31, h32, h8I, h00, h0I, h8, chsc_len, hA, S_31, S_32, callX, callIds, frzArgs, passArgs, List.range_succ, List.idxOf?_cons, -forget, mask19a, mask19b, mask19c, mask19d]
        · simp only [hn, if_false] at hA
          simp -implicitDefEqProofs [v19, h31, h32, h8I, h00, h0I, h8, chsc_len, hA, S_31, S_32, callX, callIds, frzArgs, passArgs, List.range_succ, List.idxOf?_cons, -forget, mask19a, mask19b, mask19c, mask19d]
      | inr q =>
        obtain ⟨a, b, ms⟩ := q
        rw [he] at hA hlaw
        obtain ⟨bs, b1, b2, b3⟩ := hlaw
        rw [List.nil_append] at b2
        subst b2
        obtain ⟨hst', _, _⟩ := hstf a b ms he
        rw [b3 []]
        have hms : ms ≠ [] := fun e => h0 (by rw [← b1, e]; rfl)
        have h34 : run P E T (d + 105) 34 [.arr 0 0 ms.length] [some (.row 1 (nmc ms))] = some (.tup [], [some (.row 1 (nmc (insB (ms.length - 1) 1 ms)))]) := sortN_run P E (d + 100) ms (by omega)
        obtain ⟨rest, h35⟩ := compact_run (P := P) (E := E) (d + 104) (insB (ms.length - 1) 1 ms) (by rw [insB_len]; omega)
        rw [insB_len, names_law ms (by omega)] at h35
        have hok := names_ok ms (by omega)
        have hpl : (putAll ms).length ≤ 2 := by
          unfold okN at hok
          simp only [Bool.or_eq_true, beq_iff_eq] at hok
          rcases hok with ((h | h) | h) | h <;> rw [h] <;> simp
        have hfold : ms.foldl put [] = putAll ms := rfl
        rw [hfold]
        have hC := rounds19c g d x y a b 600 (by omega) (hst.mono (by omega)) (hst'.mono (by omega)) (putAll ms) rest (by omega) (putAll ms).length 0 LOOPS [] (by omega) (by omega) (by unfold LOOPS; omega) rfl
        rw [List.drop_zero, List.nil_append] at hC
        simp only [fr19c, ouV, if_pos] at hC
        rw [show ((0 : Nat) : Int) = 0 from rfl] at hC
        simp only [hms, if_false] at hA
        generalize putAll ms = ks at *
        generalize hout : List.map (dltD x y a b) ks = out at *
        by_cases hn : out = []
        · have hks : ks = [] := by simpa using hout.trans hn
          simp only [fe19c, ouV, hn, if_pos] at hC
          simp -implicitDefEqProofs [v19, h31, h32, h34, h35, h8I, h00, h0I, h8, hn, chsc_len, hA, hC, S_31, S_32, S_34, S_35, callX, callIds, frzArgs, passArgs, List.range_succ, List.idxOf?_cons, -forget, mask19a, mask19b, mask19c, mask19d]
          exact hks
        · simp only [fe19c, ouV, hn, if_false] at hC
          simp -implicitDefEqProofs [v19, h31, h32, h34, h35, h8I, h00, h0I, h8, hn, chsc_len, hA, hC, S_31, S_32, S_34, S_35, callX, callIds, frzArgs, passArgs, List.range_succ, List.idxOf?_cons, -forget, mask19a, mask19b, mask19c, mask19d]
          exact hout.symm
end Go.Vm.B
