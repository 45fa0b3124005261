/- A part of the proofs of the statements BatchTells and BatchNumbers: C62, C63, C64, C65, C66, C67. Conditions: none of its own. -/
import Derived.Test.YtoaafpebcdfniaaGreatT21
import Derived.KernelRfl
set_option linter.unusedSimpArgs false
set_option linter.unusedVariables false
set_option linter.unnecessarySimpa false
set_option linter.all false
set_option maxRecDepth 100000
namespace Go.Vm.B
open Go.Fl
theorem mask7a (ts : List V) (σ : Store) (h : ts.length = 70) : forget 0 483 ⟨ts, σ⟩ = ⟨(gc 0 (List.zipWith (fun v b => bif b then v else .bot) ts [true, true, false, false, false, true, true, true, true, false, false, false, false, false, false, false, false, false, false, false, false, false, false, false, false, false, false, false, false, false, false, false, false, false, false, false, false, false, false, false, false, false, false, false, false, false, false, false, false, false, false, false, false, false, false, false, false, false, false, false, false, false, false, false, false, false, false, false, false, false]) σ).1, (gc 0 (List.zipWith (fun v b => bif b then v else .bot) ts [true, true, false, false, false, true, true, true, true, false, false, false, false, false, false, false, false, false, false, false, false, false, false, false, false, false, false, false, false, false, false, false, false, false, false, false, false, false, false, false, false, false, false, false, false, false, false, false, false, false, false, false, false, false, false, false, false, false, false, false, false, false, false, false, false, false, false, false, false, false]) σ).2⟩ := forget_mask 0 483 _ (by decide +kernel) ts σ h
theorem mask7b (ts : List V) (σ : Store) (h : ts.length = 70) : forget 0 241 ⟨ts, σ⟩ = ⟨(gc 0 (List.zipWith (fun v b => bif b then v else .bot) ts [true, false, false, false, true, true, true, true, false, false, false, false, false, false, false, false, false, false, false, false, false, false, false, false, false, false, false, false, false, false, false, false, false, false, false, false, false, false, false, false, false, false, false, false, false, false, false, false, false, false, false, false, false, false, false, false, false, false, false, false, false, false, false, false, false, false, false, false, false, false]) σ).1, (gc 0 (List.zipWith (fun v b => bif b then v else .bot) ts [true, false, false, false, true, true, true, true, false, false, false, false, false, false, false, false, false, false, false, false, false, false, false, false, false, false, false, false, false, false, false, false, false, false, false, false, false, false, false, false, false, false, false, false, false, false, false, false, false, false, false, false, false, false, false, false, false, false, false, false, false, false, false, false, false, false, false, false, false, false]) σ).2⟩ := forget_mask 0 241 _ (by decide +kernel) ts σ h
theorem fl1 : fl 1 = 4607182418800017408 := by decide +kernel
attribute [local irreducible] IntKind.wrap Go.Fl.fl tnD
variable {P : Program} {E : Env}
theorem tnD1 : tnD 1 = .complex .f64 4607182418800017408 0 := by
  unfold tnD
  rw [show (1 : Int).toNat = 1 from rfl, show (-1 : Int).toNat = 0 from rfl, fl1, ← fl0]
def uuV (ts us : List (List D)) : V := if us = [] then .nils else .arr (if ts = [] then 1 else 2) 0 us.length
def uuS (tb ts us : List (List D)) : Store := some (.row 3 tb) :: ((if ts = [] then [] else [some (.row 2 ts)]) ++ (if us = [] then [] else [some (.row 2 us)]))
def fr7 (n : Int) (l : List Chg) (tb : List (List D)) (i : Nat) (ts us : List (List D)) : Fr := ⟨[.d (.int .i64 n), .d (.lst (chsc l)), .bot, .bot, .bot, .arr 0 0 2, ouV 1 ts, uuV ts us, .d (.int .i64 (i : Nat)), .bot, .bot, .bot, .bot, .bot, .bot, .bot, .bot, .bot, .bot, .bot, .bot, .bot, .bot, .bot, .bot, .bot, .bot, .bot, .bot, .bot, .bot, .bot, .bot, .bot, .bot, .bot, .bot, .bot, .bot, .bot, .bot, .bot, .bot, .bot, .bot, .bot, .bot, .bot, .bot, .bot, .bot, .bot, .bot, .bot, .bot, .bot, .bot, .bot, .bot, .bot, .bot, .bot, .bot, .bot, .bot, .bot, .bot, .bot, .bot, .bot], uuS tb ts us⟩
def fe7 (n : Int) (tb : List (List D)) (ts us : List (List D)) : Fr := ⟨[.d (.int .i64 n), .bot, .bot, .bot, .bot, .arr 0 0 2, ouV 1 ts, uuV ts us, .bot, .bot, .bot, .bot, .bot, .bot, .bot, .bot, .bot, .bot, .bot, .bot, .bot, .bot, .bot, .bot, .bot, .bot, .bot, .bot, .bot, .bot, .bot, .bot, .bot, .bot, .bot, .bot, .bot, .bot, .bot, .bot, .bot, .bot, .bot, .bot, .bot, .bot, .bot, .bot, .bot, .bot, .bot, .bot, .bot, .bot, .bot, .bot, .bot, .bot, .bot, .bot, .bot, .bot, .bot, .bot, .bot, .bot, .bot, .bot, .bot, .bot], uuS tb ts us⟩
def tIt (cs : List Chg) : Set := cs.filterMap fun c => if (tame c).t = nmB false then some ((tame c).r, 1) else none
def uIt (cs : List Chg) : Set := cs.filterMap fun c => if (tame c).t = nmB false then none else some ((tame c).r, 1)
set_option maxHeartbeats 16000000 in
theorem rounds7 (P : Program) (E : Env) (d : Nat) (n : Int) (l : List Chg) (tb : List (List D)) : ∀ (m i f : Nat) (ts us : List (List D)), m = (l.take 20).length - i → i ≤ (l.take 20).length → m < f → ts.length ≤ i → us.length ≤ i →
    rounds (exec P (run P E T (d + 2)) (refsOf T) 0 v7_0) (forget 0 483) (forget 0 241) f (fr7 n l tb i ts us) = some (.exit 0, fe7 n tb (ts ++ setc (tIt ((l.take 20).drop i))) (us ++ setc (uIt ((l.take 20).drop i)))) := by
  intro m
  have hlk : (l.take 20).length = min 20 l.length := List.length_take
  induction m with
  | zero =>
    intro i f ts us hm hi hf h1 h2
    obtain ⟨f, rfl⟩ : ∃ f', f = f' + 1 := ⟨f - 1, by omega⟩
    have : i = (l.take 20).length := by omega
    rw [rounds, this, List.drop_length, show setc (tIt []) = [] from rfl, show setc (uIt []) = [] from rfl, List.append_nil, List.append_nil, ← this]
    clear h1 h2
    by_cases hI : (i : Int) < l.length
    · have hi20 : i = 20 := by omega
      subst hi20
      have hI' : (20 : Int) < l.length := by omega
      by_cases h1 : ts = []
      · subst h1
        by_cases h2 : us = []
        · subst h2
          simp -implicitDefEqProofs [exB v7_0.eq_1, fr7, fe7, uuV, uuS, ouV, chsc_len, hI, hI', callX, callIds, frzArgs, passArgs, List.range_succ, List.idxOf?_cons, -forget, ↓get8, ↓set8, mask7a, mask7b]
        · simp -implicitDefEqProofs [exB v7_0.eq_1, fr7, fe7, uuV, uuS, ouV, chsc_len, hI, hI', h2, callX, callIds, frzArgs, passArgs, List.range_succ, List.idxOf?_cons, -forget, ↓get8, ↓set8, mask7a, mask7b]
      · by_cases h2 : us = []
        · subst h2
          simp -implicitDefEqProofs [exB v7_0.eq_1, fr7, fe7, uuV, uuS, ouV, chsc_len, hI, hI', h1, callX, callIds, frzArgs, passArgs, List.range_succ, List.idxOf?_cons, -forget, ↓get8, ↓set8, mask7a, mask7b]
        · simp -implicitDefEqProofs [exB v7_0.eq_1, fr7, fe7, uuV, uuS, ouV, chsc_len, hI, hI', h1, h2, callX, callIds, frzArgs, passArgs, List.range_succ, List.idxOf?_cons, -forget, ↓get8, ↓set8, mask7a, mask7b]
    · by_cases h1 : ts = []
      · subst h1
        by_cases h2 : us = []
        · subst h2
          simp -implicitDefEqProofs [exB v7_0.eq_1, fr7, fe7, uuV, uuS, ouV, chsc_len, hI, callX, callIds, frzArgs, passArgs, List.range_succ, List.idxOf?_cons, -forget, ↓get8, ↓set8, mask7a, mask7b]
        · simp -implicitDefEqProofs [exB v7_0.eq_1, fr7, fe7, uuV, uuS, ouV, chsc_len, hI, h2, callX, callIds, frzArgs, passArgs, List.range_succ, List.idxOf?_cons, -forget, ↓get8, ↓set8, mask7a, mask7b]
      · by_cases h2 : us = []
        · subst h2
          simp -implicitDefEqProofs [exB v7_0.eq_1, fr7, fe7, uuV, uuS, ouV, chsc_len, hI, h1, callX, callIds, frzArgs, passArgs, List.range_succ, List.idxOf?_cons, -forget, ↓get8, ↓set8, mask7a, mask7b]
        · simp -implicitDefEqProofs [exB v7_0.eq_1, fr7, fe7, uuV, uuS, ouV, chsc_len, hI, h1, h2, callX, callIds, frzArgs, passArgs, List.range_succ, List.idxOf?_cons, -forget, ↓get8, ↓set8, mask7a, mask7b]
  | succ m ih =>
    intro i f ts us hm hi hf ht hu
    obtain ⟨f, rfl⟩ : ∃ f', f = f' + 1 := ⟨f - 1, by omega⟩
    have hlt : i < (l.take 20).length := by omega
    have hlt2 : i < l.length := by omega
    have hI : (i : Int) < l.length := by omega
    have hI20 : (i : Int) < 20 := by omega
    have hx := chsc_get hlt2
    have hw : IntKind.i64.wrap ((i : Int) + 1) = (i : Int) + 1 := wrap_small (by omega) (by omega)
    have h15 := tame_run P E d l[i]
    have hb1 : ts.length + 1 ≤ 4294967296 := by omega
    have hb2 : us.length + 1 ≤ 4294967296 := by omega
    have hone := tnD1
    have hge : (l.take 20)[i] = l[i] := List.getElem_take
    rw [List.drop_eq_getElem_cons hlt, hge]
    have hih := fun ts us h1 h2 => ih (i + 1) f ts us (by omega) (by omega) (by omega) h1 h2
    clear ih
    generalize hle : l[i] = c at *
    have htc : tIt (c :: (l.take 20).drop (i + 1)) = (if (tame c).t = nmB false then [((tame c).r, 1)] else []) ++ tIt ((l.take 20).drop (i + 1)) := by
      unfold tIt; rw [List.filterMap_cons]; split <;> rename_i h <;> split at h <;> simp_all
    have huc : uIt (c :: (l.take 20).drop (i + 1)) = (if (tame c).t = nmB false then [] else [((tame c).r, 1)]) ++ uIt ((l.take 20).drop (i + 1)) := by
      unfold uIt; rw [List.filterMap_cons]; split <;> rename_i h <;> split at h <;> simp_all
    rw [htc, huc]
    generalize htce : tame c = q at *
    obtain ⟨qt, qr, qm⟩ := q
    simp only at *
    by_cases hq : qt = nmB false
    · rw [if_pos hq, if_pos hq, List.nil_append]
      rw [setc_append, ← List.append_assoc, ← hih (ts ++ setc [(qr, 1)]) us (by simp [setc]; omega) (by omega), rounds]
      clear hih htc huc
      rw [nm_t] at hq
      subst hq
      simp only [show setc [(qr, (1 : Int))] = [itc (qr, 1)] from rfl]
      by_cases h1 : ts = []
      · subst h1
        by_cases h2 : us = []
        · subst h2
          simp -implicitDefEqProofs [exB v7_0.eq_1, fr7, uuV, uuS, ouV, chsc_len, hI, hI20, hx, hle, chc, hw, h15, hb1, hb2, itc, hone, S_15, callX, callIds, frzArgs, passArgs, List.range_succ, List.idxOf?_cons, -forget, ↓get8, ↓set8, mask7a, mask7b]
        · simp -implicitDefEqProofs [exB v7_0.eq_1, fr7, uuV, uuS, ouV, chsc_len, hI, hI20, hx, hle, chc, hw, h15, hb1, hb2, itc, hone, S_15, h2, callX, callIds, frzArgs, passArgs, List.range_succ, List.idxOf?_cons, -forget, ↓get8, ↓set8, mask7a, mask7b]
      · by_cases h2 : us = []
        · subst h2
          simp -implicitDefEqProofs [exB v7_0.eq_1, fr7, uuV, uuS, ouV, chsc_len, hI, hI20, hx, hle, chc, hw, h15, hb1, hb2, itc, hone, S_15, h1, callX, callIds, frzArgs, passArgs, List.range_succ, List.idxOf?_cons, -forget, ↓get8, ↓set8, mask7a, mask7b]
        · simp -implicitDefEqProofs [exB v7_0.eq_1, fr7, uuV, uuS, ouV, chsc_len, hI, hI20, hx, hle, chc, hw, h15, hb1, hb2, itc, hone, S_15, h1, h2, callX, callIds, frzArgs, passArgs, List.range_succ, List.idxOf?_cons, -forget, ↓get8, ↓set8, mask7a, mask7b]
    · rw [if_neg hq, if_neg hq, List.nil_append]
      rw [setc_append, ← List.append_assoc, ← hih ts (us ++ setc [(qr, 1)]) (by omega) (by simp [setc]; omega), rounds]
      clear hih htc huc
      rw [nm_t] at hq
      simp only [show setc [(qr, (1 : Int))] = [itc (qr, 1)] from rfl]
      by_cases h1 : ts = []
      · subst h1
        by_cases h2 : us = []
        · subst h2
          simp -implicitDefEqProofs [exB v7_0.eq_1, fr7, uuV, uuS, ouV, chsc_len, hI, hI20, hx, hle, chc, hw, h15, hb1, hb2, itc, hone, S_15, hq, callX, callIds, frzArgs, passArgs, List.range_succ, List.idxOf?_cons, -forget, ↓get8, ↓set8, mask7a, mask7b]
        · simp -implicitDefEqProofs [exB v7_0.eq_1, fr7, uuV, uuS, ouV, chsc_len, hI, hI20, hx, hle, chc, hw, h15, hb1, hb2, itc, hone, S_15, hq, h2, callX, callIds, frzArgs, passArgs, List.range_succ, List.idxOf?_cons, -forget, ↓get8, ↓set8, mask7a, mask7b]
      · by_cases h2 : us = []
        · subst h2
          simp -implicitDefEqProofs [exB v7_0.eq_1, fr7, uuV, uuS, ouV, chsc_len, hI, hI20, hx, hle, chc, hw, h15, hb1, hb2, itc, hone, S_15, hq, h1, callX, callIds, frzArgs, passArgs, List.range_succ, List.idxOf?_cons, -forget, ↓get8, ↓set8, mask7a, mask7b]
        · simp -implicitDefEqProofs [exB v7_0.eq_1, fr7, uuV, uuS, ouV, chsc_len, hI, hI20, hx, hle, chc, hw, h15, hb1, hb2, itc, hone, S_15, hq, h1, h2, callX, callIds, frzArgs, passArgs, List.range_succ, List.idxOf?_cons, -forget, ↓get8, ↓set8, mask7a, mask7b]
end Go.Vm.B
namespace Go.Vm.B
open Go.Fl
attribute [local irreducible] IntKind.wrap Go.Fl.fl tnD
variable {P : Program} {E : Env}
def uAll (n : Int) (l : List Chg) : Set := uIt (l.take 20) ++ if 0 < n then [(nums2 7 7, n)] else []
def tabU (n : Int) (l : List Chg) : Tab := ⟨nmB true, colsU, mkS (uAll n l)⟩
def tabT (l : List Chg) : Tab := ⟨nmB false, colsT, mkS (tIt (l.take 20))⟩
theorem num_right (n : Int) : (num n).right = true := by
  unfold num Val.right
  rw [if_pos rfl]; exact decide_eq_true rfl
theorem tmS_size (r : Row) : (tmS r).size ≤ 2 := by
  match r with
  | [] => exact Nat.zero_le _
  | [v] => exact Nat.zero_le _
  | v :: w :: rest =>
    unfold tmS
    dsimp only
    split
    · rw [ByteArray.size_extract]; omega
    · omega
theorem tame_t (c : Chg) (h : (tame c).t = nmB false) : fits colsT (tame c).r = true := by
  unfold tame at h ⊢
  split
  · have hs := tmS_size c.r
    simp only [fits, colsT, num_right, Bool.true_and, Bool.and_true]
    have h1 : (strV (tmS c.r)).right = true := by
      unfold strV Val.right
      dsimp only
      rw [if_neg (by decide), if_pos rfl]
      simp only [decide_true, Bool.true_and]
      exact decide_eq_true (by omega)
    rw [h1]; rfl
  · rename_i hp
    rw [if_neg hp] at h
    simp at h
theorem tame_u (c : Chg) (h : (tame c).t ≠ nmB false) : fits colsU (tame c).r = true := by
  unfold tame at h ⊢
  split
  · rename_i hp
    rw [if_pos hp] at h
    exact absurd rfl h
  · simp only [fits, colsU, num_right, Bool.true_and, Bool.and_true]; rfl
theorem tIt_mem {cs : List Chg} {x : Row × Int} (h : x ∈ tIt cs) : fits colsT x.1 = true ∧ x.2 = 1 := by
  obtain ⟨c, _, e⟩ := List.mem_filterMap.mp h
  split at e
  · rename_i hc; injection e with e; subst e; exact ⟨tame_t c hc, rfl⟩
  · cases e
theorem uIt_mem {cs : List Chg} {x : Row × Int} (h : x ∈ uIt cs) : fits colsU x.1 = true ∧ x.2 = 1 := by
  obtain ⟨c, _, e⟩ := List.mem_filterMap.mp h
  split at e
  · cases e
  · rename_i hc; injection e with e; subst e; exact ⟨tame_u c hc, rfl⟩
theorem ones_tot : ∀ (s : Set), (∀ x ∈ s, x.2 = 1) → tot s = s.length
  | [], _ => rfl
  | x :: s, h => by
    rw [tot, h x (by simp), ones_tot s fun y hy => h y (by simp [hy])]
    simp; omega
theorem items_ok (cols : List Col) (hc : cols ≠ [] ∧ cols.length ≤ 6) (s : Set) (h : ∀ x ∈ s, fits cols x.1 = true ∧ 0 < x.2 ∧ x.2 ≤ 100) (ht : tot s ≤ 400) (hl : s.length ≤ 400) (n : ByteArray) :
    IT s ∧ asum s ≤ 400 ∧ TB ⟨n, cols, mkS s⟩ ∧ tot (mkS s) ≤ 400 := by
  have hp : plainS s := fun x hx => by have := (h x hx).2.1; omega
  have ha := plain_asum hp
  have hr : rgt s := fun x hx => fits_right (h x hx).1 hc.1 hc.2
  obtain ⟨j1, j2, j3, j4, j5, j6⟩ := mkS_law s hr
  refine ⟨⟨hr, fun x hx => ?_, fun x hx => ?_, by omega⟩, by omega, ⟨hc, mkS_gs s hr (by omega) (by omega), plain_mk hr fun r _ => sum_nonneg hp r, fun w hw => ?_, by simp only; omega⟩, by omega⟩
  · have := (h x hx).2.1; omega
  · have := (h x hx).2.2; omega
  · obtain ⟨v, hv, e⟩ := j6 w hw
    rw [e]; exact (h v hv).1
theorem t_ok (l : List Chg) : IT (tIt (l.take 20)) ∧ asum (tIt (l.take 20)) ≤ 400 ∧ TB (tabT l) ∧ tot (tabT l).rows ≤ 400 := by
  have hl : (tIt (l.take 20)).length ≤ 20 := Nat.le_trans (List.length_filterMap_le _ _) (by rw [List.length_take]; omega)
  have ht := ones_tot (tIt (l.take 20)) fun x hx => (tIt_mem hx).2
  exact items_ok colsT ⟨by unfold colsT; simp, by unfold colsT; simp⟩ _ (fun x hx => ⟨(tIt_mem hx).1, by rw [(tIt_mem hx).2]; omega, by rw [(tIt_mem hx).2]; omega⟩) (by omega) (by omega) _
theorem u_ok (n : Int) (hn : n ≤ 100) (l : List Chg) : IT (uAll n l) ∧ asum (uAll n l) ≤ 400 ∧ TB (tabU n l) ∧ tot (tabU n l).rows ≤ 400 := by
  have hl : (uIt (l.take 20)).length ≤ 20 := Nat.le_trans (List.length_filterMap_le _ _) (by rw [List.length_take]; omega)
  have ht := ones_tot (uIt (l.take 20)) fun x hx => (uIt_mem hx).2
  refine items_ok colsU ⟨by unfold colsU; simp, by unfold colsU; simp⟩ (uAll n l) (fun x hx => ?_) ?_ ?_ _
  · unfold uAll at hx
    rcases List.mem_append.mp hx with hx | hx
    · exact ⟨(uIt_mem hx).1, by rw [(uIt_mem hx).2]; omega, by rw [(uIt_mem hx).2]; omega⟩
    · split at hx
      · rename_i h0
        rw [List.mem_singleton] at hx
        subst hx
        refine ⟨?_, h0, hn⟩
        simp only [nums2, fits, colsU, num_right, Bool.true_and, Bool.and_true]; rfl
      · simp at hx
  · unfold uAll
    rw [tot_append, ht]
    split <;> simp [tot] <;> omega
  · unfold uAll
    rw [List.length_append]
    split <;> simp <;> omega
theorem tabs_st (n : Int) (hn : n ≤ 100) (l : List Chg) : ST 400 (tabU n l) (tabT l) :=
  ⟨(u_ok n hn l).2.2.1, (t_ok l).2.2.1, rfl, rfl, (u_ok n hn l).2.2.2, (t_ok l).2.2.2⟩
set_option maxHeartbeats 16000000 in
theorem tables_run (g : Good P E) (d : Nat) (n : Int) (hn : n ≤ 100) (l : List Chg) : run P E T (d + 6) 7 [.d (.int .i64 n), .d (.lst (chsc l))] [] = some (.arr 0 0 2, [some (.row 3 [tabc (tabU n l), tabc (tabT l)])]) := by
  rw [run_succ _ _ _ _ _ _ _ _ T_7]
  obtain ⟨u1, u2, _, _⟩ := u_ok n hn l
  obtain ⟨t1, t2, _, _⟩ := t_ok l
  have h16 := u_run P E (d + 4)
  have h17 := t_run P E (d + 4)
  have h6 := nums_run P E (d + 3) 7 7
  have hA := rounds7 P E (d + 3) n l [tabc ⟨nmB true, colsU, []⟩, tabc ⟨nmB false, colsT, []⟩] ((l.take 20).length) 0 LOOPS [] [] (by omega) (by omega) (by unfold LOOPS; rw [List.length_take]; omega) (by simp) (by simp)
  rw [List.drop_zero, List.nil_append, List.nil_append] at hA
  have h18t := refMake_run g d (tIt (l.take 20)) t1 (by omega) (by have := t1.len; have : (tIt (l.take 20)).length ≤ 20 := Nat.le_trans (List.length_filterMap_le _ _) (by rw [List.length_take]; omega); omega)
  have h18u := refMake_run g d (uAll n l) u1 (by omega) (by
    have : (uIt (l.take 20)).length ≤ 20 := Nat.le_trans (List.length_filterMap_le _ _) (by rw [List.length_take]; omega)
    unfold uAll; rw [List.length_append]; split <;> simp <;> omega)
  have hul : (setc (uIt (l.take 20))).length + 1 ≤ 4294967296 := by
    rw [setc_len]
    have : (uIt (l.take 20)).length ≤ 20 := Nat.le_trans (List.length_filterMap_le _ _) (by rw [List.length_take]; omega)
    omega
  simp only [fr7, fe7, uuV, uuS, ouV, if_pos, tabc] at hA
  rw [show ((0 : Nat) : Int) = 0 from rfl] at hA
  rw [show setc ([] : Set) = [] from rfl] at hA
  unfold tabU tabT
  simp only [tabc]
  generalize mkS (uAll n l) = mu at *
  generalize mkS (tIt (l.take 20)) = mt at *
  unfold uAll at h18u
  rw [setc_append] at h18u
  generalize setc (tIt (l.take 20)) = ts at *
  generalize setc (uIt (l.take 20)) = us at *
  rw [nm_u, nm_t] at *
  by_cases h0 : 0 < n
  · have h12 := keepOne_run g (d + 4) n h0 (nums2 7 7)
    rw [if_pos h0] at h18u
    rw [show setc [(nums2 7 7, n)] = [itc (nums2 7 7, n)] from rfl] at h12 h18u
    have hz : (itc (nums2 7 7, n)).length = 2 := rfl
    generalize itc (nums2 7 7, n) = z at *
    have htk : List.take (us.length + 1) (us ++ [z]) = us ++ [z] := List.take_of_length_le (by simp)
    by_cases h1 : ts = []
    · by_cases h2 : us = []
      · simp only [h1, h2, if_pos, if_false, List.nil_append, List.append_nil, List.cons_append] at hA h18t h18u
        simp -implicitDefEqProofs [v7, h16, h17, h6, h12, h0, hul, hz, htk, S_16, S_17, S_6, S_12, S_18, show setc ([] : Set) = [] from rfl, hA, h18t, h18u, h1, h2, callX, callIds, frzArgs, passArgs, List.range_succ, List.idxOf?_cons, -forget, ↓get8, ↓set8, mask7a, mask7b]
      · simp only [h1, h2, if_pos, if_false, List.nil_append, List.append_nil, List.cons_append] at hA h18t h18u
        simp -implicitDefEqProofs [v7, h16, h17, h6, h12, h0, hul, hz, htk, S_16, S_17, S_6, S_12, S_18, show setc ([] : Set) = [] from rfl, hA, h18t, h18u, h1, h2, callX, callIds, frzArgs, passArgs, List.range_succ, List.idxOf?_cons, -forget, ↓get8, ↓set8, mask7a, mask7b]
    · by_cases h2 : us = []
      · simp only [h1, h2, if_pos, if_false, List.nil_append, List.append_nil, List.cons_append] at hA h18t h18u
        simp -implicitDefEqProofs [v7, h16, h17, h6, h12, h0, hul, hz, htk, S_16, S_17, S_6, S_12, S_18, show setc ([] : Set) = [] from rfl, hA, h18t, h18u, h1, h2, callX, callIds, frzArgs, passArgs, List.range_succ, List.idxOf?_cons, -forget, ↓get8, ↓set8, mask7a, mask7b]
      · simp only [h1, h2, if_pos, if_false, List.nil_append, List.append_nil, List.cons_append] at hA h18t h18u
        simp -implicitDefEqProofs [v7, h16, h17, h6, h12, h0, hul, hz, htk, S_16, S_17, S_6, S_12, S_18, show setc ([] : Set) = [] from rfl, hA, h18t, h18u, h1, h2, callX, callIds, frzArgs, passArgs, List.range_succ, List.idxOf?_cons, -forget, ↓get8, ↓set8, mask7a, mask7b]
  · rw [if_neg h0, show setc ([] : Set) = [] from rfl, List.append_nil] at h18u
    by_cases h1 : ts = []
    · by_cases h2 : us = []
      · simp only [h1, h2, if_pos, if_false, List.nil_append, List.append_nil, List.cons_append] at hA h18t h18u
        simp -implicitDefEqProofs [v7, h16, h17, h0, S_16, S_17, S_18, show setc ([] : Set) = [] from rfl, hA, h18t, h18u, h1, h2, callX, callIds, frzArgs, passArgs, List.range_succ, List.idxOf?_cons, -forget, ↓get8, ↓set8, mask7a, mask7b]
        have hmm := h18t.symm.trans h18u
        simpa using hmm
      · simp only [h1, h2, if_pos, if_false, List.nil_append, List.append_nil, List.cons_append] at hA h18t h18u
        simp -implicitDefEqProofs [v7, h16, h17, h0, S_16, S_17, S_18, show setc ([] : Set) = [] from rfl, hA, h18t, h18u, h1, h2, callX, callIds, frzArgs, passArgs, List.range_succ, List.idxOf?_cons, -forget, ↓get8, ↓set8, mask7a, mask7b]
    · by_cases h2 : us = []
      · simp only [h1, h2, if_pos, if_false, List.nil_append, List.append_nil, List.cons_append] at hA h18t h18u
        simp -implicitDefEqProofs [v7, h16, h17, h0, S_16, S_17, S_18, show setc ([] : Set) = [] from rfl, hA, h18t, h18u, h1, h2, callX, callIds, frzArgs, passArgs, List.range_succ, List.idxOf?_cons, -forget, ↓get8, ↓set8, mask7a, mask7b]
      · simp only [h1, h2, if_pos, if_false, List.nil_append, List.append_nil, List.cons_append] at hA h18t h18u
        simp -implicitDefEqProofs [v7, h16, h17, h0, S_16, S_17, S_18, show setc ([] : Set) = [] from rfl, hA, h18t, h18u, h1, h2, callX, callIds, frzArgs, passArgs, List.range_succ, List.idxOf?_cons, -forget, ↓get8, ↓set8, mask7a, mask7b]
end Go.Vm.B
namespace Go.Vm.B
open Go.Fl
theorem mask14a (ts : List V) (σ : Store) (h : ts.length = 82) : forget 0 99 ⟨ts, σ⟩ = ⟨(gc 0 (List.zipWith (fun v b => bif b then v else .bot) ts [true, true, false, false, false, true, true, false, false, false, false, false, false, false, false, false, false, false, false, false, false, false, false, false, false, false, false, false, false, false, false, false, false, false, false, false, false, false, false, false, false, false, false, false, false, false, false, false, false, false, false, false, false, false, false, false, false, false, false, false, false, false, false, false, false, false, false, false, false, false, false, false, false, false, false, false, false, false, false, false, false, false]) σ).1, (gc 0 (List.zipWith (fun v b => bif b then v else .bot) ts [true, true, false, false, false, true, true, false, false, false, false, false, false, false, false, false, false, false, false, false, false, false, false, false, false, false, false, false, false, false, false, false, false, false, false, false, false, false, false, false, false, false, false, false, false, false, false, false, false, false, false, false, false, false, false, false, false, false, false, false, false, false, false, false, false, false, false, false, false, false, false, false, false, false, false, false, false, false, false, false, false, false]) σ).2⟩ := forget_mask 0 99 _ (by decide +kernel) ts σ h
theorem mask14b (ts : List V) (σ : Store) (h : ts.length = 82) : forget 0 48 ⟨ts, σ⟩ = ⟨(gc 0 (List.zipWith (fun v b => bif b then v else .bot) ts [false, false, false, false, true, true, false, false, false, false, false, false, false, false, false, false, false, false, false, false, false, false, false, false, false, false, false, false, false, false, false, false, false, false, false, false, false, false, false, false, false, false, false, false, false, false, false, false, false, false, false, false, false, false, false, false, false, false, false, false, false, false, false, false, false, false, false, false, false, false, false, false, false, false, false, false, false, false, false, false, false, false]) σ).1, (gc 0 (List.zipWith (fun v b => bif b then v else .bot) ts [false, false, false, false, true, true, false, false, false, false, false, false, false, false, false, false, false, false, false, false, false, false, false, false, false, false, false, false, false, false, false, false, false, false, false, false, false, false, false, false, false, false, false, false, false, false, false, false, false, false, false, false, false, false, false, false, false, false, false, false, false, false, false, false, false, false, false, false, false, false, false, false, false, false, false, false, false, false, false, false, false, false]) σ).2⟩ := forget_mask 0 48 _ (by decide +kernel) ts σ h
theorem mask14c (ts : List V) (σ : Store) (h : ts.length = 82) : forget 0 995 ⟨ts, σ⟩ = ⟨(gc 0 (List.zipWith (fun v b => bif b then v else .bot) ts [true, true, false, false, false, true, true, true, true, true, false, false, false, false, false, false, false, false, false, false, false, false, false, false, false, false, false, false, false, false, false, false, false, false, false, false, false, false, false, false, false, false, false, false, false, false, false, false, false, false, false, false, false, false, false, false, false, false, false, false, false, false, false, false, false, false, false, false, false, false, false, false, false, false, false, false, false, false, false, false, false, false]) σ).1, (gc 0 (List.zipWith (fun v b => bif b then v else .bot) ts [true, true, false, false, false, true, true, true, true, true, false, false, false, false, false, false, false, false, false, false, false, false, false, false, false, false, false, false, false, false, false, false, false, false, false, false, false, false, false, false, false, false, false, false, false, false, false, false, false, false, false, false, false, false, false, false, false, false, false, false, false, false, false, false, false, false, false, false, false, false, false, false, false, false, false, false, false, false, false, false, false, false]) σ).2⟩ := forget_mask 0 995 _ (by decide +kernel) ts σ h
theorem mask14d (ts : List V) (σ : Store) (h : ts.length = 82) : forget 0 499 ⟨ts, σ⟩ = ⟨(gc 0 (List.zipWith (fun v b => bif b then v else .bot) ts [true, true, false, false, true, true, true, true, true, false, false, false, false, false, false, false, false, false, false, false, false, false, false, false, false, false, false, false, false, false, false, false, false, false, false, false, false, false, false, false, false, false, false, false, false, false, false, false, false, false, false, false, false, false, false, false, false, false, false, false, false, false, false, false, false, false, false, false, false, false, false, false, false, false, false, false, false, false, false, false, false, false]) σ).1, (gc 0 (List.zipWith (fun v b => bif b then v else .bot) ts [true, true, false, false, true, true, true, true, true, false, false, false, false, false, false, false, false, false, false, false, false, false, false, false, false, false, false, false, false, false, false, false, false, false, false, false, false, false, false, false, false, false, false, false, false, false, false, false, false, false, false, false, false, false, false, false, false, false, false, false, false, false, false, false, false, false, false, false, false, false, false, false, false, false, false, false, false, false, false, false, false, false]) σ).2⟩ := forget_mask 0 499 _ (by decide +kernel) ts σ h
attribute [local irreducible] IntKind.wrap Go.Fl.fl tnD
variable {P : Program} {E : Env}
def nearK (k : Int) : Int := if k < -1000 ∨ 1000 < k then 0 else k
def fewV (v : Val) : Val := ⟨nearK v.k, v.n, if 41 < v.s.size then v.s.extract 0 41 else v.s⟩
def fewR (r : Row) : Row := (r.take 7).map fewV
def fewC (c : Chg) : Chg := ⟨if 20 < c.t.size then c.t.extract 0 20 else c.t, fewR c.r, c.m⟩
def rowK (r : Row) (k : Nat) : Row := (r.take k).map fewV ++ r.drop k
theorem rowK_len (r : Row) (k : Nat) : (rowK r k).length = r.length := by
  unfold rowK; rw [List.length_append, List.length_map, List.length_take, List.length_drop]; omega
theorem rowK_get (r : Row) {k : Nat} (h : k < r.length) : (rowK r k)[k]? = some r[k] := by
  have hl : ((r.take k).map fewV).length = k := by rw [List.length_map, List.length_take]; omega
  unfold rowK
  rw [List.getElem?_append_right (by omega), hl, Nat.sub_self, List.getElem?_drop, Nat.add_zero, List.getElem?_eq_getElem h]
theorem rowK_set (r : Row) {k : Nat} (h : k < r.length) : (rowK r k).set k (fewV r[k]) = rowK r (k + 1) := by
  have hl : ((r.take k).map fewV).length = k := by rw [List.length_map, List.length_take]; omega
  unfold rowK
  rw [List.set_append_right _ _ (by omega), hl, Nat.sub_self, List.drop_eq_getElem_cons h, List.set_cons_zero, List.take_succ_eq_append_getElem h, List.map_append]
  simp
theorem rowc_set (r : Row) (k : Nat) (v : Val) : (Row.c r).set k v.c = Row.c (r.set k v) := by unfold Row.c; rw [List.map_set]
def fr14i (L : List (List D)) (out : List (List D)) (i : Nat) (t : ByteArray) (r : Row) (m : Bool) (k : Nat) : Fr :=
  ⟨[.d (.lst L), .d (.int .i64 9), .bot, .bot, .bot, ouV 0 out, .d (.int .i64 (i : Nat)), .ptr (if out = [] then 0 else 1) 0 0, .arr (if out = [] then 1 else 2) 0 (min 7 r.length), .d (.int .i64 (k : Nat)), .bot, .bot, .bot, .bot, .bot, .bot, .bot, .bot, .bot, .bot, .bot, .bot, .bot, .bot, .bot, .bot, .bot, .bot, .bot, .bot, .bot, .bot, .bot, .bot, .bot, .bot, .bot, .bot, .bot, .bot, .bot, .bot, .bot, .bot, .bot, .bot, .bot, .bot, .bot, .bot, .bot, .bot, .bot, .bot, .bot, .bot, .bot, .bot, .bot, .bot, .bot, .bot, .bot, .bot, .bot, .bot, .bot, .bot, .bot, .bot, .bot, .bot, .bot, .bot, .bot, .bot, .bot, .bot, .bot, .bot, .bot, .bot],
    (if out = [] then [] else [some (.row 3 out)]) ++ [some (.box [.d (.str t), .d (.lst r.c), .d (.bool m)]), some (.row 3 (rowK r k).c)]⟩
def fe14i (L : List (List D)) (out : List (List D)) (i : Nat) (t : ByteArray) (r : Row) (m : Bool) : Fr :=
  ⟨[.d (.lst L), .d (.int .i64 9), .bot, .bot, .bot, ouV 0 out, .d (.int .i64 (i : Nat)), .ptr (if out = [] then 0 else 1) 0 0, .arr (if out = [] then 1 else 2) 0 (min 7 r.length), .bot, .bot, .bot, .bot, .bot, .bot, .bot, .bot, .bot, .bot, .bot, .bot, .bot, .bot, .bot, .bot, .bot, .bot, .bot, .bot, .bot, .bot, .bot, .bot, .bot, .bot, .bot, .bot, .bot, .bot, .bot, .bot, .bot, .bot, .bot, .bot, .bot, .bot, .bot, .bot, .bot, .bot, .bot, .bot, .bot, .bot, .bot, .bot, .bot, .bot, .bot, .bot, .bot, .bot, .bot, .bot, .bot, .bot, .bot, .bot, .bot, .bot, .bot, .bot, .bot, .bot, .bot, .bot, .bot, .bot, .bot, .bot, .bot],
    (if out = [] then [] else [some (.row 3 out)]) ++ [some (.box [.d (.str t), .d (.lst r.c), .d (.bool m)]), some (.row 3 (rowK r (min 7 r.length)).c)]⟩
set_option maxHeartbeats 16000000 in
theorem rounds14i (P : Program) (E : Env) (d : Nat) (L out : List (List D)) (i : Nat) (t : ByteArray) (r : Row) (m : Bool) : ∀ (n k f : Nat), n = min 7 r.length - k → k ≤ min 7 r.length → n < f →
    rounds (exec P (run P E T (d + 1)) (refsOf T) 0 v14_0) (forget 0 995) (forget 0 499) f (fr14i L out i t r m k) = some (.exit 2, fe14i L out i t r m) := by
  intro n
  induction n with
  | zero =>
    intro k f hn hk hf
    obtain ⟨f, rfl⟩ : ∃ f', f = f' + 1 := ⟨f - 1, by omega⟩
    have : k = min 7 r.length := by omega
    subst this
    rw [rounds]
    unfold fr14i fe14i
    generalize min 7 r.length = len at *
    by_cases ho : out = []
    · simp -implicitDefEqProofs [exB v14_0.eq_1, ouV, ho, callX, callIds, frzArgs, passArgs, List.range_succ, List.idxOf?_cons, -forget, ↓get8, ↓set8, mask14a, mask14b, mask14c, mask14d]
    · simp -implicitDefEqProofs [exB v14_0.eq_1, ouV, ho, callX, callIds, frzArgs, passArgs, List.range_succ, List.idxOf?_cons, -forget, ↓get8, ↓set8, mask14a, mask14b, mask14c, mask14d]
  | succ n ih =>
    intro k f hn hk hf
    obtain ⟨f, rfl⟩ : ∃ f', f = f' + 1 := ⟨f - 1, by omega⟩
    have hlt0 : k < min 7 r.length := by omega
    have hkr : k < r.length := by omega
    have hw : IntKind.i64.wrap ((k : Int) + 1) = (k : Int) + 1 := wrap_small (by omega) (by omega)
    have hg1 : (rowK r k).c[k]? = some (r[k]).c := by unfold Row.c; rw [List.getElem?_map, rowK_get r hkr]; rfl
    have hset := rowK_set r hkr
    have hkl : k < (rowK r k).c.length := by rw [Row.c_len, rowK_len]; exact hkr
    have h24 := near_run P E d r[k].k
    have hsc := rowc_set (rowK r k) k (fewV r[k])
    rw [← ih (k + 1) f (by omega) (by omega) (by omega), rounds]
    clear ih
    rw [hset] at hsc
    unfold fr14i
    rw [← hsc]
    have hge : (rowK r k).c[k] = (r[k]).c := by
      have := List.getElem?_eq_getElem hkl
      rw [hg1] at this; injection this with this; exact this.symm
    generalize r[k] = v at *
    generalize (rowK r k).c = xs at *
    have hlt : k < min 7 r.length := hlt0
    have hI : (k : Int) < ((min 7 r.length : Nat) : Int) := by omega
    generalize min 7 r.length = len at *
    clear hlt0 hset
    obtain ⟨vk, vn, vs⟩ := v
    simp only [Val.c, fewV, nearK] at *
    by_cases hs : 41 < vs.size
    · have hsI : (41 : Int) < vs.size := by omega
      have hsI2 : (41 : Int) ≤ vs.size := by omega
      rw [if_pos hs]
      by_cases ho : out = []
      · simp -implicitDefEqProofs [exB v14_0.eq_1, ouV, ho, hlt, hI, hw, hg1, hge, h24, hkl, hsI, hsI2, S_24, callX, callIds, frzArgs, passArgs, List.range_succ, List.idxOf?_cons, -forget, ↓get8, ↓set8, mask14a, mask14b, mask14c, mask14d]
      · simp -implicitDefEqProofs [exB v14_0.eq_1, ouV, ho, hlt, hI, hw, hg1, hge, h24, hkl, hsI, hsI2, S_24, callX, callIds, frzArgs, passArgs, List.range_succ, List.idxOf?_cons, -forget, ↓get8, ↓set8, mask14a, mask14b, mask14c, mask14d]
    · have hsI : ¬ (41 : Int) < vs.size := by omega
      rw [if_neg hs]
      by_cases ho : out = []
      · simp -implicitDefEqProofs [exB v14_0.eq_1, ouV, ho, hlt, hI, hw, hg1, hge, h24, hkl, hsI, S_24, callX, callIds, frzArgs, passArgs, List.range_succ, List.idxOf?_cons, -forget, ↓get8, ↓set8, mask14a, mask14b, mask14c, mask14d]
      · simp -implicitDefEqProofs [exB v14_0.eq_1, ouV, ho, hlt, hI, hw, hg1, hge, h24, hkl, hsI, S_24, callX, callIds, frzArgs, passArgs, List.range_succ, List.idxOf?_cons, -forget, ↓get8, ↓set8, mask14a, mask14b, mask14c, mask14d]
end Go.Vm.B
namespace Go.Vm.B
open Go.Fl
attribute [local irreducible] IntKind.wrap Go.Fl.fl tnD
variable {P : Program} {E : Env}
def fr14 (l : List Chg) (i : Nat) (out : List (List D)) : Fr := ⟨[.d (.lst (chsc l)), .d (.int .i64 9), .bot, .bot, .bot, ouV 0 out, .d (.int .i64 (i : Nat)), .bot, .bot, .bot, .bot, .bot, .bot, .bot, .bot, .bot, .bot, .bot, .bot, .bot, .bot, .bot, .bot, .bot, .bot, .bot, .bot, .bot, .bot, .bot, .bot, .bot, .bot, .bot, .bot, .bot, .bot, .bot, .bot, .bot, .bot, .bot, .bot, .bot, .bot, .bot, .bot, .bot, .bot, .bot, .bot, .bot, .bot, .bot, .bot, .bot, .bot, .bot, .bot, .bot, .bot, .bot, .bot, .bot, .bot, .bot, .bot, .bot, .bot, .bot, .bot, .bot, .bot, .bot, .bot, .bot, .bot, .bot, .bot, .bot, .bot, .bot], if out = [] then [] else [some (.row 3 out)]⟩
def fe14 (out : List (List D)) : Fr := ⟨[.bot, .bot, .bot, .bot, .bot, ouV 0 out, .bot, .bot, .bot, .bot, .bot, .bot, .bot, .bot, .bot, .bot, .bot, .bot, .bot, .bot, .bot, .bot, .bot, .bot, .bot, .bot, .bot, .bot, .bot, .bot, .bot, .bot, .bot, .bot, .bot, .bot, .bot, .bot, .bot, .bot, .bot, .bot, .bot, .bot, .bot, .bot, .bot, .bot, .bot, .bot, .bot, .bot, .bot, .bot, .bot, .bot, .bot, .bot, .bot, .bot, .bot, .bot, .bot, .bot, .bot, .bot, .bot, .bot, .bot, .bot, .bot, .bot, .bot, .bot, .bot, .bot, .bot, .bot, .bot, .bot, .bot, .bot], if out = [] then [] else [some (.row 3 out)]⟩
theorem rowK_end (r : Row) : List.take (min 7 r.length) (rowK r (min 7 r.length)).c = (fewR r).c := by
  have hl : ((r.take (min 7 r.length)).map fewV).length = min 7 r.length := by rw [List.length_map, List.length_take]; omega
  unfold Row.c
  rw [← List.map_take]
  unfold rowK fewR
  rw [List.take_append_of_le_length (by omega), List.take_of_length_le (by omega)]
  congr 2
  rcases Nat.le_total 7 r.length with h | h
  · rw [Nat.min_eq_left h]
  · rw [Nat.min_eq_right h, List.take_of_length_le (Nat.le_refl _), List.take_of_length_le h]
set_option maxHeartbeats 16000000 in
theorem rounds14 (P : Program) (E : Env) (d : Nat) (l : List Chg) (hr : ∀ c ∈ l.take 9, c.r.length ≤ 4398046511104) : ∀ (m i f : Nat) (out : List (List D)), m = (l.take 9).length - i → i ≤ (l.take 9).length → m < f → out.length = i →
    rounds (exec P (run P E T (d + 1)) (refsOf T) 0 v14_1) (forget 0 99) (forget 0 48) f (fr14 l i out) = some (.exit 0, fe14 (out ++ chsc (((l.take 9).drop i).map fewC))) := by
  intro m
  have hlk : (l.take 9).length = min 9 l.length := List.length_take
  induction m with
  | zero =>
    intro i f out hm hi hf ho
    obtain ⟨f, rfl⟩ : ∃ f', f = f' + 1 := ⟨f - 1, by omega⟩
    have : i = (l.take 9).length := by omega
    rw [rounds, this, List.drop_length, List.map_nil, show chsc [] = [] from rfl, List.append_nil, ← this]
    by_cases hI : (i : Int) < l.length
    · have hi9 : i = 9 := by omega
      subst hi9
      have hI' : (9 : Int) < l.length := by omega
      by_cases hn : out = []
      · simp -implicitDefEqProofs [exB v14_1.eq_1, fr14, fe14, ouV, chsc_len, hI, hI', hn, callX, callIds, frzArgs, passArgs, List.range_succ, List.idxOf?_cons, -forget, ↓get8, ↓set8, mask14a, mask14b, mask14c, mask14d]
      · simp -implicitDefEqProofs [exB v14_1.eq_1, fr14, fe14, ouV, chsc_len, hI, hI', hn, callX, callIds, frzArgs, passArgs, List.range_succ, List.idxOf?_cons, -forget, ↓get8, ↓set8, mask14a, mask14b, mask14c, mask14d]
    · by_cases hn : out = []
      · simp -implicitDefEqProofs [exB v14_1.eq_1, fr14, fe14, ouV, chsc_len, hI, hn, callX, callIds, frzArgs, passArgs, List.range_succ, List.idxOf?_cons, -forget, ↓get8, ↓set8, mask14a, mask14b, mask14c, mask14d]
      · simp -implicitDefEqProofs [exB v14_1.eq_1, fr14, fe14, ouV, chsc_len, hI, hn, callX, callIds, frzArgs, passArgs, List.range_succ, List.idxOf?_cons, -forget, ↓get8, ↓set8, mask14a, mask14b, mask14c, mask14d]
  | succ m ih =>
    intro i f out hm hi hf ho
    obtain ⟨f, rfl⟩ : ∃ f', f = f' + 1 := ⟨f - 1, by omega⟩
    have hlt : i < (l.take 9).length := by omega
    have hlt2 : i < l.length := by omega
    have hI : (i : Int) < l.length := by omega
    have hI9 : (i : Int) < 9 := by omega
    have hx := chsc_get hlt2
    have hw : IntKind.i64.wrap ((i : Int) + 1) = (i : Int) + 1 := wrap_small (by omega) (by omega)
    have hb1 : out.length + 1 ≤ 4294967296 := by omega
    have hge : (l.take 9)[i] = l[i] := List.getElem_take
    have hrl := hr _ (List.getElem_mem hlt)
    rw [hge] at hrl
    rw [List.drop_eq_getElem_cons hlt, hge, List.map_cons]
    rw [show chsc (fewC l[i] :: ((l.take 9).drop (i + 1)).map fewC) = [chc (fewC l[i])] ++ chsc (((l.take 9).drop (i + 1)).map fewC) from rfl, ← List.append_assoc, ← ih (i + 1) f (out ++ [chc (fewC l[i])]) (by omega) (by omega) (by omega) (by simp [ho]), rounds]
    clear ih
    generalize hce : l[i] = c at *
    obtain ⟨t, r, mm⟩ := c
    simp only at hrl
    have hfin := rowK_end r
    unfold fewC
    dsimp only
    by_cases ht : 20 < t.size
    · have htI : (20 : Int) < t.size := by omega
      have htI2 : (20 : Int) ≤ t.size := by omega
      rw [if_pos ht]
      have hin := rounds14i P E d (chsc l) out i (t.extract 0 20) r mm (min 7 r.length) 0 LOOPS (by omega) (by omega) (by unfold LOOPS; omega)
      have hk0 : rowK r 0 = r := by unfold rowK; simp
      simp only [fr14i, fe14i, hk0, ouV] at hin
      rw [show ((0 : Nat) : Int) = 0 from rfl] at hin
      by_cases hr0 : r = []
      · subst hr0
        have hrk : ∀ k, Row.c (rowK [] k) = [] := fun k => by simp [rowK, Row.c]
        have hr00 : Row.c [] = [] := rfl
        simp only [hrk, hr00, List.length_nil, Nat.min_zero, List.take_nil] at hin hfin
        have hfe : (fewR []).c = [] := rfl
        by_cases ho : out = []
        · subst ho
          simp only [if_pos, List.nil_append] at hin
          simp -implicitDefEqProofs [exB v14_1.eq_1, fr14, ouV, chsc_len, hI, hI9, hlt2, hx, hce, chc, hw, hin, Row.c_len, rowK_len, htI, htI2, hr00, hfe, callX, callIds, frzArgs, passArgs, List.range_succ, List.idxOf?_cons, -forget, ↓get8, ↓set8, mask14a, mask14b, mask14c, mask14d]
        · simp only [ho, if_false, List.cons_append, List.nil_append] at hin
          simp -implicitDefEqProofs [exB v14_1.eq_1, fr14, ouV, chsc_len, hI, hI9, hlt2, hx, hce, chc, hw, hin, Row.c_len, rowK_len, ho, hb1, htI, htI2, hr00, hfe, callX, callIds, frzArgs, passArgs, List.range_succ, List.idxOf?_cons, -forget, ↓get8, ↓set8, mask14a, mask14b, mask14c, mask14d]
      · have hcn := Row.c_ne hr0
        have hb3 := bad3 r
        by_cases h7 : 7 < r.length
        · have h7I : (7 : Int) < r.length := by omega
          have h7I2 : (7 : Int) ≤ r.length := by omega
          have h7N : 7 ≤ r.length := by omega
          have hmin : min 7 r.length = 7 := by omega
          rw [hmin] at hin hfin
          by_cases ho : out = []
          · subst ho
            simp only [if_pos, List.nil_append] at hin
            simp -implicitDefEqProofs [exB v14_1.eq_1, fr14, ouV, chsc_len, hI, hI9, hlt2, hx, hce, chc, hw, hin, hfin, Row.c_len, rowK_len, htI, htI2, hr0, hcn, hb3, h7, h7I, h7I2, h7N, hrl, callX, callIds, frzArgs, passArgs, List.range_succ, List.idxOf?_cons, -forget, ↓get8, ↓set8, mask14a, mask14b, mask14c, mask14d]
          · simp only [ho, if_false, List.cons_append, List.nil_append] at hin
            simp -implicitDefEqProofs [exB v14_1.eq_1, fr14, ouV, chsc_len, hI, hI9, hlt2, hx, hce, chc, hw, hin, hfin, Row.c_len, rowK_len, ho, hb1, htI, htI2, hr0, hcn, hb3, h7, h7I, h7I2, h7N, hrl, callX, callIds, frzArgs, passArgs, List.range_succ, List.idxOf?_cons, -forget, ↓get8, ↓set8, mask14a, mask14b, mask14c, mask14d]
        · have h7I : ¬ (7 : Int) < r.length := by omega
          have hmin : min 7 r.length = r.length := by omega
          rw [hmin] at hin hfin
          by_cases ho : out = []
          · subst ho
            simp only [if_pos, List.nil_append] at hin
            simp -implicitDefEqProofs [exB v14_1.eq_1, fr14, ouV, chsc_len, hI, hI9, hlt2, hx, hce, chc, hw, hin, hfin, Row.c_len, rowK_len, htI, htI2, hr0, hcn, hb3, h7, h7I, hrl, callX, callIds, frzArgs, passArgs, List.range_succ, List.idxOf?_cons, -forget, ↓get8, ↓set8, mask14a, mask14b, mask14c, mask14d]
          · simp only [ho, if_false, List.cons_append, List.nil_append] at hin
            simp -implicitDefEqProofs [exB v14_1.eq_1, fr14, ouV, chsc_len, hI, hI9, hlt2, hx, hce, chc, hw, hin, hfin, Row.c_len, rowK_len, ho, hb1, htI, htI2, hr0, hcn, hb3, h7, h7I, hrl, callX, callIds, frzArgs, passArgs, List.range_succ, List.idxOf?_cons, -forget, ↓get8, ↓set8, mask14a, mask14b, mask14c, mask14d]
    · have htI : ¬ (20 : Int) < t.size := by omega
      rw [if_neg ht]
      have hin := rounds14i P E d (chsc l) out i t r mm (min 7 r.length) 0 LOOPS (by omega) (by omega) (by unfold LOOPS; omega)
      have hk0 : rowK r 0 = r := by unfold rowK; simp
      simp only [fr14i, fe14i, hk0, ouV] at hin
      rw [show ((0 : Nat) : Int) = 0 from rfl] at hin
      by_cases hr0 : r = []
      · subst hr0
        have hrk : ∀ k, Row.c (rowK [] k) = [] := fun k => by simp [rowK, Row.c]
        have hr00 : Row.c [] = [] := rfl
        simp only [hrk, hr00, List.length_nil, Nat.min_zero, List.take_nil] at hin hfin
        have hfe : (fewR []).c = [] := rfl
        by_cases ho : out = []
        · subst ho
          simp only [if_pos, List.nil_append] at hin
          simp -implicitDefEqProofs [exB v14_1.eq_1, fr14, ouV, chsc_len, hI, hI9, hlt2, hx, hce, chc, hw, hin, Row.c_len, rowK_len, htI, hr00, hfe, callX, callIds, frzArgs, passArgs, List.range_succ, List.idxOf?_cons, -forget, ↓get8, ↓set8, mask14a, mask14b, mask14c, mask14d]
        · simp only [ho, if_false, List.cons_append, List.nil_append] at hin
          simp -implicitDefEqProofs [exB v14_1.eq_1, fr14, ouV, chsc_len, hI, hI9, hlt2, hx, hce, chc, hw, hin, Row.c_len, rowK_len, ho, hb1, htI, hr00, hfe, callX, callIds, frzArgs, passArgs, List.range_succ, List.idxOf?_cons, -forget, ↓get8, ↓set8, mask14a, mask14b, mask14c, mask14d]
      · have hcn := Row.c_ne hr0
        have hb3 := bad3 r
        by_cases h7 : 7 < r.length
        · have h7I : (7 : Int) < r.length := by omega
          have h7I2 : (7 : Int) ≤ r.length := by omega
          have h7N : 7 ≤ r.length := by omega
          have hmin : min 7 r.length = 7 := by omega
          rw [hmin] at hin hfin
          by_cases ho : out = []
          · subst ho
            simp only [if_pos, List.nil_append] at hin
            simp -implicitDefEqProofs [exB v14_1.eq_1, fr14, ouV, chsc_len, hI, hI9, hlt2, hx, hce, chc, hw, hin, hfin, Row.c_len, rowK_len, htI, hr0, hcn, hb3, h7, h7I, h7I2, h7N, hrl, callX, callIds, frzArgs, passArgs, List.range_succ, List.idxOf?_cons, -forget, ↓get8, ↓set8, mask14a, mask14b, mask14c, mask14d]
          · simp only [ho, if_false, List.cons_append, List.nil_append] at hin
            simp -implicitDefEqProofs [exB v14_1.eq_1, fr14, ouV, chsc_len, hI, hI9, hlt2, hx, hce, chc, hw, hin, hfin, Row.c_len, rowK_len, ho, hb1, htI, hr0, hcn, hb3, h7, h7I, h7I2, h7N, hrl, callX, callIds, frzArgs, passArgs, List.range_succ, List.idxOf?_cons, -forget, ↓get8, ↓set8, mask14a, mask14b, mask14c, mask14d]
        · have h7I : ¬ (7 : Int) < r.length := by omega
          have hmin : min 7 r.length = r.length := by omega
          rw [hmin] at hin hfin
          by_cases ho : out = []
          · subst ho
            simp only [if_pos, List.nil_append] at hin
            simp -implicitDefEqProofs [exB v14_1.eq_1, fr14, ouV, chsc_len, hI, hI9, hlt2, hx, hce, chc, hw, hin, hfin, Row.c_len, rowK_len, htI, hr0, hcn, hb3, h7, h7I, hrl, callX, callIds, frzArgs, passArgs, List.range_succ, List.idxOf?_cons, -forget, ↓get8, ↓set8, mask14a, mask14b, mask14c, mask14d]
          · simp only [ho, if_false, List.cons_append, List.nil_append] at hin
            simp -implicitDefEqProofs [exB v14_1.eq_1, fr14, ouV, chsc_len, hI, hI9, hlt2, hx, hce, chc, hw, hin, hfin, Row.c_len, rowK_len, ho, hb1, htI, hr0, hcn, hb3, h7, h7I, hrl, callX, callIds, frzArgs, passArgs, List.range_succ, List.idxOf?_cons, -forget, ↓get8, ↓set8, mask14a, mask14b, mask14c, mask14d]
theorem few_run (P : Program) (E : Env) (d : Nat) (l : List Chg) (hr : ∀ c ∈ l.take 9, c.r.length ≤ 4398046511104) : run P E T (d + 2) 14 [.d (.lst (chsc l)), .d (.int .i64 9)] [] = some (.d (.lst (chsc ((l.take 9).map fewC))), []) := by
  rw [run_succ _ _ _ _ _ _ _ _ T_14]
  have h := rounds14 P E d l hr ((l.take 9).length) 0 LOOPS [] (by omega) (by omega) (by unfold LOOPS; rw [List.length_take]; omega) rfl
  rw [List.drop_zero, List.nil_append] at h
  simp only [fr14, fe14, ouV, if_pos] at h
  rw [show ((0 : Nat) : Int) = 0 from rfl] at h
  generalize chsc ((l.take 9).map fewC) = xs at *
  by_cases hn : xs = []
  · simp only [hn, if_pos] at h
    simp -implicitDefEqProofs [v14, h, hn, callX, callIds, frzArgs, passArgs, List.range_succ, List.idxOf?_cons, -forget, ↓get8, ↓set8, mask14a, mask14b, mask14c, mask14d]
  · simp only [hn, if_false] at h
    simp -implicitDefEqProofs [v14, h, hn, callX, callIds, frzArgs, passArgs, List.range_succ, List.idxOf?_cons, -forget, ↓get8, ↓set8, mask14a, mask14b, mask14c, mask14d]
end Go.Vm.B
namespace Go.Vm.B
theorem defs_closed (P : Program) (E : Env) (d : Nat) : run P E T (d + 9) 52 [.d (.lst [[.str ⟨#[117]⟩, .lst (colsc colsU)], [.str ⟨#[116]⟩, .lst (colsc colsT)]])] [] = some (.d (.int .i64 0), []) := by kernel_rfl
theorem rdefs_closed (P : Program) (E : Env) (d : Nat) : run P E T (d + 4) 72 [.d (.lst [[.str ⟨#[117]⟩, .lst (colsc colsU)], [.str ⟨#[116]⟩, .lst (colsc colsT)]])] [] = some (.d (.int .i64 0), []) := by kernel_rfl
end Go.Vm.B
namespace Go.Vm.B
open Go.Fl
theorem mask4ta (ts : List V) (σ : Store) (h : ts.length = 62) : forget 0 7690 ⟨ts, σ⟩ = ⟨(gc 0 (List.zipWith (fun v b => bif b then v else .bot) ts [false, true, false, true, false, false, false, false, false, true, true, true, true, false, false, false, false, false, false, false, false, false, false, false, false, false, false, false, false, false, false, false, false, false, false, false, false, false, false, false, false, false, false, false, false, false, false, false, false, false, false, false, false, false, false, false, false, false, false, false, false, false]) σ).1, (gc 0 (List.zipWith (fun v b => bif b then v else .bot) ts [false, true, false, true, false, false, false, false, false, true, true, true, true, false, false, false, false, false, false, false, false, false, false, false, false, false, false, false, false, false, false, false, false, false, false, false, false, false, false, false, false, false, false, false, false, false, false, false, false, false, false, false, false, false, false, false, false, false, false, false, false, false]) σ).2⟩ := forget_mask 0 7690 _ (by decide +kernel) ts σ h
theorem mask4tb (ts : List V) (σ : Store) (h : ts.length = 62) : forget 0 1794 ⟨ts, σ⟩ = ⟨(gc 0 (List.zipWith (fun v b => bif b then v else .bot) ts [false, true, false, false, false, false, false, false, true, true, true, false, false, false, false, false, false, false, false, false, false, false, false, false, false, false, false, false, false, false, false, false, false, false, false, false, false, false, false, false, false, false, false, false, false, false, false, false, false, false, false, false, false, false, false, false, false, false, false, false, false, false]) σ).1, (gc 0 (List.zipWith (fun v b => bif b then v else .bot) ts [false, true, false, false, false, false, false, false, true, true, true, false, false, false, false, false, false, false, false, false, false, false, false, false, false, false, false, false, false, false, false, false, false, false, false, false, false, false, false, false, false, false, false, false, false, false, false, false, false, false, false, false, false, false, false, false, false, false, false, false, false, false]) σ).2⟩ := forget_mask 0 1794 _ (by decide +kernel) ts σ h
attribute [local irreducible] IntKind.wrap Go.Fl.fl tnD
variable {P : Program} {E : Env}
theorem right31 (g : Good P E) (n : Int) (hn : n ≤ 100) (l : List Chg) (d : Nat) : run P E T (d + 105) 31 [.d (.lst [tabc (tabU n l), tabc (tabT l)])] [] = some (.d (.bool true), []) :=
  tabs_run g (d + 95) (tabU n l) (tabT l) (tabs_st n hn l).tx (tabs_st n hn l).ty fun d => by
    have := defs_closed P E d
    rw [← nm_u, ← nm_t] at this
    exact this
theorem right39 (g : Good P E) (n : Int) (hn : n ≤ 100) (l : List Chg) (d : Nat) : run P E T (d + 6) 39 [.d (.lst [tabc (tabU n l), tabc (tabT l)])] [] = some (.d (.bool true), []) :=
  rTabs_run g d (tabU n l) (tabT l) (tabs_st n hn l).tx (tabs_st n hn l).ty fun d => by
    have := rdefs_closed P E d
    rw [← nm_u, ← nm_t] at this
    exact this
/-! Some runs that are known -/
def oneR : Row := nums2 1 1
theorem oneR_right : oneR.right = true := by
  unfold oneR nums2 Row.right
  simp [num_right]
theorem oneR_fits : fits colsU oneR = true := by
  simp only [oneR, nums2, fits, colsU, num_right, Bool.true_and, Bool.and_true]; rfl
theorem oneR_cmp : Row.cmp oneR oneR = 0 := cmp_self (Row.right_v oneR_right)
theorem tabU0 : tabU 0 [] = ⟨nmB true, colsU, []⟩ := rfl
theorem tabT0 : tabT [] = ⟨nmB false, colsT, []⟩ := rfl
theorem mk1 : mkS ([] ++ [(oneR, 1)]) = [(oneR, 1)] := by
  rw [List.nil_append]
  unfold mkS insAll
  rw [List.foldl_cons, List.foldl_nil, insS_eq, ins2]
  rfl
theorem mk2 : mkS ([(oneR, 1)] ++ [(oneR, -1)]) = [] := by
  unfold mkS insAll
  rw [List.singleton_append, List.foldl_cons, List.foldl_cons, List.foldl_nil, insS_eq, insS_eq, ins2, ins2]
  dsimp only
  rw [if_neg (by rw [oneR_cmp]; decide), if_pos oneR_cmp]
  rfl
theorem known1 : applyR (tabU 0 []) (tabT []) [⟨nmB true, oneR, false⟩, ⟨nmB true, oneR, true⟩] = ([tabc (tabU 0 []), tabc (tabT [])], [[.str (nmB true), .lst []]], 0, 0) := by
  have s1 : stp (tabU 0 []) (tabT []) ⟨nmB true, oneR, false⟩ = (0, ⟨nmB true, colsU, [(oneR, 1)]⟩, tabT []) := by
    rw [tabU0, tabT0]
    unfold stp stpZ
    dsimp only
    rw [if_pos rfl, if_neg (by rw [oneR_fits]; decide), if_neg (by decide), if_neg (by decide)]
    rw [mk1]
  have s2 : stp ⟨nmB true, colsU, [(oneR, 1)]⟩ (tabT []) ⟨nmB true, oneR, true⟩ = (0, tabU 0 [], tabT []) := by
    rw [tabU0, tabT0]
    unfold stp stpZ
    dsimp only
    rw [if_pos rfl, if_neg (by rw [oneR_fits]; decide), if_pos rfl]
    have hl : look [(oneR, 1)] oneR = 1 := by rw [look, if_pos oneR_cmp]
    rw [hl, if_neg (by decide), mk2]
  unfold applyR
  rw [if_neg (by decide), if_neg (by decide)]
  rw [appF, s1]
  dsimp only
  rw [if_pos rfl, appF, s2]
  dsimp only
  rw [if_pos rfl, appF]
  dsimp only
  rw [tabU0]
  dsimp only
  rw [decide_eq_true rfl]
  rfl
theorem known2 : applyR (tabU 0 []) (tabT []) [⟨nmB true, oneR, true⟩] = ([], [], 25, 0) := by
  have s1 : stp (tabU 0 []) (tabT []) ⟨nmB true, oneR, true⟩ = (25, tabU 0 [], tabT []) := by
    rw [tabU0, tabT0]
    unfold stp stpZ
    dsimp only
    rw [if_pos rfl, if_neg (by rw [oneR_fits]; decide), if_pos rfl, look, if_pos rfl]
  unfold applyR
  rw [if_neg (by decide), if_neg (by decide)]
  rw [appF, s1]
  dsimp only
  rw [if_neg (by decide)]
  rfl
set_option maxHeartbeats 16000000 in
theorem known_run (g : Good P E) (d : Nat) : run P E T (d + 107) 13 [] [] = some (.d (.bool true), []) := by
  rw [run_succ _ _ _ _ _ _ _ _ T_13]
  have h7 : run P E T (d + 106) 7 [.d (.int .i64 0), .d (.lst [])] [] = some (.arr 0 0 2, [some (.row 3 [tabc (tabU 0 []), tabc (tabT [])])]) := tables_run g (d + 100) 0 (by omega) []
  have h6 : run P E T (d + 106) 6 [.d (.lst [[.int .i64 1], [.int .i64 1]])] [] = some (.d (.lst oneR.c), []) := nums_run P E (d + 104) 1 1
  have h5 := keepPut_run P E (d + 105) ⟨#[117]⟩ oneR
  have h8 := keepTake_run P E (d + 105) ⟨#[117]⟩ oneR
  have hst := (tabs_st 0 (by omega) []).mono (show (400 : Int) ≤ 500 by omega)
  have h19a := apply_run g d _ _ hst [⟨nmB true, oneR, false⟩, ⟨nmB true, oneR, true⟩] (by simp) (fun c hc => by simp at hc; rcases hc with rfl | rfl <;> simp [oneR, nums2]) (right31 g 0 (by omega) [] d)
  have h19b := apply_run g d _ _ hst [⟨nmB true, oneR, true⟩] (by simp) (fun c hc => by simp at hc; rcases hc with rfl; simp [oneR, nums2]) (right31 g 0 (by omega) [] d)
  rw [known1] at h19a
  rw [known2] at h19b
  simp only [chsc, List.map_cons, List.map_nil, chc, nm_u] at h19a h19b
  generalize [tabc (tabU 0 []), tabc (tabT [])] = o at *
  generalize oneR.c = r at *
  simp -implicitDefEqProofs [v13, h7, h6, h5, h8, h19a, h19b, S_7, S_6, S_5, S_8, S_19, callX, callIds, frzArgs, passArgs, List.range_succ, List.idxOf?_cons]
end Go.Vm.B
