/- A part of the proofs of the statements BatchTells and BatchNumbers: L1, C16, C17, C18, C19, C20. Conditions: none of its own. -/
import Derived.Test.YtoaafpebcdfniaaGreatT11
import Derived.Test.YtoaafpebcdfniaaGreatT12
set_option linter.unusedSimpArgs false
set_option linter.unusedVariables false
set_option linter.unnecessarySimpa false
set_option linter.all false
namespace Go.Vm.B
/-! The order of rows. -/
theorem bl_asymm : ∀ (x y : List UInt8), Op.bytesLess x y = true → Op.bytesLess y x = false
  | [], [], h => by cases h
  | [], _ :: _, _ => rfl
  | _ :: _, [], h => by cases h
  | a :: x, b :: y, h => by
    simp only [Op.bytesLess, Bool.or_eq_true, Bool.and_eq_true, decide_eq_true_eq, beq_iff_eq, Bool.or_eq_false_iff, decide_eq_false_iff_not, Bool.and_eq_false_iff] at h ⊢
    rcases h with h | ⟨rfl, h⟩
    · refine ⟨fun h' => ?_, .inl ?_⟩
      · have h1 := UInt8.lt_iff_toNat_lt.mp h; have h2 := UInt8.lt_iff_toNat_lt.mp h'; omega
      · rw [beq_eq_false_iff_ne]; rintro rfl; have h1 := UInt8.lt_iff_toNat_lt.mp h; omega
    · exact ⟨fun h' => by have h2 := UInt8.lt_iff_toNat_lt.mp h'; omega, .inr (bl_asymm x y h)⟩
theorem bl_tri : ∀ (x y : List UInt8), Op.bytesLess x y = false → Op.bytesLess y x = false → x = y
  | [], [], _, _ => rfl
  | [], _ :: _, h, _ => by cases h
  | _ :: _, [], _, h => by cases h
  | a :: x, b :: y, h, h' => by
    simp only [Op.bytesLess, Bool.or_eq_false_iff, decide_eq_false_iff_not, Bool.and_eq_false_iff, beq_eq_false_iff_ne] at h h'
    have hab : a = b := by
      have h1 : ¬ a.toNat < b.toNat := fun e => h.1 (UInt8.lt_iff_toNat_lt.mpr e)
      have h2 : ¬ b.toNat < a.toNat := fun e => h'.1 (UInt8.lt_iff_toNat_lt.mpr e)
      exact UInt8.toNat_inj.mp (by omega)
    subst hab
    rcases h.2 with h2 | h2
    · exact absurd rfl h2
    · rcases h'.2 with h3 | h3
      · exact absurd rfl h3
      · rw [bl_tri x y h2 h3]
theorem bl_trans : ∀ (x y z : List UInt8), Op.bytesLess x y = true → Op.bytesLess y z = true → Op.bytesLess x z = true
  | _, [], _, h, _ => by simp [Op.bytesLess] at h
  | _, _ :: _, [], _, h => by cases h
  | [], _ :: _, _ :: _, _, _ => rfl
  | a :: x, b :: y, c :: z, h, h' => by
    simp only [Op.bytesLess, Bool.or_eq_true, Bool.and_eq_true, decide_eq_true_eq, beq_iff_eq] at h h' ⊢
    rcases h with h | ⟨rfl, h⟩
    · rcases h' with h' | ⟨rfl, h'⟩
      · left; have h1 := UInt8.lt_iff_toNat_lt.mp h; have h2 := UInt8.lt_iff_toNat_lt.mp h'; exact UInt8.lt_iff_toNat_lt.mpr (by omega)
      · left; exact h
    · rcases h' with h' | ⟨rfl, h'⟩
      · left; exact h'
      · right; exact ⟨rfl, bl_trans x y z h h'⟩
theorem bl_irrefl (x : List UInt8) : Op.bytesLess x x = false := by
  cases h : Op.bytesLess x x with
  | false => rfl
  | true => rw [bl_asymm x x h] at h; cases h

theorem Val.less_asymm {a b : Val} (h : a.less b = true) : b.less a = false := by
  simp only [Val.less, Bool.and_eq_true] at h
  obtain ⟨⟨ha, hb⟩, h⟩ := h
  simp only [Val.less, ha, hb, Bool.true_and]
  by_cases hk : a.k = b.k
  · rw [if_pos hk] at h
    rw [if_pos hk.symm]
    by_cases h1 : a.k = 1
    · rw [if_pos h1] at h
      rw [if_pos (hk ▸ h1)]
      simp only [decide_eq_true_eq] at h
      rw [decide_eq_false (by omega)]
    · rw [if_neg h1] at h
      rw [if_neg (hk ▸ h1)]
      exact bl_asymm _ _ h
  · rw [if_neg hk] at h
    rw [if_neg (Ne.symm hk)]
    simp only [decide_eq_true_eq] at h
    rw [decide_eq_false (fun e => hk (h.trans e.symm))]
theorem Val.tri {a b : Val} (ha : a.right = true) (hb : b.right = true) (h1 : a.less b = false) (h2 : b.less a = false) : a = b := by
  simp only [Val.less, ha, hb, Bool.true_and] at h1 h2
  have kinds : ∀ v : Val, v.right = true → (v.k = 1 ∧ v.s = nilS) ∨ (v.k = 2 ∧ v.n = 0) := by
    intro v hv
    simp only [Val.right] at hv
    split at hv
    · rename_i hk; exact .inl ⟨hk, by simpa using hv⟩
    · split at hv
      · rename_i hk; simp only [Bool.and_eq_true, decide_eq_true_eq] at hv; exact .inr ⟨hk, hv.1⟩
      · cases hv
  obtain ⟨ak, an, as1⟩ := a
  obtain ⟨bk, bn, bs⟩ := b
  have ka := kinds _ ha
  have kb := kinds _ hb
  simp only at ka kb h1 h2
  rcases ka with ⟨rfl, rfl⟩ | ⟨rfl, rfl⟩ <;> rcases kb with ⟨rfl, rfl⟩ | ⟨rfl, rfl⟩
  · simp at h1 h2
    have : an = bn := by omega
    rw [this]
  · simp at h1
  · simp at h2
  · simp at h1 h2
    have := bl_tri _ _ h1 h2
    have hs : as1 = bs := by
      rw [bytes_toList, bytes_toList] at this
      exact ByteArray.ext (Array.toList_inj.mp this)
    rw [hs]
theorem Val.less_irrefl (a : Val) : a.less a = false := by
  cases h : a.less a with
  | false => rfl
  | true => rw [Val.less_asymm h] at h; cases h
theorem Val.less_trans {a b c : Val} (h1 : a.less b = true) (h2 : b.less c = true) : a.less c = true := by
  simp only [Val.less, Bool.and_eq_true] at h1 h2
  obtain ⟨⟨ha, hb⟩, h1⟩ := h1
  obtain ⟨⟨_, hc⟩, h2⟩ := h2
  simp only [Val.less, ha, hc, Bool.true_and]
  by_cases hk : a.k = b.k
  · rw [if_pos hk] at h1
    by_cases hk2 : b.k = c.k
    · rw [if_pos hk2] at h2
      rw [if_pos (hk.trans hk2)]
      by_cases h : a.k = 1
      · rw [if_pos h] at h1 ⊢; rw [if_pos (hk ▸ h)] at h2; simp only [decide_eq_true_eq] at h1 h2 ⊢; omega
      · rw [if_neg h] at h1 ⊢; rw [if_neg (hk ▸ h)] at h2; exact bl_trans _ _ _ h1 h2
    · rw [if_neg hk2] at h2
      rw [if_neg (hk ▸ hk2), hk]; exact h2
  · rw [if_neg hk] at h1
    simp only [decide_eq_true_eq] at h1
    by_cases hk2 : b.k = c.k
    · rw [if_neg (hk2 ▸ hk)]; simpa using h1
    · rw [if_neg hk2] at h2
      simp only [decide_eq_true_eq] at h2
      exact absurd (h1.trans h2.symm) hk
theorem Val.cmp_anti (a b : Val) : b.cmp a = -a.cmp b := by
  unfold Val.cmp
  cases h : a.less b with
  | true => rw [Val.less_asymm h]; rfl
  | false => cases h' : b.less a <;> rfl
theorem Val.cmp_zero {a b : Val} (ha : a.right = true) (hb : b.right = true) : a.cmp b = 0 ↔ a = b := by
  constructor
  · unfold Val.cmp
    cases h : a.less b with
    | true => intro e; simp at e
    | false => cases h' : b.less a with
      | true => intro e; simp at e
      | false => intro _; exact Val.tri ha hb h h'
  · rintro rfl; simp [Val.cmp, Val.less_irrefl]
theorem Val.cmp_lt {a b : Val} : a.cmp b < 0 ↔ a.less b = true := by
  unfold Val.cmp
  cases h : a.less b with
  | true => simp
  | false => cases h' : b.less a <;> simp
def rightV (r : Row) : Prop := ∀ v ∈ r, v.right = true
theorem Row.right_v {r : Row} (h : r.right = true) : rightV r := by
  simp only [Row.right, Bool.and_eq_true, List.all_eq_true] at h; exact h.2
theorem Row.cmp_anti : ∀ (a b : Row), Row.cmp b a = -Row.cmp a b
  | [], [] => rfl
  | [], _ :: _ => rfl
  | _ :: _, [] => rfl
  | a :: r, b :: t => by
    rw [Row.cmp, Row.cmp, Val.cmp_anti a b]
    by_cases h : a.cmp b = 0
    · rw [if_pos (by omega), if_pos h, Row.cmp_anti r t]
    · rw [if_neg (by omega), if_neg h]
theorem Row.cmp_zero : ∀ {a b : Row}, rightV a → rightV b → (Row.cmp a b = 0 ↔ a = b)
  | [], [], _, _ => by simp [Row.cmp]
  | [], _ :: _, _, _ => by simp [Row.cmp]
  | _ :: _, [], _, _ => by simp [Row.cmp]
  | a :: r, b :: t, ha, hb => by
    have h1 := Val.cmp_zero (ha a (by simp)) (hb b (by simp))
    have h2 := Row.cmp_zero (a := r) (b := t) (fun v hv => ha v (by simp [hv])) (fun v hv => hb v (by simp [hv]))
    rw [Row.cmp]
    by_cases h : a.cmp b = 0
    · rw [if_pos h, h2, h1.mp h]; simp
    · rw [if_neg h]
      constructor
      · intro e; exact absurd e h
      · intro e; injection e with e1 e2; exact absurd (h1.mpr e1) h
theorem Row.cmp_trans : ∀ {a b c : Row}, rightV a → rightV b → rightV c → Row.cmp a b < 0 → Row.cmp b c < 0 → Row.cmp a c < 0
  | [], [], _, _, _, _, h, _ => by simp [Row.cmp] at h
  | _ :: _, [], _, _, _, _, h, _ => by simp [Row.cmp] at h
  | _, _ :: _, [], _, _, _, _, h => by simp [Row.cmp] at h
  | [], _ :: _, _ :: _, _, _, _, _, _ => by simp [Row.cmp]
  | a :: r, b :: t, c :: u, ha, hb, hc, h1, h2 => by
    rw [Row.cmp] at h1 h2 ⊢
    have ea := ha a (by simp)
    have eb := hb b (by simp)
    have ec := hc c (by simp)
    by_cases h : a.cmp b = 0
    · rw [if_pos h] at h1
      have := (Val.cmp_zero ea eb).mp h
      subst this
      by_cases h' : a.cmp c = 0
      · rw [if_pos h'] at h2 ⊢
        exact Row.cmp_trans (fun v hv => ha v (by simp [hv])) (fun v hv => hb v (by simp [hv])) (fun v hv => hc v (by simp [hv])) h1 h2
      · rw [if_neg h'] at h2 ⊢; exact h2
    · rw [if_neg h] at h1
      by_cases h' : b.cmp c = 0
      · have := (Val.cmp_zero eb ec).mp h'
        subst this
        rw [if_neg h]; exact h1
      · rw [if_neg h'] at h2
        have := Val.cmp_lt.mpr (Val.less_trans (Val.cmp_lt.mp h1) (Val.cmp_lt.mp h2))
        rw [if_neg (by omega)]; exact this
end Go.Vm.B
namespace Go.Vm.B
open Go.Fl
attribute [local irreducible] IntKind.wrap Go.Fl.fl tnD
variable {P : Program} {E : Env}
/-- The sum of the nets. -/
def tot : Set → Int
  | [] => 0
  | x :: r => x.2 + tot r
theorem tot_append (a b : Set) : tot (a ++ b) = tot a + tot b := by induction a with | nil => simp [tot] | cons x r ih => simp [tot, ih]; omega
theorem tot_nonneg {s : Set} (h : plainS s) : 0 ≤ tot s := by
  induction s with
  | nil => simp [tot]
  | cons x r ih => have := ih fun y hy => h y (by simp [hy]); have := h x (by simp); simp [tot]; omega
theorem tot_take {s : Set} {i : Nat} (h : i < s.length) : tot (s.take (i + 1)) = tot (s.take i) + s[i].2 := by
  rw [List.take_succ_eq_append_getElem h, tot_append]; simp [tot]
theorem tot_split (s : Set) (i : Nat) : tot s = tot (s.take i) + tot (s.drop i) := by rw [← tot_append, List.take_append_drop]
theorem plain_take {s : Set} (h : plainS s) (i : Nat) : plainS (s.take i) := fun x hx => h x (List.mem_of_mem_take hx)
theorem plain_drop {s : Set} (h : plainS s) (i : Nat) : plainS (s.drop i) := fun x hx => h x (List.mem_of_mem_drop hx)
def fr62 (a : V) (n i : Nat) (t : Int) : Fr := ⟨[.bot, .bot, .bot, .d (.int .i64 t), .bot, .bot, a, .d (.int .i64 n), .d (.int .i64 i), .bot, .bot, .bot, .bot, .bot, .bot, .bot, .bot, .bot, .bot, .bot], []⟩
def fe62 (c : V) : Fr := ⟨[.bot, .bot, c, .bot, .bot, .bot, .bot, .bot, .bot, .bot, .bot, .bot, .bot, .bot, .bot, .bot, .bot, .bot, .bot, .bot], []⟩
set_option maxHeartbeats 2000000 in
theorem rounds62 (g : Good P E) (d : Nat) (s : Set) (h : GS s) (hp : plainS s) (ht : tot s ≤ 1125899906842624) : ∀ (m i f : Nat), m = s.length - i → i ≤ s.length → m < f → tot (s.take i) < 64 →
    rounds (exec P (run P E T (d + 5)) (refsOf T) 0 v62_0) (forget 0 456) (forget 0 4) f (fr62 (.d (.lst (setc s))) s.length i (tot (s.take i))) = if 64 ≤ tot s then some (.ret, fe62 (.d (.bool true))) else some (.exit 0, fe62 .bot) := by
  intro m
  have hsl := h.len
  induction m with
  | zero =>
    intro i f hm hi hf hq
    obtain ⟨f, rfl⟩ : ∃ f', f = f' + 1 := ⟨f - 1, by omega⟩
    have : i = s.length := by omega
    subst this
    rw [List.take_length] at hq ⊢
    rw [rounds, if_neg (by omega)]
    simp -implicitDefEqProofs [exB v62_0.eq_1, fr62, fe62, setc_len]
  | succ m ih =>
    intro i f hm hi hf hq
    obtain ⟨f, rfl⟩ : ∃ f', f = f' + 1 := ⟨f - 1, by omega⟩
    have hlt : i < s.length := by omega
    have hx := setc_get hlt
    have hm := List.getElem_mem hlt
    have hc2 := tNet_run g d s[i].2 (h.lo _ hm) (h.hi _ hm)
    have hw : IntKind.i64.wrap ((i : Int) + 1) = (i : Int) + 1 := wrap_small (by omega) (by omega)
    have hsp := tot_split s (i + 1)
    have hnn := tot_nonneg (plain_drop hp (i + 1))
    have hnn2 := tot_nonneg (plain_take hp i)
    have htk := tot_take hlt
    have hp1 := hp _ hm
    have hw2 : IntKind.i64.wrap (tot (s.take i) + s[i].2) = tot (s.take i) + s[i].2 := wrapZ (by omega) (by omega)
    have ih := ih (i + 1) f (by omega) (by omega) (by omega)
    rw [htk] at ih hsp
    simp only [tn] at hc2
    rw [rounds]
    generalize hxe : s[i] = x at *
    generalize tot (s.take i) = q at *
    by_cases h64 : 64 ≤ q + x.2
    · rw [if_pos (by omega)]
      simp -implicitDefEqProofs [exB v62_0.eq_1, fr62, fe62, setc_len, hxe, hx, itc, hc2, hlt, hw, hw2, h64]
    · rw [← ih (by omega)]
      simp -implicitDefEqProofs [exB v62_0.eq_1, fr62, fe62, setc_len, hxe, hx, itc, hc2, hlt, hw, hw2, h64]
theorem full_run (g : Good P E) (d : Nat) (s : Set) (h : GS s) (hp : plainS s) (ht : tot s ≤ 1125899906842624) : run P E T (d + 6) 62 [.d (.lst (setc s))] [] = some (.d (.bool (decide (64 ≤ tot s))), []) := by
  rw [run_succ _ _ _ _ _ _ _ _ T_62]
  have h := rounds62 g d s h hp ht _ 0 LOOPS rfl (by omega) (by have := h.len; unfold LOOPS; omega) (by simp [tot])
  have h0 : ((0 : Nat) : Int) = 0 := rfl
  simp only [fr62, List.take_zero, tot] at h
  rw [h0] at h
  by_cases h64 : 64 ≤ tot s
  · rw [if_pos h64] at h
    simp -implicitDefEqProofs [v62, h, fe62, setc_len, h64]
  · rw [if_neg h64] at h
    simp -implicitDefEqProofs [v62, h, fe62, setc_len, h64]
def fr42 (a : V) (i : Nat) (t : Int) : Fr := ⟨[a, .bot, .bot, .bot, .d (.int .i64 t), .d (.int .i64 i), .bot, .bot, .bot, .bot, .bot, .bot, .bot, .bot, .bot, .bot, .bot, .bot, .bot, .bot, .bot, .bot, .bot, .bot, .bot, .bot, .bot, .bot, .bot, .bot], []⟩
def fe42 (t : Int) : Fr := ⟨[.bot, .bot, .bot, .bot, .d (.int .i64 t), .bot, .bot, .bot, .bot, .bot, .bot, .bot, .bot, .bot, .bot, .bot, .bot, .bot, .bot, .bot, .bot, .bot, .bot, .bot, .bot, .bot, .bot, .bot, .bot, .bot], []⟩
set_option maxHeartbeats 2000000 in
theorem rounds42 (g : Good P E) (d : Nat) (s : Set) (h : GS s) (hp : plainS s) (ht : tot s ≤ 1125899906842624) : ∀ (m i f : Nat), m = s.length - i → i ≤ s.length → m < f →
    rounds (exec P (run P E T (d + 2)) (refsOf T) 0 v42_0) (forget 0 49) (forget 0 28) f (fr42 (.d (.lst (setc s))) i (tot (s.take i))) = some (.exit 0, fe42 (tot s)) := by
  intro m
  have hsl := h.len
  induction m with
  | zero =>
    intro i f hm hi hf
    obtain ⟨f, rfl⟩ : ∃ f', f = f' + 1 := ⟨f - 1, by omega⟩
    have : i = s.length := by omega
    subst this
    rw [List.take_length]
    rw [rounds]
    simp -implicitDefEqProofs [exB v42_0.eq_1, fr42, fe42, setc_len]
  | succ m ih =>
    intro i f hm hi hf
    obtain ⟨f, rfl⟩ : ∃ f', f = f' + 1 := ⟨f - 1, by omega⟩
    have hlt : i < s.length := by omega
    have hx := setc_get hlt
    have hm := List.getElem_mem hlt
    have hc2 := rNet_run g d s[i].2 (h.lo _ hm) (h.hi _ hm)
    have hw : IntKind.i64.wrap ((i : Int) + 1) = (i : Int) + 1 := wrap_small (by omega) (by omega)
    have hsp := tot_split s (i + 1)
    have hnn := tot_nonneg (plain_drop hp (i + 1))
    have hnn2 := tot_nonneg (plain_take hp i)
    have htk := tot_take hlt
    have hp1 := hp _ hm
    have hw2 : IntKind.i64.wrap (tot (s.take i) + s[i].2) = tot (s.take i) + s[i].2 := wrapZ (by omega) (by omega)
    have ih := ih (i + 1) f (by omega) (by omega) (by omega)
    rw [htk] at ih hsp
    simp only [tn] at hc2
    rw [rounds]
    generalize hxe : s[i] = x at *
    generalize tot (s.take i) = q at *
    have hb1 : (1125899906842624 < q + x.2) = False := by simp; omega
    have hb2 : (q + x.2 < -1125899906842624) = False := by simp; omega
    rw [← ih]
    simp -implicitDefEqProofs [exB v42_0.eq_1, fr42, fe42, setc_len, hxe, hx, itc, hc2, hlt, hw, hw2, hb1, hb2]
theorem total_run (g : Good P E) (d : Nat) (s : Set) (h : GS s) (hp : plainS s) (ht : tot s ≤ 1125899906842624) : run P E T (d + 5) 42 [.d (.lst (setc s))] [] = some (.tup [.d (.int .i64 (tot s)), .d (.bool true)], []) := by
  rw [run_succ _ _ _ _ _ _ _ _ T_42]
  have h2 := rRight_run g d s h
  have h := rounds42 g (d + 2) s h hp ht _ 0 LOOPS rfl (by omega) (by have := h.len; unfold LOOPS; omega)
  have h0 : ((0 : Nat) : Int) = 0 := rfl
  simp only [fr42, List.take_zero, tot] at h
  rw [h0] at h
  simp -implicitDefEqProofs [v42, h, fe42, setc_len, h2]
/-- A row's net. -/
def look : Set → Row → Int
  | [], _ => 0
  | x :: s, r => if Row.cmp x.1 r = 0 then x.2 else look s r
def fr61 (r a : V) (n i : Nat) : Fr := ⟨[.bot, r, .bot, .bot, .bot, .bot, .bot, .bot, .bot, .bot, a, .d (.int .i64 n), .d (.int .i64 i), .bot, .bot, .bot, .bot, .bot, .bot, .bot, .bot, .bot, .bot], []⟩
def fe61 (c : V) : Fr := ⟨[.bot, .bot, .bot, .bot, c, .bot, .bot, .bot, .bot, .bot, .bot, .bot, .bot, .bot, .bot, .bot, .bot, .bot, .bot, .bot, .bot, .bot, .bot], []⟩
set_option maxHeartbeats 2000000 in
theorem rounds61 (g : Good P E) (d : Nat) (s : Set) (h : GS s) (r : Row) (hrr : r.right = true) : ∀ (m i f : Nat), m = s.length - i → i ≤ s.length → m < f →
    ∃ e v, rounds (exec P (run P E T (d + 6)) (refsOf T) 0 v61_0) (forget 0 7170) (forget 0 16) f (fr61 (.d (.lst r.c)) (.d (.lst (setc s))) s.length i) = some (e, fe61 v) ∧ (e = .ret ∧ v = tn (look (s.drop i) r) ∨ e = .exit 0 ∧ v = .bot ∧ look (s.drop i) r = 0) := by
  intro m
  have hsl := h.len
  induction m with
  | zero =>
    intro i f hm hi hf
    obtain ⟨f, rfl⟩ : ∃ f', f = f' + 1 := ⟨f - 1, by omega⟩
    have : i = s.length := by omega
    subst this
    refine ⟨.exit 0, .bot, ?_, .inr ⟨rfl, rfl, by simp [look]⟩⟩
    rw [rounds]
    simp -implicitDefEqProofs [exB v61_0.eq_1, fr61, fe61, setc_len]
  | succ m ih =>
    intro i f hm hi hf
    obtain ⟨f, rfl⟩ : ∃ f', f = f' + 1 := ⟨f - 1, by omega⟩
    have hlt : i < s.length := by omega
    have hx := setc_get hlt
    have hm := List.getElem_mem hlt
    have hr := h.right _ hm
    have hc := rowSame_run P E d s[i].1 r (by have := right_len hr; omega) (by have := right_len hrr; omega)
    rw [hr, hrr] at hc
    simp only [Bool.and_true, Bool.true_and] at hc
    have hw : IntKind.i64.wrap ((i : Int) + 1) = (i : Int) + 1 := wrap_small (by omega) (by omega)
    have ih := ih (i + 1) f (by omega) (by omega) (by omega)
    rw [List.drop_eq_getElem_cons hlt, look]
    rw [rounds]
    generalize hxe : s[i] = x at *
    by_cases h0 : Row.cmp x.1 r = 0
    · rw [if_pos h0]
      rw [decide_eq_true h0] at hc
      refine ⟨.ret, tn x.2, ?_, .inl ⟨rfl, rfl⟩⟩
      simp -implicitDefEqProofs [exB v61_0.eq_1, fr61, fe61, setc_len, hxe, hx, itc, hc, hlt, hw, tn]
    · rw [if_neg h0]
      rw [decide_eq_false h0] at hc
      obtain ⟨e, v, h1, h2⟩ := ih
      refine ⟨e, v, ?_, h2⟩
      rw [← h1]
      simp -implicitDefEqProofs [exB v61_0.eq_1, fr61, fe61, setc_len, hxe, hx, itc, hc, hlt, hw]
theorem tn_zero : V.d (.complex .f64 0 0) = tn 0 := by unfold tn; rw [tn0]
theorem zOf_run (g : Good P E) (d : Nat) (s : Set) (h : GS s) (r : Row) (hrr : r.right = true) : run P E T (d + 8) 61 [.d (.lst (setc s)), .d (.lst r.c)] [] = some (tn (look s r), []) := by
  rw [run_succ _ _ _ _ _ _ _ _ T_61]
  have h2 := zRight_run g d s h
  obtain ⟨e, v, h, h3⟩ := rounds61 g (d + 1) s h r hrr _ 0 LOOPS rfl (by omega) (by have := h.len; unfold LOOPS; omega)
  have h0 : ((0 : Nat) : Int) = 0 := rfl
  simp only [fr61, List.drop_zero] at h h3
  rw [h0] at h
  rcases h3 with ⟨rfl, rfl⟩ | ⟨rfl, rfl, h3⟩
  · generalize look s r = z at *
    simp -implicitDefEqProofs [v61, h, fe61, setc_len, h2, tn]
  · rw [h3, ← tn_zero]
    simp -implicitDefEqProofs [v61, h, fe61, setc_len, h2]
theorem same_eq {a b : Row} (ha : a.right = true) (hb : b.right = true) : (!decide (Row.cmp a b < 0) && !decide (Row.cmp b a < 0) && decide (a.length = b.length)) = decide (Row.cmp a b = 0) := by
  have h1 := Row.cmp_anti a b
  rw [Bool.eq_iff_iff]
  simp only [Bool.and_eq_true, Bool.not_eq_true', decide_eq_false_iff_not, decide_eq_true_eq]
  constructor
  · rintro ⟨⟨h2, h3⟩, _⟩; omega
  · intro h
    refine ⟨⟨by omega, by omega⟩, ?_⟩
    rw [(Row.cmp_zero (Row.right_v ha) (Row.right_v hb)).mp h]
theorem refSame_run' (P : Program) (E : Env) (d : Nat) (a b : Row) (ha : a.right = true) (hb : b.right = true) :
    run P E T (d + 4) 28 [.d (.lst a.c), .d (.lst b.c)] [] = some (.d (.bool (decide (Row.cmp a b = 0))), []) := by
  have := refSame_run P E d a b (by have := right_len ha; omega) (by have := right_len hb; omega)
  rw [ha, hb, Bool.and_true, Bool.true_and, same_eq ha hb] at this
  exact this
def fr43 (r a : V) (i : Nat) : Fr := ⟨[a, r, .bot, .bot, .bot, .d (.int .i64 i), .bot, .bot, .bot, .bot, .bot, .bot, .bot, .bot, .bot, .bot, .bot, .bot, .bot, .bot, .bot, .bot, .bot, .bot, .bot, .bot, .bot], []⟩
def fe43 (c : V) : Fr := ⟨[.bot, .bot, .bot, .bot, c, .bot, .bot, .bot, .bot, .bot, .bot, .bot, .bot, .bot, .bot, .bot, .bot, .bot, .bot, .bot, .bot, .bot, .bot, .bot, .bot, .bot, .bot], []⟩
set_option maxHeartbeats 2000000 in
theorem rounds43 (g : Good P E) (d : Nat) (s : Set) (h : GS s) (r : Row) (hrr : r.right = true) : ∀ (m i f : Nat), m = s.length - i → i ≤ s.length → m < f →
    ∃ e v, rounds (exec P (run P E T (d + 4)) (refsOf T) 0 v43_0) (forget 0 35) (forget 0 16) f (fr43 (.d (.lst r.c)) (.d (.lst (setc s))) i) = some (e, fe43 v) ∧ (e = .ret ∧ v = tn (look (s.drop i) r) ∨ e = .exit 0 ∧ v = .bot ∧ look (s.drop i) r = 0) := by
  intro m
  have hsl := h.len
  induction m with
  | zero =>
    intro i f hm hi hf
    obtain ⟨f, rfl⟩ : ∃ f', f = f' + 1 := ⟨f - 1, by omega⟩
    have : i = s.length := by omega
    subst this
    refine ⟨.exit 0, .bot, ?_, .inr ⟨rfl, rfl, by simp [look]⟩⟩
    rw [rounds]
    simp -implicitDefEqProofs [exB v43_0.eq_1, fr43, fe43, setc_len]
  | succ m ih =>
    intro i f hm hi hf
    obtain ⟨f, rfl⟩ : ∃ f', f = f' + 1 := ⟨f - 1, by omega⟩
    have hlt : i < s.length := by omega
    have hx := setc_get hlt
    have hm := List.getElem_mem hlt
    have hr := h.right _ hm
    have hc := refSame_run' P E d s[i].1 r hr hrr
    have hw : IntKind.i64.wrap ((i : Int) + 1) = (i : Int) + 1 := wrap_small (by omega) (by omega)
    have ih := ih (i + 1) f (by omega) (by omega) (by omega)
    rw [List.drop_eq_getElem_cons hlt, look]
    rw [rounds]
    generalize hxe : s[i] = x at *
    by_cases h0 : Row.cmp x.1 r = 0
    · rw [if_pos h0]
      rw [decide_eq_true h0] at hc
      refine ⟨.ret, tn x.2, ?_, .inl ⟨rfl, rfl⟩⟩
      simp -implicitDefEqProofs [exB v43_0.eq_1, fr43, fe43, setc_len, hxe, hx, itc, hc, hlt, hw, tn]
    · rw [if_neg h0]
      rw [decide_eq_false h0] at hc
      obtain ⟨e, v, h1, h2⟩ := ih
      refine ⟨e, v, ?_, h2⟩
      rw [← h1]
      simp -implicitDefEqProofs [exB v43_0.eq_1, fr43, fe43, setc_len, hxe, hx, itc, hc, hlt, hw]
theorem rOf_run (g : Good P E) (d : Nat) (s : Set) (h : GS s) (r : Row) (hrr : r.right = true) : run P E T (d + 5) 43 [.d (.lst (setc s)), .d (.lst r.c)] [] = some (tn (look s r), []) := by
  rw [run_succ _ _ _ _ _ _ _ _ T_43]
  have h2 := rRight_run g d s h
  obtain ⟨e, v, h, h3⟩ := rounds43 g d s h r hrr _ 0 LOOPS rfl (by omega) (by have := h.len; unfold LOOPS; omega)
  have h0 : ((0 : Nat) : Int) = 0 := rfl
  simp only [fr43, List.drop_zero] at h h3
  rw [h0] at h
  rcases h3 with ⟨rfl, rfl⟩ | ⟨rfl, rfl, h3⟩
  · generalize look s r = z at *
    simp -implicitDefEqProofs [v43, h, fe43, setc_len, h2, tn]
  · rw [h3, ← tn_zero]
    simp -implicitDefEqProofs [v43, h, fe43, setc_len, h2]
end Go.Vm.B
namespace Go.Vm.B
open Go.Fl
attribute [local irreducible] IntKind.wrap Go.Fl.fl tnD
variable {P : Program} {E : Env}
def flipS (s : Set) : Set := s.map fun x => (x.1, -x.2)

def fr38 (a : V) (n i : Nat) (xs : List (List D)) : Fr := ⟨[.bot, .bot, .bot, accV xs, .bot, .bot, .bot, .bot, .bot, a, .d (.int .i64 n), .d (.int .i64 i), .bot, .bot, .bot, .bot, .bot, .bot, .bot, .bot, .bot, .bot, .bot, .bot, .bot, .bot], accS 2 xs⟩
def fe38 (xs : List (List D)) : Fr := ⟨[.bot, .bot, .bot, accV xs, .bot, .bot, .bot, .bot, .bot, .bot, .bot, .bot, .bot, .bot, .bot, .bot, .bot, .bot, .bot, .bot, .bot, .bot, .bot, .bot, .bot, .bot], accS 2 xs⟩
set_option maxHeartbeats 4000000 in
theorem rounds38 (g : Good P E) (d : Nat) (s : Set) (h : GS s) : ∀ (m i f : Nat), m = s.length - i → i ≤ s.length → m < f →
    rounds (exec P (run P E T (d + 4)) (refsOf T) 0 v38_0) (forget 0 3592) (forget 0 12) f (fr38 (.d (.lst (setc s))) s.length i (setc (flipS (s.take i)))) = some (.exit 0, fe38 (setc (flipS s))) := by
  intro m
  have hl := h.len
  induction m with
  | zero =>
    intro i f hm hi hf
    obtain ⟨f, rfl⟩ : ∃ f', f = f' + 1 := ⟨f - 1, by omega⟩
    have : i = s.length := by omega
    subst this
    rw [rounds, List.take_length]
    generalize setc (flipS s) = xs
    by_cases h0 : xs = []
    · simp -implicitDefEqProofs [exB v38_0.eq_1, fr38, fe38, setc_len, accV, accS, h0]
    · simp -implicitDefEqProofs [exB v38_0.eq_1, fr38, fe38, setc_len, accV, accS, h0]
  | succ m ih =>
    intro i f hm hi hf
    obtain ⟨f, rfl⟩ : ∃ f', f = f' + 1 := ⟨f - 1, by omega⟩
    have hlt : i < s.length := by omega
    rw [rounds, ← ih (i + 1) f (by omega) (by omega) (by omega)]
    have hx := setc_get hlt
    have hm := List.getElem_mem hlt
    have hr := h.right _ hm
    have hrl := right_len hr
    have hrn := right_ne hr
    have hlo := h.lo _ hm
    have hhi := h.hi _ hm
    have htk : setc (flipS (s.take (i + 1))) = setc (flipS (s.take i)) ++ [itc (s[i].1, -s[i].2)] := by unfold setc flipS; rw [List.take_succ_eq_append_getElem hlt, List.map_append, List.map_append]; rfl
    have hw : IntKind.i64.wrap ((i : Int) + 1) = (i : Int) + 1 := wrap_small (by omega) (by omega)
    rw [htk]
    have hi0 : (setc (flipS (s.take i))).length = i := by unfold flipS; rw [setc_len, List.length_map, List.length_take]; omega
    generalize setc (flipS (s.take i)) = xs at *
    generalize hxe : s[i] = x at *
    have hc1 : run P E T (d + 4) 70 [.d (.lst x.1.c), tn (-x.2)] [] = _ := item_run P E (d + 2) x.1 (-x.2) hrn (by omega)
    have hc2 := tFlip_run g d x.2 hlo hhi
    simp only [tn, itv] at hc1 hc2
    have hii : i + 1 ≤ 4294967296 := by omega
    by_cases h0 : xs = []
    · subst h0
      simp only [List.length_nil] at hi0
      subst hi0
      have hw1 : IntKind.i64.wrap 1 = 1 := wrap_small (by omega) (by omega)
      simp -implicitDefEqProofs [exB v38_0.eq_1, fr38, fe38, setc_len, accV, accS, hxe, hx, itc, hc1, hc2, hlt, hw, hw1, anyX, opsT.eq_1, opsT.eq_2, clear, Tr.meets, Tr.foot]
    · simp -implicitDefEqProofs [exB v38_0.eq_1, fr38, fe38, setc_len, accV, accS, h0, hxe, hx, itc, hc1, hc2, hlt, hw, hi0, hii, anyX, opsT.eq_1, opsT.eq_2, clear, Tr.meets, Tr.foot]

def fr46 (a : V) (n i : Nat) (xs : List (List D)) : Fr := ⟨[a, .bot, .bot, accV xs, .d (.int .i64 i), .bot, .bot, .bot, .bot, .bot, .bot, .bot, .bot, .bot, .bot, .bot, .bot, .bot, .bot, .bot, .bot, .bot, .bot, .bot, .bot, .bot, .bot, .bot, .bot, .bot, .bot, .bot], accS 2 xs⟩
def fe46 (xs : List (List D)) : Fr := ⟨[.bot, .bot, .bot, accV xs, .bot, .bot, .bot, .bot, .bot, .bot, .bot, .bot, .bot, .bot, .bot, .bot, .bot, .bot, .bot, .bot, .bot, .bot, .bot, .bot, .bot, .bot, .bot, .bot, .bot, .bot, .bot, .bot], accS 2 xs⟩
set_option maxHeartbeats 4000000 in
theorem rounds46 (g : Good P E) (d : Nat) (s : Set) (h : GS s) : ∀ (m i f : Nat), m = s.length - i → i ≤ s.length → m < f →
    rounds (exec P (run P E T (d + 2)) (refsOf T) 0 v46_0) (forget 0 25) (forget 0 12) f (fr46 (.d (.lst (setc s))) s.length i (setc (flipS (s.take i)))) = some (.exit 0, fe46 (setc (flipS s))) := by
  intro m
  have hl := h.len
  induction m with
  | zero =>
    intro i f hm hi hf
    obtain ⟨f, rfl⟩ : ∃ f', f = f' + 1 := ⟨f - 1, by omega⟩
    have : i = s.length := by omega
    subst this
    rw [rounds, List.take_length]
    generalize setc (flipS s) = xs
    by_cases h0 : xs = []
    · simp -implicitDefEqProofs [exB v46_0.eq_1, fr46, fe46, setc_len, accV, accS, h0]
    · simp -implicitDefEqProofs [exB v46_0.eq_1, fr46, fe46, setc_len, accV, accS, h0]
  | succ m ih =>
    intro i f hm hi hf
    obtain ⟨f, rfl⟩ : ∃ f', f = f' + 1 := ⟨f - 1, by omega⟩
    have hlt : i < s.length := by omega
    rw [rounds, ← ih (i + 1) f (by omega) (by omega) (by omega)]
    have hx := setc_get hlt
    have hm := List.getElem_mem hlt
    have hr := h.right _ hm
    have hrl := right_len hr
    have hrn := right_ne hr
    have hlo := h.lo _ hm
    have hhi := h.hi _ hm
    have htk : setc (flipS (s.take (i + 1))) = setc (flipS (s.take i)) ++ [itc (s[i].1, -s[i].2)] := by unfold setc flipS; rw [List.take_succ_eq_append_getElem hlt, List.map_append, List.map_append]; rfl
    have hw : IntKind.i64.wrap ((i : Int) + 1) = (i : Int) + 1 := wrap_small (by omega) (by omega)
    rw [htk]
    have hi0 : (setc (flipS (s.take i))).length = i := by unfold flipS; rw [setc_len, List.length_map, List.length_take]; omega
    generalize setc (flipS (s.take i)) = xs at *
    generalize hxe : s[i] = x at *
    have hc1 := bad3 x.1
    have hc2 := rFlip_run g d x.2 hlo hhi
    have hc3 := Row.c_ne hrn
    have hc4 : x.1.length ≤ 4294967296 := by omega
    have hc5 : List.take x.1.length x.1.c = x.1.c := List.take_of_length_le (by rw [Row.c_len]; exact Nat.le_refl _)
    simp only [tn] at hc2
    have hii : i + 1 ≤ 4294967296 := by omega
    by_cases h0 : xs = []
    · subst h0
      simp only [List.length_nil] at hi0
      subst hi0
      have hw1 : IntKind.i64.wrap 1 = 1 := wrap_small (by omega) (by omega)
      simp -implicitDefEqProofs [exB v46_0.eq_1, fr46, fe46, setc_len, accV, accS, hxe, hx, itc, hc1, hc2, hc3, hc4, hc5, hrn, Row.c_len, hlt, hw, hw1, anyX, opsT.eq_1, opsT.eq_2, clear, Tr.meets, Tr.foot]
    · simp -implicitDefEqProofs [exB v46_0.eq_1, fr46, fe46, setc_len, accV, accS, h0, hxe, hx, itc, hc1, hc2, hc3, hc4, hc5, hrn, Row.c_len, hlt, hw, hi0, hii, anyX, opsT.eq_1, opsT.eq_2, clear, Tr.meets, Tr.foot]

theorem zFlip_run (g : Good P E) (d : Nat) (s : Set) (h : GS s) : run P E T (d + 8) 38 [.d (.lst (setc s))] [] = some (.d (.lst (setc (flipS s))), []) := by
  rw [run_succ _ _ _ _ _ _ _ _ T_38]
  have h2 := zRight_run g d s h
  have h : rounds (exec P (run P E T (d + 7)) (refsOf T) 0 v38_0) _ _ _ _ = _ := rounds38 g (d + 3) s h _ 0 LOOPS rfl (by omega) (by have := h.len; unfold LOOPS; omega)
  have h0 : ((0 : Nat) : Int) = 0 := rfl
  have e0 : setc (flipS (s.take 0)) = [] := rfl
  rw [e0] at h
  simp only [fr38, accV, accS, if_true] at h
  rw [h0] at h
  have hlen : (setc (flipS s)).length = s.length := by unfold flipS; rw [setc_len, List.length_map]
  generalize setc (flipS s) = xs at *
  by_cases he : xs = []
  · simp -implicitDefEqProofs [v38, setc_len, h, h2, fe38, accV, accS, he]
  · have ht : List.take s.length xs = xs := List.take_of_length_le (by omega)
    simp -implicitDefEqProofs [v38, setc_len, h, h2, fe38, accV, accS, he, hlen, ht]
theorem refFlip_run (g : Good P E) (d : Nat) (s : Set) (h : GS s) : run P E T (d + 5) 46 [.d (.lst (setc s))] [] = some (.d (.lst (setc (flipS s))), []) := by
  rw [run_succ _ _ _ _ _ _ _ _ T_46]
  have h2 := rRight_run g d s h
  have h : rounds (exec P (run P E T (d + 4)) (refsOf T) 0 v46_0) _ _ _ _ = _ := rounds46 g (d + 2) s h _ 0 LOOPS rfl (by omega) (by have := h.len; unfold LOOPS; omega)
  have h0 : ((0 : Nat) : Int) = 0 := rfl
  have e0 : setc (flipS (s.take 0)) = [] := rfl
  rw [e0] at h
  simp only [fr46, accV, accS, if_true] at h
  rw [h0] at h
  have hlen : (setc (flipS s)).length = s.length := by unfold flipS; rw [setc_len, List.length_map]
  generalize setc (flipS s) = xs at *
  by_cases he : xs = []
  · simp -implicitDefEqProofs [v46, setc_len, h, h2, fe46, accV, accS, he]
  · have ht : List.take s.length xs = xs := List.take_of_length_le (by omega)
    simp -implicitDefEqProofs [v46, setc_len, h, h2, fe46, accV, accS, he, hlen, ht]
end Go.Vm.B
set_option maxRecDepth 100000
namespace Go.Vm.B
open Go.Fl
attribute [local irreducible] IntKind.wrap Go.Fl.fl tnD
variable {P : Program} {E : Env}

/-- What items must be. -/
structure IT (s : Set) : Prop where
  right : ∀ x ∈ s, x.1.right = true
  lo : ∀ x ∈ s, -1125899906842624 ≤ x.2
  hi : ∀ x ∈ s, x.2 ≤ 1125899906842624
  len : s.length ≤ 4294967295
/-- Where a row belongs. -/
def pos (r : Row) : Set → Nat
  | [] => 0
  | y :: t => if Row.cmp y.1 r < 0 then pos r t + 1 else 0
theorem pos_le (r : Row) : ∀ s : Set, pos r s ≤ s.length
  | [] => Nat.le_refl _
  | y :: t => by rw [pos]; split; · simpa using pos_le r t
                 · simp
def fr18a (a : V) (i : Nat) : Fr := ⟨[a, .bot, .bot, .bot, .d (.int .i64 i), .bot, .bot, .bot, .bot, .bot, .bot, .bot, .bot, .bot, .bot, .bot, .bot, .bot, .bot, .bot, .bot, .bot, .bot, .bot, .bot, .bot, .bot, .bot, .bot, .bot, .bot, .bot, .bot, .bot, .bot, .bot, .bot, .bot, .bot, .bot, .bot, .bot, .bot, .bot, .bot, .bot, .bot, .bot, .bot, .bot, .bot, .bot, .bot, .bot, .bot, .bot, .bot, .bot, .bot, .bot, .bot, .bot, .bot, .bot, .bot, .bot, .bot, .bot, .bot, .bot, .bot, .bot, .bot, .bot, .bot, .bot, .bot, .bot, .bot, .bot, .bot, .bot, .bot, .bot, .bot, .bot, .bot, .bot, .bot, .bot, .bot, .bot, .bot, .bot, .bot, .bot, .bot, .bot, .bot, .bot, .bot, .bot, .bot, .bot, .bot, .bot, .bot, .bot, .bot, .bot, .bot, .bot, .bot, .bot, .bot, .bot, .bot, .bot, .bot, .bot, .bot, .bot, .bot, .bot, .bot, .bot, .bot, .bot, .bot, .bot, .bot, .bot, .bot, .bot, .bot, .bot, .bot, .bot, .bot, .bot, .bot, .bot, .bot, .bot, .bot, .bot, .bot, .bot, .bot, .bot, .bot, .bot], []⟩
def fe18a (a : V) : Fr := ⟨[a, .bot, .bot, .bot, .bot, .bot, .bot, .bot, .bot, .bot, .bot, .bot, .bot, .bot, .bot, .bot, .bot, .bot, .bot, .bot, .bot, .bot, .bot, .bot, .bot, .bot, .bot, .bot, .bot, .bot, .bot, .bot, .bot, .bot, .bot, .bot, .bot, .bot, .bot, .bot, .bot, .bot, .bot, .bot, .bot, .bot, .bot, .bot, .bot, .bot, .bot, .bot, .bot, .bot, .bot, .bot, .bot, .bot, .bot, .bot, .bot, .bot, .bot, .bot, .bot, .bot, .bot, .bot, .bot, .bot, .bot, .bot, .bot, .bot, .bot, .bot, .bot, .bot, .bot, .bot, .bot, .bot, .bot, .bot, .bot, .bot, .bot, .bot, .bot, .bot, .bot, .bot, .bot, .bot, .bot, .bot, .bot, .bot, .bot, .bot, .bot, .bot, .bot, .bot, .bot, .bot, .bot, .bot, .bot, .bot, .bot, .bot, .bot, .bot, .bot, .bot, .bot, .bot, .bot, .bot, .bot, .bot, .bot, .bot, .bot, .bot, .bot, .bot, .bot, .bot, .bot, .bot, .bot, .bot, .bot, .bot, .bot, .bot, .bot, .bot, .bot, .bot, .bot, .bot, .bot, .bot, .bot, .bot, .bot, .bot, .bot, .bot], []⟩
set_option maxHeartbeats 2000000 in
theorem rounds18a (g : Good P E) (d : Nat) (s : Set) (h : IT s) : ∀ (m i f : Nat), m = s.length - i → i ≤ s.length → m < f →
    rounds (exec P (run P E T (d + 2)) (refsOf T) 0 v18_0) (forget 0 17) (forget 0 13) f (fr18a (.d (.lst (setc s))) i) = some (.exit 0, fe18a (.d (.lst (setc s)))) := by
  intro m
  have hsl := h.len
  induction m with
  | zero =>
    intro i f hm hi hf
    obtain ⟨f, rfl⟩ : ∃ f', f = f' + 1 := ⟨f - 1, by omega⟩
    have : i = s.length := by omega
    subst this
    rw [rounds]
    simp -implicitDefEqProofs [exB v18_0.eq_1, fr18a, fe18a, setc_len]
  | succ m ih =>
    intro i f hm hi hf
    obtain ⟨f, rfl⟩ : ∃ f', f = f' + 1 := ⟨f - 1, by omega⟩
    have hlt : i < s.length := by omega
    rw [rounds, ← ih (i + 1) f (by omega) (by omega) (by omega)]
    have hx := setc_get hlt
    have hm := List.getElem_mem hlt
    have hr := h.right _ hm
    have hc1 : run P E T (d + 2) 26 [.d (.lst s[i].1.c)] [] = some (.d (.bool s[i].1.right), []) := refRow_run P E d s[i].1 (by have := right_len hr; omega)
    have hc2 : run P E T (d + 2) 25 [tn s[i].2] [] = _ := rParts_run g (d + 1) s[i].2 (h.lo _ hm) (h.hi _ hm)
    have hw : IntKind.i64.wrap ((i : Int) + 1) = (i : Int) + 1 := wrap_small (by omega) (by omega)
    rw [hr] at hc1
    simp only [tn] at hc2
    generalize hxe : s[i] = x at *
    generalize (x.2.toNat : Int) = p at *
    generalize ((-x.2).toNat : Int) = q at *
    simp -implicitDefEqProofs [exB v18_0.eq_1, fr18a, setc_len, hxe, hx, itc, hc1, hc2, hlt, hw]
def fr18b (a : V) (i k : Nat) (xs : List (List D)) : Fr := ⟨[a, .bot, .bot, .bot, .bot, .bot, .bot, .bot, accV xs, .d (.int .i64 i), .d (.int .i64 k), .bot, .bot, .bot, .bot, .bot, .bot, .bot, .bot, .bot, .bot, .bot, .bot, .bot, .bot, .bot, .bot, .bot, .bot, .bot, .bot, .bot, .bot, .bot, .bot, .bot, .bot, .bot, .bot, .bot, .bot, .bot, .bot, .bot, .bot, .bot, .bot, .bot, .bot, .bot, .bot, .bot, .bot, .bot, .bot, .bot, .bot, .bot, .bot, .bot, .bot, .bot, .bot, .bot, .bot, .bot, .bot, .bot, .bot, .bot, .bot, .bot, .bot, .bot, .bot, .bot, .bot, .bot, .bot, .bot, .bot, .bot, .bot, .bot, .bot, .bot, .bot, .bot, .bot, .bot, .bot, .bot, .bot, .bot, .bot, .bot, .bot, .bot, .bot, .bot, .bot, .bot, .bot, .bot, .bot, .bot, .bot, .bot, .bot, .bot, .bot, .bot, .bot, .bot, .bot, .bot, .bot, .bot, .bot, .bot, .bot, .bot, .bot, .bot, .bot, .bot, .bot, .bot, .bot, .bot, .bot, .bot, .bot, .bot, .bot, .bot, .bot, .bot, .bot, .bot, .bot, .bot, .bot, .bot, .bot, .bot, .bot, .bot, .bot, .bot, .bot, .bot], accS 2 xs⟩
set_option maxHeartbeats 4000000 in
theorem rounds18b (g : Good P E) (d : Nat) (s : Set) (h : IT s) (i : Nat) (hi : i < s.length) (all : Set) (ha : ∀ y ∈ all, y.1.right = true) (hl : all.length ≤ 4294967295) : ∀ (m k f : Nat), m = all.length - k → k ≤ all.length → m < f →
    rounds (exec P (run P E T (d + 3)) (refsOf T) 0 v18_1) (forget 0 1793) (forget 0 1805) f (fr18b (.d (.lst (setc s))) i k (setc all)) = some (.exit 4, fr18b (.d (.lst (setc s))) i (k + pos s[i].1 (all.drop k)) (setc all)) := by
  intro m
  have hsl := h.len
  have hx := setc_get hi
  have hrx := h.right _ (List.getElem_mem hi)
  induction m with
  | zero =>
    intro k f hm hk hf
    obtain ⟨f, rfl⟩ : ∃ f', f = f' + 1 := ⟨f - 1, by omega⟩
    have : k = all.length := by omega
    subst this
    rw [rounds, List.drop_length, pos, Nat.add_zero]
    by_cases h0 : all = []
    · subst h0
      simp -implicitDefEqProofs [exB v18_1.eq_1, fr18b, setc, accV, accS]
    · have h1 : ¬ setc all = [] := by unfold setc; simpa using h0
      simp -implicitDefEqProofs [exB v18_1.eq_1, fr18b, setc_len, accV, accS, h1]
  | succ m ih =>
    intro k f hm hk hf
    obtain ⟨f, rfl⟩ : ∃ f', f = f' + 1 := ⟨f - 1, by omega⟩
    have hlt : k < all.length := by omega
    have hy := setc_get hlt
    have hry := ha _ (List.getElem_mem hlt)
    have hc := refRowLess_run P E d all[k].1 s[i].1 (by have := right_len hry; omega) (by have := right_len hrx; omega)
    rw [hry, hrx] at hc
    simp only [Bool.and_true, Bool.true_and] at hc
    have ih := ih (k + 1) f (by omega) (by omega) (by omega)
    have hw : IntKind.i64.wrap ((k : Int) + 1) = (k : Int) + 1 := wrap_small (by omega) (by omega)
    have h1 : ¬ setc all = [] := by unfold setc; intro e; rw [List.map_eq_nil_iff] at e; rw [e] at hlt; simp at hlt
    rw [List.drop_eq_getElem_cons hlt, pos, rounds]
    generalize hye : all[k] = y at *
    generalize hxe : s[i] = x at *
    by_cases h0 : Row.cmp y.1 x.1 < 0
    · rw [if_pos h0, show k + (pos x.1 (all.drop (k + 1)) + 1) = k + 1 + pos x.1 (all.drop (k + 1)) by omega, ← ih]
      rw [decide_eq_true h0] at hc
      simp -implicitDefEqProofs [exB v18_1.eq_1, fr18b, setc_len, accV, accS, h1, hye, hxe, hx, hy, itc, hc, hlt, hi, hw]
    · rw [if_neg h0, Nat.add_zero]
      rw [decide_eq_false h0] at hc
      simp -implicitDefEqProofs [exB v18_1.eq_1, fr18b, setc_len, accV, accS, h1, hye, hxe, hx, hy, itc, hc, hlt, hi, hw]
end Go.Vm.B
namespace Go.Vm.B
open Go.Fl
attribute [local irreducible] IntKind.wrap Go.Fl.fl tnD
variable {P : Program} {E : Env}

/-- A row is laid where it belongs. -/
def insS (all : Set) (x : Row × Int) : Set := match all[pos x.1 all]? with
  | some y => if Row.cmp y.1 x.1 = 0 then all.set (pos x.1 all) (y.1, y.2 + x.2) else all.take (pos x.1 all) ++ x :: all.drop (pos x.1 all)
  | none => all ++ [x]
theorem bad2 (xs : Set) : (∃ x, x ∈ setc xs ∧ ¬ x.length = 2) = False := by
  simp only [eq_iff_iff, iff_false, not_exists, not_and, Decidable.not_not]
  intro x hx
  obtain ⟨y, hy, rfl⟩ := List.mem_map.1 hx
  rfl
def fr18c (a : V) (i : Nat) (xs : List (List D)) : Fr := ⟨[a, .bot, .bot, .bot, .bot, .bot, .bot, .bot, accV xs, .d (.int .i64 i), .bot, .bot, .bot, .bot, .bot, .bot, .bot, .bot, .bot, .bot, .bot, .bot, .bot, .bot, .bot, .bot, .bot, .bot, .bot, .bot, .bot, .bot, .bot, .bot, .bot, .bot, .bot, .bot, .bot, .bot, .bot, .bot, .bot, .bot, .bot, .bot, .bot, .bot, .bot, .bot, .bot, .bot, .bot, .bot, .bot, .bot, .bot, .bot, .bot, .bot, .bot, .bot, .bot, .bot, .bot, .bot, .bot, .bot, .bot, .bot, .bot, .bot, .bot, .bot, .bot, .bot, .bot, .bot, .bot, .bot, .bot, .bot, .bot, .bot, .bot, .bot, .bot, .bot, .bot, .bot, .bot, .bot, .bot, .bot, .bot, .bot, .bot, .bot, .bot, .bot, .bot, .bot, .bot, .bot, .bot, .bot, .bot, .bot, .bot, .bot, .bot, .bot, .bot, .bot, .bot, .bot, .bot, .bot, .bot, .bot, .bot, .bot, .bot, .bot, .bot, .bot, .bot, .bot, .bot, .bot, .bot, .bot, .bot, .bot, .bot, .bot, .bot, .bot, .bot, .bot, .bot, .bot, .bot, .bot, .bot, .bot, .bot, .bot, .bot, .bot, .bot, .bot], accS 2 xs⟩
def fe18c (xs : List (List D)) : Fr := ⟨[.bot, .bot, .bot, .bot, .bot, .bot, .bot, .bot, accV xs, .bot, .bot, .bot, .bot, .bot, .bot, .bot, .bot, .bot, .bot, .bot, .bot, .bot, .bot, .bot, .bot, .bot, .bot, .bot, .bot, .bot, .bot, .bot, .bot, .bot, .bot, .bot, .bot, .bot, .bot, .bot, .bot, .bot, .bot, .bot, .bot, .bot, .bot, .bot, .bot, .bot, .bot, .bot, .bot, .bot, .bot, .bot, .bot, .bot, .bot, .bot, .bot, .bot, .bot, .bot, .bot, .bot, .bot, .bot, .bot, .bot, .bot, .bot, .bot, .bot, .bot, .bot, .bot, .bot, .bot, .bot, .bot, .bot, .bot, .bot, .bot, .bot, .bot, .bot, .bot, .bot, .bot, .bot, .bot, .bot, .bot, .bot, .bot, .bot, .bot, .bot, .bot, .bot, .bot, .bot, .bot, .bot, .bot, .bot, .bot, .bot, .bot, .bot, .bot, .bot, .bot, .bot, .bot, .bot, .bot, .bot, .bot, .bot, .bot, .bot, .bot, .bot, .bot, .bot, .bot, .bot, .bot, .bot, .bot, .bot, .bot, .bot, .bot, .bot, .bot, .bot, .bot, .bot, .bot, .bot, .bot, .bot, .bot, .bot, .bot, .bot, .bot, .bot], accS 2 xs⟩
set_option maxHeartbeats 4000000 in
theorem step18 (g : Good P E) (d : Nat) (s : Set) (h : IT s) (i : Nat) (hi : i < s.length) (all : Set) (ha : ∀ y ∈ all, y.1.right = true) (hb : ∀ y ∈ all, -1125899906842624 ≤ y.2 ∧ y.2 ≤ 1125899906842624 ∧ -1125899906842624 ≤ y.2 + s[i].2 ∧ y.2 + s[i].2 ≤ 1125899906842624) (hl : all.length ≤ 4294967294) (f : Nat) :
    rounds (exec P (run P E T (d + 4)) (refsOf T) 0 v18_2) (forget 0 769) (forget 0 268) (f + 1) (fr18c (.d (.lst (setc s))) i (setc all)) = rounds (exec P (run P E T (d + 4)) (refsOf T) 0 v18_2) (forget 0 769) (forget 0 268) f (fr18c (.d (.lst (setc s))) (i + 1) (setc (insS all s[i]))) := by
  have hsl := h.len
  have hx := setc_get hi
  have hmx := List.getElem_mem hi
  have hrx := h.right _ hmx
  have hrl := right_len hrx
  have hrn := Row.c_ne (right_ne hrx)
  have hrn' := right_ne hrx
  have hb3 := bad3 s[i].1
  have hred : run P E T (d + 4) 30 [tn s[i].2] [] = _ := rReduce_run g (d + 1) s[i].2 (h.lo _ hmx) (h.hi _ hmx)
  have hw : IntKind.i64.wrap ((i : Int) + 1) = (i : Int) + 1 := wrap_small (by omega) (by omega)
  have hin : rounds (exec P (run P E T (d + 4)) (refsOf T) 0 v18_1) _ _ _ _ = _ := rounds18b g (d + 1) s h i hi all ha (by omega) _ 0 LOOPS rfl (by omega) (by unfold LOOPS; omega)
  have hc4 : s[i].1.length ≤ 4294967296 := by omega
  have hc5 : List.take s[i].1.length s[i].1.c = s[i].1.c := List.take_of_length_le (by rw [Row.c_len]; exact Nat.le_refl _)
  have hpl := pos_le s[i].1 all
  rw [rounds]
  simp only [fr18b, Nat.zero_add, List.drop_zero] at hin
  rw [show ((0 : Nat) : Int) = 0 from rfl] at hin
  unfold insS
  simp only [tn] at hred
  by_cases h0 : all = []
  · subst h0
    generalize hxe : s[i] = x at *
    simp only [pos, setc, List.map_nil, accV, accS, if_true] at hin
    rw [show ((0 : Nat) : Int) = 0 from rfl] at hin
    simp -implicitDefEqProofs [exB v18_2.eq_1, fr18c, setc, accV, accS, hin, hxe, hi, hrn, hrn', hb3, hred, hw, hc4, hc5, Row.c_len, itc, anyX, opsT.eq_1, opsT.eq_2, clear, Tr.meets, Tr.foot]
  · have h1 : ¬ setc all = [] := by unfold setc; simpa using h0
    have hn := setc_len all
    have hrow := hrx
    generalize hxe : s[i] = x at *
    simp only [accV, accS, h1, if_false, hn] at hin
    have hfull : List.take all.length (setc all) = setc all := List.take_of_length_le (by omega)
    generalize hp : pos x.1 all = p at *
    by_cases hlt : p < all.length
    · have hy := setc_get hlt
      have hmy := List.getElem_mem hlt
      have hry := ha _ hmy
      have hby := hb _ hmy
      have hcs : run P E T (d + 4) 28 _ _ = _ := refSame_run' P E d all[p].1 x.1 hry hrx
      rw [List.getElem?_eq_getElem hlt]
      dsimp only
      generalize hye : all[p] = y at *
      by_cases hc : Row.cmp y.1 x.1 = 0
      · rw [if_pos hc]
        rw [decide_eq_true hc] at hcs
        have hadd : run P E T (d + 4) 29 [tn y.2, tn x.2] [] = _ := rAdd_run g (d + 1) y.2 x.2 hby.1 hby.2.1 (h.lo _ hmx) (h.hi _ hmx) hby.2.2.1 hby.2.2.2
        simp only [tn] at hadd
        have hset : setc (all.set p (y.1, y.2 + x.2)) = (setc all).set p (itc (y.1, y.2 + x.2)) := by unfold setc; rw [List.map_set]
        rw [hset]
        generalize setc all = xs at *
        have h2 : ¬ xs.set p (itc (y.1, y.2 + x.2)) = [] := by simpa using h1
        have hlt' : p < xs.length := by omega
        have hgp : xs[p] = itc y := by rw [List.getElem?_eq_getElem hlt'] at hy; injection hy
        simp -implicitDefEqProofs [exB v18_2.eq_1, fr18c, accV, accS, h1, h2, hin, hxe, hye, hi, hx, hy, hgp, hn, hlt, hw, itc, hcs, hadd, setc_len]
      · rw [if_neg hc]
        rw [decide_eq_false hc] at hcs
        have hset : setc (all.take p ++ x :: all.drop p) = (setc all).take p ++ [itc x] ++ (setc all).drop p := by unfold setc; simp
        have hbt := bad2 (all.take p)
        have hbd := bad2 (all.drop p)
        have et : setc (all.take p) = (setc all).take p := by unfold setc; simp
        have ed : setc (all.drop p) = (setc all).drop p := by unfold setc; simp
        rw [et] at hbt
        rw [ed] at hbd
        rw [hset]
        generalize setc all = xs at *
        have hlt' : p < xs.length := by omega
        have hgp : xs[p] = itc y := by rw [List.getElem?_eq_getElem hlt'] at hy; injection hy
        have hle : p ≤ all.length := by omega
        have hleI : (p : Int) ≤ all.length := by omega
        have hmin : min p all.length = p := by omega
        have htd : List.take (all.length - p) (List.drop p xs) = List.drop p xs := List.take_of_length_le (by rw [List.length_drop]; omega)
        have hsub : ¬ all.length - p = 0 := by omega
        have hnle : ¬ all.length ≤ p := by omega
        have e1 : p + 1 ≤ 4294967296 := by omega
        have e2 : p ≤ 4294967296 := by omega
        have e3 : p + 1 + (all.length - p) ≤ 4294967296 := by omega
        have e4 : p + 1 + (all.length - p) = all.length + 1 := by omega
        have e5 : p + (all.length - p) = all.length := by omega
        have e6 : all.length + 1 ≤ 4294967296 := by omega
        have e7 : p + (all.length - p + 1) = all.length + 1 := by omega
        by_cases hp0 : p = 0
        · subst hp0
          simp only [List.drop_zero] at hbd
          have e8 : 1 + all.length ≤ 4294967296 := by omega
          have e9 : 1 + all.length = all.length + 1 := by omega
          rw [show ((0 : Nat) : Int) = 0 from rfl] at hin
          simp -implicitDefEqProofs [exB v18_2.eq_1, fr18c, accV, accS, h1, h0, hin, hxe, hye, hi, hx, hy, hgp, hn, hlt, hw, itc, hcs, setc_len, hrn, hrn', hb3, hred, hc4, hc5, Row.c_len, hbd, hfull, e6, e8, e9, anyX, opsT.eq_1, opsT.eq_2, clear, Tr.meets, Tr.foot]
        · simp -implicitDefEqProofs [exB v18_2.eq_1, fr18c, accV, accS, h1, h0, hin, hxe, hye, hi, hx, hy, hgp, hn, hlt, hw, itc, hcs, setc_len, hrn, hrn', hb3, hred, hc4, hc5, Row.c_len, hbt, hbd, hle, hleI, hmin, htd, hsub, hnle, hp0, e1, e2, e3, e4, e5, e6, e7, anyX, opsT.eq_1, opsT.eq_2, clear, Tr.meets, Tr.foot]
    · have hpe : p = all.length := by omega
      subst hpe
      rw [List.getElem?_eq_none (Nat.le_refl _)]
      dsimp only
      have hset : setc (all ++ [x]) = setc all ++ [itc x] := by unfold setc; simp
      have hbt := bad2 all
      rw [hset]
      generalize setc all = xs at *
      have hl0 : ¬ all.length = 0 := by simpa using h0
      have hdn : List.drop all.length xs = [] := List.drop_eq_nil_of_le (by omega)
      have e1 : all.length + 1 ≤ 4294967296 := by omega
      have e2 : all.length ≤ 4294967296 := by omega
      simp -implicitDefEqProofs [exB v18_2.eq_1, fr18c, accV, accS, h1, h0, hin, hxe, hi, hx, hn, hw, itc, setc_len, hrn, hrn', hb3, hred, hc4, hc5, Row.c_len, hbt, hfull, hl0, hdn, e1, e2, anyX, opsT.eq_1, opsT.eq_2, clear, Tr.meets, Tr.foot]
end Go.Vm.B
namespace Go.Vm.B
open Go.Fl
attribute [local irreducible] IntKind.wrap Go.Fl.fl tnD
variable {P : Program} {E : Env}

/-- The sum of the nets' sizes. -/
def asum : Set → Int
  | [] => 0
  | x :: r => x.2.natAbs + asum r
theorem asum_nonneg : ∀ s : Set, 0 ≤ asum s
  | [] => by simp [asum]
  | x :: r => by have := asum_nonneg r; rw [asum]; omega
theorem asum_append (a b : Set) : asum (a ++ b) = asum a + asum b := by induction a with | nil => simp [asum] | cons x r ih => simp [asum, ih]; omega
theorem asum_mem : ∀ {s : Set} {y : Row × Int}, y ∈ s → (y.2.natAbs : Int) ≤ asum s
  | x :: r, y, h => by
    have h1 := asum_nonneg r
    rw [asum]
    rcases List.mem_cons.1 h with rfl | h
    · omega
    · have := asum_mem h; omega
theorem asum_set : ∀ {s : Set} {p : Nat} {y : Row × Int} (n : Int), s[p]? = some y → asum (s.set p (y.1, y.2 + n)) ≤ asum s + n.natAbs
  | [], p, y, n, h => by simp at h
  | x :: r, 0, y, n, h => by
    simp at h; subst h
    simp only [List.set_cons_zero, asum]; omega
  | x :: r, p + 1, y, n, h => by
    simp only [List.getElem?_cons_succ] at h
    have := asum_set n h
    simp only [List.set_cons_succ, asum]; omega
theorem asum_ins (all : Set) (x : Row × Int) : asum (insS all x) ≤ asum all + x.2.natAbs := by
  unfold insS
  split
  · rename_i y hy
    split
    · exact asum_set _ hy
    · rw [asum_append, asum]
      have := asum_append (all.take (pos x.1 all)) (all.drop (pos x.1 all))
      rw [List.take_append_drop] at this
      omega
  · rw [asum_append, asum, asum]; omega
theorem ins_right {all : Set} {x : Row × Int} (h : ∀ y ∈ all, y.1.right = true) (hx : x.1.right = true) : ∀ y ∈ insS all x, y.1.right = true := by
  unfold insS
  split
  · rename_i y hy
    have hmy := List.mem_of_getElem? hy
    split
    · intro z hz
      rcases List.mem_or_eq_of_mem_set hz with hz | rfl
      · exact h z hz
      · exact h y hmy
    · intro z hz
      rw [List.mem_append, List.mem_cons] at hz
      rcases hz with hz | rfl | hz
      · exact h z (List.mem_of_mem_take hz)
      · exact hx
      · exact h z (List.mem_of_mem_drop hz)
  · intro z hz
    rw [List.mem_append, List.mem_singleton] at hz
    rcases hz with hz | rfl
    · exact h z hz
    · exact hx
theorem ins_len (all : Set) (x : Row × Int) : (insS all x).length ≤ all.length + 1 := by
  unfold insS
  split
  · split
    · simp
    · simp; omega
  · simp
def insAll (l : Set) : Set := l.foldl insS []
theorem insAll_snoc (l : Set) (x : Row × Int) : insAll (l ++ [x]) = insS (insAll l) x := by simp [insAll]
theorem insAll_inv (l : Set) (h : ∀ y ∈ l, y.1.right = true) : (∀ y ∈ insAll l, y.1.right = true) ∧ asum (insAll l) ≤ asum l ∧ (insAll l).length ≤ l.length := by
  suffices ∀ (l acc : Set), (∀ y ∈ l, y.1.right = true) → (∀ y ∈ acc, y.1.right = true) → (∀ y ∈ l.foldl insS acc, y.1.right = true) ∧ asum (l.foldl insS acc) ≤ asum acc + asum l ∧ (l.foldl insS acc).length ≤ acc.length + l.length by
    have := this l [] h (by simp)
    simpa [insAll, asum] using this
  intro l
  induction l with
  | nil => intro acc _ h2; simpa [asum] using h2
  | cons x r ih =>
    intro acc h1 h2
    have h3 := ih (insS acc x) (fun y hy => h1 y (by simp [hy])) (ins_right h2 (h1 x (by simp)))
    have h4 := asum_ins acc x
    have h5 := ins_len acc x
    rw [List.foldl_cons, asum, List.length_cons]
    exact ⟨h3.1, by omega, by omega⟩
theorem rounds18c (g : Good P E) (d : Nat) (s : Set) (h : IT s) (hs : asum s ≤ 1125899906842624) (hsl : s.length ≤ 4294967294) : ∀ (m i f : Nat), m = s.length - i → i ≤ s.length → m < f →
    rounds (exec P (run P E T (d + 4)) (refsOf T) 0 v18_2) (forget 0 769) (forget 0 268) f (fr18c (.d (.lst (setc s))) i (setc (insAll (s.take i)))) = some (.exit 2, fe18c (setc (insAll s))) := by
  intro m
  induction m with
  | zero =>
    intro i f hm hi hf
    obtain ⟨f, rfl⟩ : ∃ f', f = f' + 1 := ⟨f - 1, by omega⟩
    have : i = s.length := by omega
    subst this
    rw [rounds, List.take_length]
    generalize setc (insAll s) = xs
    by_cases h0 : xs = []
    · simp -implicitDefEqProofs [exB v18_2.eq_1, fr18c, fe18c, setc_len, accV, accS, h0]
    · simp -implicitDefEqProofs [exB v18_2.eq_1, fr18c, fe18c, setc_len, accV, accS, h0]
  | succ m ih =>
    intro i f hm hi hf
    obtain ⟨f, rfl⟩ : ∃ f', f = f' + 1 := ⟨f - 1, by omega⟩
    have hlt : i < s.length := by omega
    have hrt : ∀ y ∈ s.take i, y.1.right = true := fun y hy => h.right y (List.mem_of_mem_take hy)
    obtain ⟨h1, h2, h3⟩ := insAll_inv (s.take i) hrt
    have hsp : asum s = asum (s.take i) + asum (s.drop i) := by rw [← asum_append, List.take_append_drop]
    rw [List.drop_eq_getElem_cons hlt, asum] at hsp
    have hnn := asum_nonneg (s.drop (i + 1))
    rw [step18 g d s h i hlt (insAll (s.take i)) h1 (fun y hy => ?_) (by rw [List.length_take] at h3; omega) f, ← insAll_snoc, ← List.take_succ_eq_append_getElem hlt]
    · exact ih (i + 1) f (by omega) (by omega) (by omega)
    · have := asum_mem hy
      omega
def nzS (s : Set) : Set := s.filter fun x => !decide (x.2 = 0)
def mkS (l : Set) : Set := nzS (insAll l)
def acc2S (xs ys : List (List D)) : Store := some (.row 2 xs) :: (if ys = [] then [] else [some (.row 2 ys)])
def fr18d (n i : Nat) (xs ys : List (List D)) : Fr := ⟨[.bot, .bot, .bot, .bot, .bot, .bot, .bot, .bot, .arr 0 0 n, .bot, .bot, .bot, .bot, .bot, (if ys = [] then .nils else .arr 1 0 ys.length), .d (.int .i64 i), .bot, .bot, .bot, .bot, .bot, .bot, .bot, .bot, .bot, .bot, .bot, .bot, .bot, .bot, .bot, .bot, .bot, .bot, .bot, .bot, .bot, .bot, .bot, .bot, .bot, .bot, .bot, .bot, .bot, .bot, .bot, .bot, .bot, .bot, .bot, .bot, .bot, .bot, .bot, .bot, .bot, .bot, .bot, .bot, .bot, .bot, .bot, .bot, .bot, .bot, .bot, .bot, .bot, .bot, .bot, .bot, .bot, .bot, .bot, .bot, .bot, .bot, .bot, .bot, .bot, .bot, .bot, .bot, .bot, .bot, .bot, .bot, .bot, .bot, .bot, .bot, .bot, .bot, .bot, .bot, .bot, .bot, .bot, .bot, .bot, .bot, .bot, .bot, .bot, .bot, .bot, .bot, .bot, .bot, .bot, .bot, .bot, .bot, .bot, .bot, .bot, .bot, .bot, .bot, .bot, .bot, .bot, .bot, .bot, .bot, .bot, .bot, .bot, .bot, .bot, .bot, .bot, .bot, .bot, .bot, .bot, .bot, .bot, .bot, .bot, .bot, .bot, .bot, .bot, .bot, .bot, .bot, .bot, .bot, .bot, .bot], acc2S xs ys⟩
def fe18d (ys : List (List D)) : Fr := ⟨[.bot, .bot, .bot, .bot, .bot, .bot, .bot, .bot, .bot, .bot, .bot, .bot, .bot, .bot, accV ys, .bot, .bot, .bot, .bot, .bot, .bot, .bot, .bot, .bot, .bot, .bot, .bot, .bot, .bot, .bot, .bot, .bot, .bot, .bot, .bot, .bot, .bot, .bot, .bot, .bot, .bot, .bot, .bot, .bot, .bot, .bot, .bot, .bot, .bot, .bot, .bot, .bot, .bot, .bot, .bot, .bot, .bot, .bot, .bot, .bot, .bot, .bot, .bot, .bot, .bot, .bot, .bot, .bot, .bot, .bot, .bot, .bot, .bot, .bot, .bot, .bot, .bot, .bot, .bot, .bot, .bot, .bot, .bot, .bot, .bot, .bot, .bot, .bot, .bot, .bot, .bot, .bot, .bot, .bot, .bot, .bot, .bot, .bot, .bot, .bot, .bot, .bot, .bot, .bot, .bot, .bot, .bot, .bot, .bot, .bot, .bot, .bot, .bot, .bot, .bot, .bot, .bot, .bot, .bot, .bot, .bot, .bot, .bot, .bot, .bot, .bot, .bot, .bot, .bot, .bot, .bot, .bot, .bot, .bot, .bot, .bot, .bot, .bot, .bot, .bot, .bot, .bot, .bot, .bot, .bot, .bot, .bot, .bot, .bot, .bot, .bot, .bot], accS 2 ys⟩
set_option maxHeartbeats 4000000 in
theorem rounds18d (d : Nat) (s : Set) (hb : ∀ y ∈ s, -1125899906842624 ≤ y.2 ∧ y.2 ≤ 1125899906842624) (hsl : s.length ≤ 4294967294) (hne : s ≠ []) : ∀ (m i f : Nat), m = s.length - i → i ≤ s.length → m < f →
    rounds (exec P (run P E T d) (refsOf T) 0 v18_3) (forget 0 49408) (forget 0 16396) f (fr18d s.length i (setc s) (setc (nzS (s.take i)))) = some (.exit 6, fe18d (setc (nzS s))) := by
  intro m
  have h1 : ¬ setc s = [] := by unfold setc; simpa using hne
  have hn := setc_len s
  induction m with
  | zero =>
    intro i f hm hi hf
    obtain ⟨f, rfl⟩ : ∃ f', f = f' + 1 := ⟨f - 1, by omega⟩
    have : i = s.length := by omega
    subst this
    rw [rounds, List.take_length]
    generalize setc (nzS s) = ys
    generalize setc s = xs at *
    by_cases h0 : ys = []
    · simp -implicitDefEqProofs [exB v18_3.eq_1, fr18d, fe18d, hn, accV, accS, acc2S, h0, h1, List.idxOf?_cons]
    · simp -implicitDefEqProofs [exB v18_3.eq_1, fr18d, fe18d, hn, accV, accS, acc2S, h0, h1, List.idxOf?_cons]
  | succ m ih =>
    intro i f hm hi hf
    obtain ⟨f, rfl⟩ : ∃ f', f = f' + 1 := ⟨f - 1, by omega⟩
    have hlt : i < s.length := by omega
    rw [rounds, ← ih (i + 1) f (by omega) (by omega) (by omega)]
    have hx := setc_get hlt
    have hbx := hb _ (List.getElem_mem hlt)
    have hcm := tn_neq0 (P := P) 53 s[i].2 hbx.1 hbx.2
    have hw : IntKind.i64.wrap ((i : Int) + 1) = (i : Int) + 1 := wrap_small (by omega) (by omega)
    have hyl : (setc (nzS (s.take i))).length ≤ i := by
      rw [setc_len]; unfold nzS
      have := List.length_filter_le (fun x : Row × Int => !decide (x.2 = 0)) (s.take i)
      rw [List.length_take] at this; omega
    have htk : setc (nzS (s.take (i + 1))) = setc (nzS (s.take i)) ++ (if s[i].2 = 0 then [] else [itc s[i]]) := by
      unfold setc nzS
      rw [List.take_succ_eq_append_getElem hlt, List.filter_append, List.map_append]
      by_cases h : s[i].2 = 0 <;> simp [h]
    rw [htk]
    generalize setc (nzS (s.take i)) = ys at *
    generalize hxe : s[i] = x at *
    simp only [tn] at hcm
    have e1 : ys.length + 1 ≤ 4294967296 := by omega
    by_cases hz : x.2 = 0
    · rw [if_pos hz, List.append_nil]
      rw [decide_eq_true hz] at hcm
      simp only [Bool.not_true] at hcm
      by_cases h0 : ys = []
      · simp -implicitDefEqProofs [exB v18_3.eq_1, fr18d, fe18d, hn, accV, accS, acc2S, h0, h1, hx, hxe, itc, hcm, hlt, hw, List.idxOf?_cons]
      · simp -implicitDefEqProofs [exB v18_3.eq_1, fr18d, fe18d, hn, accV, accS, acc2S, h0, h1, hx, hxe, itc, hcm, hlt, hw, List.idxOf?_cons]
    · rw [if_neg hz]
      rw [decide_eq_false hz] at hcm
      simp only [Bool.not_false] at hcm
      by_cases h0 : ys = []
      · simp -implicitDefEqProofs [exB v18_3.eq_1, fr18d, fe18d, hn, accV, accS, acc2S, h0, h1, hx, hxe, itc, hcm, hlt, hw, List.idxOf?_cons]
      · simp -implicitDefEqProofs [exB v18_3.eq_1, fr18d, fe18d, hn, accV, accS, acc2S, h0, h1, hx, hxe, itc, hcm, hlt, hw, List.idxOf?_cons, e1]
end Go.Vm.B
