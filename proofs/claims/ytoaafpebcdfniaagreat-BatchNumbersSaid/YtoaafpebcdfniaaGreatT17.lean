/- A part of the proofs of the statements BatchTells and BatchNumbers: L3, L4, C42, C43, C44, C45. Conditions: none of its own. -/
import Derived.Test.YtoaafpebcdfniaaGreatT16
import Derived.Test.YtoaafpebcdfniaaGreatT14
set_option linter.unusedSimpArgs false
set_option linter.unusedVariables false
set_option linter.unnecessarySimpa false
set_option linter.all false
namespace Go.Vm.B
/-! The stable sort sorts. -/
theorem blk_law (n : Nat) : ∀ (k a c : Nat) (l : Set), a = c * 20 → a ≤ n → n = l.length → n ≤ a + k → RR l → (∀ x, x < c → SR (x * 20) ((x + 1) * 20) l) →
    ∃ c', (blkA n k a l).1 = c' * 20 ∧ c' * 20 ≤ n ∧ n < c' * 20 + 20 ∧ (∀ x, x < c' → SR (x * 20) ((x + 1) * 20) (blkA n k a l).2) ∧ (blkA n k a l).2.Perm l ∧ RR (blkA n k a l).2
  | 0, a, c, l, ha, h1, hn, hk, hr, hs => by
    rw [blkA]; exact ⟨c, ha, by omega, by omega, hs, List.Perm.refl _, hr⟩
  | k + 1, a, c, l, ha, h1, hn, hk, hr, hs => by
    rw [blkA]
    split
    · rename_i hc
      obtain ⟨r, s⟩ := insR a (a + 20) l (by omega) hr (by omega)
      rw [show a + 20 - (a + 1) = 19 by omega] at r s
      obtain ⟨c', q1, q2, q3, q4, q5, q6⟩ := blk_law n k (a + 20) (c + 1) (insRange a 19 (a + 1) l) (by omega) hc (by rw [insRange_len]; exact hn) (by omega) (r.rr hr) fun x hx => by
        by_cases e : x = c
        · subst e; rw [show x * 20 = a by omega, show (x + 1) * 20 = a + 20 by omega]; exact s
        · exact (hs x (by omega)).out r (by omega)
      exact ⟨c', q1, q2, q3, q4, q5.trans r.perm, q6⟩
    · exact ⟨c, ha, by omega, by omega, hs, List.Perm.refl _, hr⟩
/-- All blocks of a size are in order. -/
def SB (bs n : Nat) (l : Set) : Prop := ∀ k, SR (k * bs) (min ((k + 1) * bs) n) l
theorem SR.empty {a b : Nat} (l : Set) (h : b ≤ a) : SR a b l := fun p q h1 h2 h3 => by omega
theorem mul_le {x c B : Nat} (h : x < c) : (x + 1) * B ≤ c * B := Nat.mul_le_mul_right B h
theorem sb_of {bs n c : Nat} {l : Set} (h : ∀ x, x < c → SR (x * bs) ((x + 1) * bs) l) (h1 : n ≤ (c + 1) * bs) (h2 : SR (c * bs) n l) : SB bs n l := by
  intro k
  rcases Nat.lt_trichotomy k c with hk | hk | hk
  · exact (h k hk).mono (Nat.le_refl _) (Nat.min_le_left _ _)
  · subst hk; exact h2.mono (Nat.le_refl _) (Nat.min_le_right _ _)
  · have := mul_le (B := bs) hk
    exact SR.empty _ (Nat.le_trans (Nat.min_le_right _ _) (Nat.le_trans h1 this))
/-- What symMerge does. -/
structure MS (mg : Nat → Nat → Nat → Set → Set) (N : Nat) : Prop where
  rp : ∀ a m b l, a < m → m < b → b ≤ l.length → b ≤ N → RP a b l (mg a m b l)
  sr : ∀ a m b l, a < m → m < b → b ≤ l.length → b ≤ N → RR l → SR a m l → SR m b l → SR a b (mg a m b l)
theorem sym_ms : MS (symS 17) 100000 where
  rp a m b l h1 h2 h3 h4 := symS_rp 17 a m b l h1 h2 h3
  sr a m b l h1 h2 h3 h4 hr s1 s2 := symS_sr 17 a m b l h1 h2 h3 (by have : (2 : Nat) ^ 17 = 131072 := rfl; omega) hr s1 s2
theorem mrg_law {mg : Nat → Nat → Nat → Set → Set} {N : Nat} (M : MS mg N) (n bs : Nat) (hb : 0 < bs) (hN : n ≤ N) : ∀ (k a c : Nat) (l : Set), a = c * (2 * bs) → a ≤ n → n = l.length → n ≤ a + k → RR l →
    (∀ x, x < c → SR (x * (2 * bs)) ((x + 1) * (2 * bs)) l) → (∀ x, 2 * c ≤ x → SR (x * bs) (min ((x + 1) * bs) n) l) →
    ∃ c', (mrgA mg n bs k a l).1 = c' * (2 * bs) ∧ c' * (2 * bs) ≤ n ∧ n < c' * (2 * bs) + 2 * bs ∧ (∀ x, x < c' → SR (x * (2 * bs)) ((x + 1) * (2 * bs)) (mrgA mg n bs k a l).2) ∧ (∀ x, 2 * c' ≤ x → SR (x * bs) (min ((x + 1) * bs) n) (mrgA mg n bs k a l).2) ∧ (mrgA mg n bs k a l).2.Perm l ∧ RR (mrgA mg n bs k a l).2
  | 0, a, c, l, ha, h1, hn, hk, hr, hs, ht => by
    rw [mrgA]; exact ⟨c, ha, by omega, by omega, hs, ht, List.Perm.refl _, hr⟩
  | k + 1, a, c, l, ha, h1, hn, hk, hr, hs, ht => by
    rw [mrgA]
    split
    · rename_i hc
      have e0 : 2 * c * bs = a := by rw [ha]; ac_rfl
      have e1 : (2 * c + 1) * bs = a + bs := by rw [Nat.succ_mul, e0]
      have e2 : (2 * c + 2) * bs = a + 2 * bs := by rw [Nat.succ_mul, e1]; omega
      have s1 := ht (2 * c) (Nat.le_refl _)
      have s2 := ht (2 * c + 1) (by omega)
      rw [e0, e1, Nat.min_eq_left (by omega)] at s1
      rw [e1, e2, Nat.min_eq_left (by omega)] at s2
      have r := M.rp a (a + bs) (a + 2 * bs) l (by omega) (by omega) (by omega) (by omega)
      have s := M.sr a (a + bs) (a + 2 * bs) l (by omega) (by omega) (by omega) (by omega) hr s1 s2
      have e3 : (c + 1) * (2 * bs) = a + 2 * bs := by rw [Nat.succ_mul, ha]
      obtain ⟨c', q1, q2, q3, q4, q5, q6, q7⟩ := mrg_law M n bs hb hN k (a + 2 * bs) (c + 1) (mg a (a + bs) (a + 2 * bs) l) e3.symm hc (by rw [r.len]; exact hn) (by omega) (r.rr hr) (fun x hx => by
        by_cases e : x = c
        · subst e; rw [e3, ← ha]; exact s
        · have := mul_le (B := 2 * bs) (show x < c by omega)
          exact (hs x (by omega)).out r (Or.inl (by omega))) (fun x hx => by
        have := Nat.mul_le_mul_right bs (show 2 * c + 2 ≤ x by omega)
        exact (ht x (by omega)).out r (Or.inr (by omega)))
      exact ⟨c', q1, q2, q3, q4, q5, q6.trans r.perm, q7⟩
    · exact ⟨c, ha, by omega, by omega, hs, ht, List.Perm.refl _, hr⟩
theorem mrgO_law {mg : Nat → Nat → Nat → Set → Set} {N : Nat} (M : MS mg N) (n bs : Nat) (l : Set) (hb : 0 < bs) (hN : n ≤ N) (hn : n = l.length) (hr : RR l) (hs : SB bs n l) :
    SB (bs * 2) n (mrgO mg n bs l) ∧ (mrgO mg n bs l).Perm l ∧ RR (mrgO mg n bs l) := by
  obtain ⟨c, q1, q2, q3, q4, q5, q6, q7⟩ := mrg_law M n bs hb hN n 0 0 l (by omega) (by omega) hn (by omega) hr (fun x hx => by omega) (fun x _ => hs x)
  unfold mrgO
  rw [Nat.mul_comm bs 2]
  generalize mrgA mg n bs n 0 l = p at *
  obtain ⟨a, l1⟩ := p
  simp only at q1 q2 q3 q4 q5 q6 q7 ⊢
  have hl1 := q6.length_eq
  have e0 : 2 * c * bs = a := by rw [q1]; ac_rfl
  have e1 : (2 * c + 1) * bs = a + bs := by rw [Nat.succ_mul, e0]
  have e2 : (2 * c + 2) * bs = a + 2 * bs := by rw [Nat.succ_mul, e1]; omega
  have e3 : (c + 1) * (2 * bs) = a + 2 * bs := by rw [Nat.succ_mul, q1]
  have s1 := q5 (2 * c) (Nat.le_refl _)
  have s2 := q5 (2 * c + 1) (by omega)
  rw [e0, e1] at s1
  rw [e1, e2] at s2
  split
  · rename_i hc
    rw [Nat.min_eq_left (by omega)] at s1
    rw [Nat.min_eq_right (by omega)] at s2
    have r := M.rp a (a + bs) n l1 (by omega) hc (by omega) hN
    have s := M.sr a (a + bs) n l1 (by omega) hc (by omega) hN q7 s1 s2
    refine ⟨sb_of (c := c) (fun x hx => ?_) (by omega) (by rw [← q1]; exact s), r.perm.trans q6, r.rr q7⟩
    have := mul_le (B := 2 * bs) hx
    exact (q4 x hx).out r (Or.inl (by omega))
  · rename_i hc
    rw [Nat.min_eq_right (by omega)] at s1
    exact ⟨sb_of (c := c) q4 (by omega) (by rw [← q1]; exact s1), q6, q7⟩
theorem mrgS_law {mg : Nat → Nat → Nat → Set → Set} {N : Nat} (M : MS mg N) (n : Nat) (hN : n ≤ N) : ∀ (k bs : Nat) (l : Set), 0 < bs → n = l.length → n ≤ bs + k → RR l → SB bs n l →
    SR 0 n (mrgS mg n k bs l) ∧ (mrgS mg n k bs l).Perm l
  | 0, bs, l, hb, hn, hk, hr, hs => by
    rw [mrgS]
    have := hs 0
    rw [Nat.zero_mul, Nat.zero_add, Nat.one_mul, Nat.min_eq_right (by omega)] at this
    exact ⟨this, List.Perm.refl _⟩
  | k + 1, bs, l, hb, hn, hk, hr, hs => by
    rw [mrgS]
    split
    · obtain ⟨a, b, c⟩ := mrgO_law M n bs l hb hN hn hr hs
      obtain ⟨d, e⟩ := mrgS_law M n hN k (bs * 2) (mrgO mg n bs l) (by omega) (by rw [b.length_eq]; exact hn) (by omega) c a
      exact ⟨d, e.trans b⟩
    · have := hs 0
      rw [Nat.zero_mul, Nat.zero_add, Nat.one_mul, Nat.min_eq_right (by omega)] at this
      exact ⟨this, List.Perm.refl _⟩
theorem stS_law {mg : Nat → Nat → Nat → Set → Set} {N : Nat} (M : MS mg N) (l : Set) (hN : l.length ≤ N) (hr : RR l) : SR 0 l.length (stS mg l) ∧ (stS mg l).Perm l := by
  unfold stS
  obtain ⟨c, q1, q2, q3, q4, q5, q6⟩ := blk_law l.length l.length 0 0 l (by omega) (by omega) rfl (by omega) hr fun x hx => by omega
  generalize blkA l.length l.length 0 l = p at *
  obtain ⟨a, l1⟩ := p
  simp only at q1 q2 q3 q4 q5 q6 ⊢
  have hl1 := q5.length_eq
  obtain ⟨r, s⟩ := insR a l.length l1 (by omega) q6 (by omega)
  generalize insRange a (l.length - (a + 1)) (a + 1) l1 = l2 at *
  have hsb : SB 20 l.length l2 := sb_of (c := c) (fun x hx => (q4 x hx).out r (Or.inl (by omega))) (by omega) (by rw [← q1]; exact s)
  obtain ⟨d, e⟩ := mrgS_law M l.length hN l.length 20 l2 (by omega) (by rw [r.len, hl1]) (by omega) (r.rr q6) hsb
  exact ⟨d, e.trans (r.perm.trans q5)⟩
end Go.Vm.B
namespace Go.Vm.B
/-! Sets: in order, each row once; told by the sum of each row's tallies. -/
def rgt (s : Set) : Prop := ∀ x ∈ s, x.1.right = true
theorem rgt_cons {x : Row × Int} {s : Set} (h : rgt (x :: s)) : rightV x.1 ∧ rgt s := ⟨Row.right_v (h x (by simp)), fun y hy => h y (by simp [hy])⟩
def sumR : Set → Row → Int
  | [], _ => 0
  | x :: s, r => (if Row.cmp x.1 r = 0 then x.2 else 0) + sumR s r
theorem sumR_append (a b : Set) (r : Row) : sumR (a ++ b) r = sumR a r + sumR b r := by
  induction a with
  | nil => simp [sumR]
  | cons x t ih => simp only [List.cons_append, sumR, ih]; omega
theorem sumR_perm {a b : Set} (h : a.Perm b) (r : Row) : sumR a r = sumR b r := by
  induction h with
  | nil => rfl
  | cons x _ ih => simp only [sumR, ih]
  | swap x y l => simp only [sumR]; omega
  | trans _ _ i1 i2 => exact i1.trans i2
def SD (s : Set) : Prop := List.Pairwise (fun x y => Row.cmp x.1 y.1 < 0) s
theorem cmp_lt_ne {a b r : Row} (ha : rightV a) (hb : rightV b) (hr : rightV r) (h : Row.cmp a b < 0) (e : Row.cmp a r = 0) : Row.cmp b r ≠ 0 := by
  intro e2
  have := (Row.cmp_zero ha hr).mp e
  have h2 := (Row.cmp_zero hb hr).mp e2
  rw [this, h2, cmp_self hr] at h
  omega
theorem sumR_gt {s : Set} {r : Row} (hr : rightV r) (hs : rgt s) (h : ∀ y ∈ s, Row.cmp r y.1 < 0) : sumR s r = 0 := by
  induction s with
  | nil => rfl
  | cons y t ih =>
    obtain ⟨h1, h2⟩ := rgt_cons hs
    have := h y (by simp)
    have h3 := Row.cmp_anti r y.1
    rw [sumR, if_neg (by omega), ih h2 fun z hz => h z (by simp [hz])]; rfl
theorem look_sum {s : Set} {r : Row} (hr : rightV r) (hs : rgt s) (h : SD s) : look s r = sumR s r := by
  induction s with
  | nil => rfl
  | cons y t ih =>
    obtain ⟨h1, h2⟩ := rgt_cons hs
    obtain ⟨h3, h4⟩ := List.pairwise_cons.mp h
    rw [look, sumR]
    split
    · rename_i e
      have := (Row.cmp_zero h1 hr).mp e
      rw [← this, sumR_gt h1 h2 h3]; omega
    · rw [ih h2 h4]; omega
def NZ (s : Set) : Prop := ∀ x ∈ s, x.2 ≠ 0
theorem sd_uniq : ∀ {s t : Set}, SD s → SD t → NZ s → NZ t → rgt s → rgt t → (∀ r, rightV r → sumR s r = sumR t r) → s = t
  | [], [], _, _, _, _, _, _, _ => rfl
  | [], y :: t, _, ht, _, nt, _, gt, h => by
    obtain ⟨h1, h2⟩ := rgt_cons gt
    obtain ⟨h3, h4⟩ := List.pairwise_cons.mp ht
    have := h y.1 h1
    rw [sumR, sumR, if_pos (cmp_self h1), sumR_gt h1 h2 h3] at this
    exact absurd (by omega) (nt y (by simp))
  | x :: s, [], hs, _, ns, _, gs, _, h => by
    obtain ⟨h1, h2⟩ := rgt_cons gs
    obtain ⟨h3, h4⟩ := List.pairwise_cons.mp hs
    have := h x.1 h1
    rw [sumR, sumR, if_pos (cmp_self h1), sumR_gt h1 h2 h3] at this
    exact absurd (by omega) (ns x (by simp))
  | x :: s, y :: t, hs, ht, ns, nt, gs, gt, h => by
    obtain ⟨a1, a2⟩ := rgt_cons gs
    obtain ⟨a3, a4⟩ := List.pairwise_cons.mp hs
    obtain ⟨b1, b2⟩ := rgt_cons gt
    obtain ⟨b3, b4⟩ := List.pairwise_cons.mp ht
    have anti := Row.cmp_anti x.1 y.1
    rcases Int.lt_trichotomy (Row.cmp x.1 y.1) 0 with hc | hc | hc
    · have := h x.1 a1
      rw [sumR, sumR, if_pos (cmp_self a1), sumR_gt a1 a2 a3, if_neg (by omega), sumR_gt a1 b2 fun z hz => Row.cmp_trans a1 b1 (Row.right_v (b2 z hz)) hc (b3 z hz)] at this
      exact absurd (by omega) (ns x (by simp))
    · have e := (Row.cmp_zero a1 b1).mp hc
      have h0 := h x.1 a1
      rw [sumR, sumR, if_pos (cmp_self a1), sumR_gt a1 a2 a3, ← e, if_pos (cmp_self a1), sumR_gt a1 b2 fun z hz => by rw [e]; exact b3 z hz] at h0
      have ex : x = y := Prod.ext e (by omega)
      subst ex
      rw [sd_uniq a4 b4 (fun z hz => ns z (by simp [hz])) (fun z hz => nt z (by simp [hz])) a2 b2 fun r hr => by
        have := h r hr
        rw [sumR, sumR] at this; omega]
    · have := h y.1 b1
      rw [sumR, sumR, if_pos (cmp_self b1), sumR_gt b1 b2 b3, if_neg (by omega), sumR_gt b1 a2 fun z hz => Row.cmp_trans b1 a1 (Row.right_v (a2 z hz)) (by omega) (a3 z hz)] at this
      exact absurd (by omega) (nt y (by simp))

/-! Making a set, as the document has it -/
def ins2 : Set → Row × Int → Set
  | [], x => [x]
  | y :: t, x => if Row.cmp y.1 x.1 < 0 then y :: ins2 t x else if Row.cmp y.1 x.1 = 0 then (y.1, y.2 + x.2) :: t else x :: y :: t
theorem insS_eq : ∀ (all : Set) (x : Row × Int), insS all x = ins2 all x
  | [], x => rfl
  | y :: t, x => by
    have ih := insS_eq t x
    by_cases hc : Row.cmp y.1 x.1 < 0
    · rw [ins2, if_pos hc, ← ih]
      have e : pos x.1 (y :: t) = pos x.1 t + 1 := by rw [pos, if_pos hc]
      unfold insS
      rw [e, List.getElem?_cons_succ]
      cases h : t[pos x.1 t]? with
      | none => rfl
      | some z => dsimp only; split <;> simp
    · rw [ins2, if_neg hc]
      have e : pos x.1 (y :: t) = 0 := by rw [pos, if_neg hc]
      unfold insS
      rw [e]
      simp
theorem ins2_mem : ∀ {all : Set} {x z : Row × Int}, z ∈ ins2 all x → z.1 = x.1 ∨ ∃ w ∈ all, z.1 = w.1
  | [], x, z, h => by
    rw [ins2, List.mem_singleton] at h; exact Or.inl (by rw [h])
  | y :: t, x, z, h => by
    rw [ins2] at h
    split at h
    · rcases List.mem_cons.mp h with rfl | h
      · exact Or.inr ⟨z, by simp, rfl⟩
      · rcases ins2_mem h with e | ⟨w, hw, e⟩
        · exact Or.inl e
        · exact Or.inr ⟨w, by simp [hw], e⟩
    · split at h
      · rcases List.mem_cons.mp h with rfl | h
        · exact Or.inr ⟨y, by simp, rfl⟩
        · exact Or.inr ⟨z, by simp [h], rfl⟩
      · rcases List.mem_cons.mp h with rfl | h
        · exact Or.inl rfl
        · exact Or.inr ⟨z, h, rfl⟩
theorem ins2_sd : ∀ {all : Set} {x : Row × Int}, rgt all → rightV x.1 → SD all → SD (ins2 all x)
  | [], x, _, _, _ => by rw [ins2]; exact List.pairwise_singleton _ _
  | y :: t, x, hg, hx, hs => by
    obtain ⟨a1, a2⟩ := rgt_cons hg
    obtain ⟨a3, a4⟩ := List.pairwise_cons.mp hs
    rw [ins2]
    split
    · rename_i hc
      refine List.pairwise_cons.mpr ⟨fun z hz => ?_, ins2_sd a2 hx a4⟩
      rcases ins2_mem hz with e | ⟨w, hw, e⟩
      · rw [e]; exact hc
      · rw [e]; exact a3 w hw
    · split
      · exact List.pairwise_cons.mpr ⟨a3, a4⟩
      · rename_i h1 h2
        have anti := Row.cmp_anti x.1 y.1
        refine List.pairwise_cons.mpr ⟨fun z hz => ?_, hs⟩
        rcases List.mem_cons.mp hz with rfl | hz
        · omega
        · exact Row.cmp_trans hx a1 (Row.right_v (a2 z hz)) (by omega) (a3 z hz)
theorem ins2_sum : ∀ {all : Set} {x : Row × Int} (r : Row), rgt all → rightV x.1 → sumR (ins2 all x) r = sumR all r + if Row.cmp x.1 r = 0 then x.2 else 0
  | [], x, r, _, _ => by simp [ins2, sumR]
  | y :: t, x, r, hg, hx => by
    obtain ⟨a1, a2⟩ := rgt_cons hg
    rw [ins2]
    split
    · simp only [sumR]; rw [ins2_sum r a2 hx]; omega
    · split
      · rename_i e
        have := (Row.cmp_zero a1 hx).mp e
        simp only [sumR]; rw [this]
        split <;> omega
      · simp only [sumR]; omega
theorem ins2_tot : ∀ (all : Set) (x : Row × Int), tot (ins2 all x) = tot all + x.2
  | [], x => by simp [ins2, tot]
  | y :: t, x => by
    rw [ins2]
    split
    · simp only [tot]; rw [ins2_tot t x]; omega
    · split
      · simp only [tot]; omega
      · simp only [tot]; omega
theorem insAll_law (l : Set) (h : rgt l) : SD (insAll l) ∧ rgt (insAll l) ∧ (∀ r, sumR (insAll l) r = sumR l r) ∧ tot (insAll l) = tot l ∧ ∀ z ∈ insAll l, ∃ w ∈ l, z.1 = w.1 := by
  obtain ⟨n, hn⟩ : ∃ n, n = l.length := ⟨_, rfl⟩
  induction n generalizing l with
  | zero =>
    have : l = [] := List.eq_nil_of_length_eq_zero hn.symm
    subst this
    exact ⟨List.Pairwise.nil, fun _ h => by simp [insAll] at h, fun _ => rfl, rfl, fun z hz => by simp [insAll] at hz⟩
  | succ n ih =>
    obtain ⟨l', x, rfl⟩ : ∃ l' x, l = l' ++ [x] := ⟨l.dropLast, l.getLast (by intro e; rw [e] at hn; simp at hn), (List.dropLast_concat_getLast _).symm⟩
    have hl : rgt l' := fun y hy => h y (by simp [hy])
    have hx := Row.right_v (h x (by simp))
    obtain ⟨i1, i2, i3, i4, i5⟩ := ih l' hl (by simp at hn; omega)
    rw [insAll_snoc, insS_eq]
    refine ⟨ins2_sd i2 hx i1, ?_, fun r => ?_, ?_, fun z hz => ?_⟩
    · intro z hz
      rcases ins2_mem hz with e | ⟨w, hw, e⟩
      · rw [e]; exact h x (by simp)
      · rw [e]; exact i2 w hw
    · rw [ins2_sum r i2 hx, i3, sumR_append]; simp [sumR]
    · rw [ins2_tot, i4, tot_append]; simp [tot]
    · rcases ins2_mem hz with e | ⟨w, hw, e⟩
      · exact ⟨x, by simp, e⟩
      · obtain ⟨v, hv, e'⟩ := i5 w hw
        exact ⟨v, by simp [hv], e.trans e'⟩
theorem nz_sum (s : Set) (r : Row) : sumR (nzS s) r = sumR s r := by
  induction s with
  | nil => rfl
  | cons x t ih =>
    unfold nzS at ih ⊢
    rw [List.filter_cons]
    split
    · rw [sumR, sumR, ih]
    · rename_i h
      have : x.2 = 0 := by simpa using h
      rw [sumR, ih, this]; split <;> omega
theorem nz_tot (s : Set) : tot (nzS s) = tot s := by
  induction s with
  | nil => rfl
  | cons x t ih =>
    unfold nzS at ih ⊢
    rw [List.filter_cons]
    split
    · rw [tot, tot, ih]
    · rename_i h
      have : x.2 = 0 := by simpa using h
      rw [tot, ih, this]; omega
theorem mkS_law (l : Set) (h : rgt l) : SD (mkS l) ∧ NZ (mkS l) ∧ rgt (mkS l) ∧ (∀ r, sumR (mkS l) r = sumR l r) ∧ tot (mkS l) = tot l ∧ ∀ z ∈ mkS l, ∃ w ∈ l, z.1 = w.1 := by
  obtain ⟨i1, i2, i3, i4, i5⟩ := insAll_law l h
  have hm : ∀ z ∈ mkS l, z ∈ insAll l ∧ z.2 ≠ 0 := fun z hz => by
    have := List.mem_filter.mp hz
    exact ⟨this.1, by simpa using this.2⟩
  exact ⟨List.Pairwise.filter _ i1, fun z hz => (hm z hz).2, fun z hz => i2 z (hm z hz).1, fun r => (nz_sum _ r).trans (i3 r), (nz_tot _).trans i4, fun z hz => i5 z (hm z hz).1⟩
theorem mkS_gs (l : Set) (h : rgt l) (hs : asum l ≤ 1125899906842624) (hl : l.length ≤ 4294967296) : GS (mkS l) := by
  obtain ⟨j1, j2, j3, j4, j5, j6⟩ := mkS_law l h
  obtain ⟨k1, k2, k3⟩ := insAll_inv l h
  have hm : ∀ z ∈ mkS l, z ∈ insAll l := fun z hz => (List.mem_filter.mp hz).1
  refine ⟨j3, fun x hx => ?_, fun x hx => ?_, j2, fun i hi => ?_, ?_⟩
  · have := asum_mem (hm x hx); omega
  · have := asum_mem (hm x hx); omega
  · exact List.pairwise_iff_getElem.mp j1 i (i + 1) (by omega) hi (by omega)
  · have : (mkS l).length ≤ (insAll l).length := List.length_filter_le _ _
    omega
theorem gs_sd {s : Set} (h : GS s) : SD s := by
  have hr := h.right
  have ho := h.ord
  clear h
  induction s with
  | nil => exact List.Pairwise.nil
  | cons x t ih =>
    have ht : SD t := ih (fun y hy => hr y (by simp [hy])) fun i hi => by
      have := ho (i + 1) (by simp; omega)
      simpa using this
    refine List.pairwise_cons.mpr ⟨fun y hy => ?_, ht⟩
    cases t with
    | nil => simp at hy
    | cons z u =>
      have h1 : Row.cmp x.1 z.1 < 0 := by have := ho 0 (by simp); simpa using this
      rcases List.mem_cons.mp hy with rfl | hy
      · exact h1
      · exact Row.cmp_trans (Row.right_v (hr x (by simp))) (Row.right_v (hr z (by simp))) (Row.right_v (hr y (by simp [hy]))) h1 ((List.pairwise_cons.mp ht).1 y hy)
theorem plain_mk {l : Set} (h : rgt l) (hp : ∀ r, rightV r → 0 ≤ sumR l r) : plainS (mkS l) := by
  obtain ⟨j1, j2, j3, j4, j5, j6⟩ := mkS_law l h
  intro x hx
  have hxr := Row.right_v (j3 x hx)
  have h1 := hp x.1 hxr
  rw [← j4, ← look_sum hxr j3 j1] at h1
  have : ∀ (s : Set), SD s → rgt s → x ∈ s → look s x.1 = x.2 := by
    intro s
    induction s with
    | nil => intro _ _ h; simp at h
    | cons y t ih =>
      intro hs hg hm
      obtain ⟨a1, a2⟩ := rgt_cons hg
      obtain ⟨a3, a4⟩ := List.pairwise_cons.mp hs
      rw [look]
      rcases List.mem_cons.mp hm with rfl | hm
      · rw [if_pos (cmp_self a1)]
      · rw [if_neg (by have := a3 x hm; omega)]; exact ih a4 a2 hm
  rw [this _ j1 j3 hx] at h1
  exact h1
theorem sum_nonneg {s : Set} (h : plainS s) (r : Row) : 0 ≤ sumR s r := by
  induction s with
  | nil => exact Int.le_refl _
  | cons x t ih =>
    have h1 := h x (by simp)
    have h2 := ih fun y hy => h y (by simp [hy])
    rw [sumR]; split <;> omega

/-! Making a set, as the program has it: alike rows lie together -/
def runN (r : Row) : Set → Nat
  | [] => 0
  | y :: t => if Row.cmp y.1 r = 0 then runN r t + 1 else 0
def runT (r : Row) : Set → Int
  | [] => 0
  | y :: t => if Row.cmp y.1 r = 0 then y.2 + runT r t else 0
def grpS : Nat → Set → Set
  | 0, _ => []
  | _ + 1, [] => []
  | k + 1, x :: t => (if runT x.1 (x :: t) = 0 then [] else [(x.1, runT x.1 (x :: t))]) ++ grpS k ((x :: t).drop (runN x.1 (x :: t)))
theorem run_sum (r0 r : Row) (h0 : rightV r0) : ∀ (l : Set), rgt l → sumR l r = (if Row.cmp r0 r = 0 then runT r0 l else 0) + sumR (l.drop (runN r0 l)) r
  | [], _ => by simp [sumR, runT, runN]
  | y :: t, h => by
    obtain ⟨a1, a2⟩ := rgt_cons h
    by_cases e : Row.cmp y.1 r0 = 0
    · have e' := (Row.cmp_zero a1 h0).mp e
      rw [runT, runN, if_pos e, if_pos e, sumR, run_sum r0 r h0 t a2, List.drop_succ_cons, e']
      split <;> omega
    · rw [runT, runN, if_neg e, if_neg e]
      simp
theorem run_gt (r0 : Row) (h0 : rightV r0) : ∀ (l : Set), rgt l → List.Pairwise (fun x y => Row.cmp x.1 y.1 ≤ 0) l → (∀ y ∈ l, Row.cmp r0 y.1 ≤ 0) → ∀ z ∈ l.drop (runN r0 l), Row.cmp r0 z.1 < 0
  | [], _, _, _, z, hz => by simp at hz
  | y :: t, h, hs, hl, z, hz => by
    obtain ⟨a1, a2⟩ := rgt_cons h
    obtain ⟨a3, a4⟩ := List.pairwise_cons.mp hs
    rw [runN] at hz
    split at hz
    · rw [List.drop_succ_cons] at hz
      exact run_gt r0 h0 t a2 a4 (fun w hw => hl w (by simp [hw])) z hz
    · rename_i e
      have h1 := hl y (by simp)
      have anti := Row.cmp_anti r0 y.1
      rcases List.mem_cons.mp hz with rfl | hz
      · omega
      · by_cases e2 : Row.cmp y.1 z.1 = 0
        · rw [← (Row.cmp_zero a1 (Row.right_v (a2 z hz))).mp e2]; omega
        · have := a3 z hz
          exact Row.cmp_trans h0 a1 (Row.right_v (a2 z hz)) (by omega) (by omega)
theorem runN_le (r : Row) : ∀ l : Set, runN r l ≤ l.length
  | [] => Nat.le_refl _
  | y :: t => by rw [runN]; split; · simpa using runN_le r t
                 · simp
theorem grp_law : ∀ (k : Nat) (l : Set), l.length ≤ k → rgt l → List.Pairwise (fun x y => Row.cmp x.1 y.1 ≤ 0) l →
    SD (grpS k l) ∧ NZ (grpS k l) ∧ rgt (grpS k l) ∧ (∀ r, rightV r → sumR (grpS k l) r = sumR l r) ∧ ∀ z ∈ grpS k l, ∃ w ∈ l, z.1 = w.1
  | 0, l, hk, _, _ => by
    have : l = [] := List.eq_nil_of_length_eq_zero (by omega)
    subst this
    exact ⟨List.Pairwise.nil, fun _ h => by simp [grpS] at h, fun _ h => by simp [grpS] at h, fun _ _ => rfl, fun _ h => by simp [grpS] at h⟩
  | k + 1, [], _, _, _ => ⟨List.Pairwise.nil, fun _ h => by simp [grpS] at h, fun _ h => by simp [grpS] at h, fun _ _ => rfl, fun _ h => by simp [grpS] at h⟩
  | k + 1, x :: t, hk, hg, hs => by
    obtain ⟨a1, a2⟩ := rgt_cons hg
    obtain ⟨a3, a4⟩ := List.pairwise_cons.mp hs
    have hc := cmp_self a1
    have hn : 1 ≤ runN x.1 (x :: t) := by rw [runN, if_pos hc]; omega
    have hrun := fun r => run_sum x.1 r a1 (x :: t) hg
    have hgt := run_gt x.1 a1 (x :: t) hg hs fun y hy => by
      rcases List.mem_cons.mp hy with rfl | hy
      · omega
      · exact a3 y hy
    rw [grpS]
    generalize runN x.1 (x :: t) = N at *
    generalize runT x.1 (x :: t) = S at *
    have hd : ∀ z ∈ (x :: t).drop N, z ∈ x :: t := fun z hz => List.mem_of_mem_drop hz
    obtain ⟨i1, i2, i3, i4, i5⟩ := grp_law k ((x :: t).drop N) (by rw [List.length_drop]; simp at hk ⊢; omega) (fun z hz => hg z (hd z hz)) (hs.sublist (List.drop_sublist N _))
    have hlt : ∀ z ∈ grpS k ((x :: t).drop N), Row.cmp x.1 z.1 < 0 := fun z hz => by
      obtain ⟨w, hw, e⟩ := i5 z hz
      rw [e]; exact hgt w hw
    split
    · rename_i e
      subst e
      refine ⟨i1, i2, i3, fun r hr => ?_, fun z hz => ?_⟩
      · rw [hrun r, List.nil_append, i4 r hr]; split <;> omega
      · obtain ⟨w, hw, e⟩ := i5 z hz; exact ⟨w, hd w hw, e⟩
    · rename_i e
      refine ⟨List.pairwise_cons.mpr ⟨hlt, i1⟩, fun z hz => ?_, fun z hz => ?_, fun r hr => ?_, fun z hz => ?_⟩
      · rcases List.mem_cons.mp hz with rfl | hz
        · exact e
        · exact i2 z hz
      · rcases List.mem_cons.mp hz with rfl | hz
        · exact hg x (by simp)
        · exact i3 z hz
      · rw [hrun r, List.singleton_append, sumR, i4 r hr]
      · rcases List.mem_cons.mp hz with rfl | hz
        · exact ⟨x, by simp, rfl⟩
        · obtain ⟨w, hw, e⟩ := i5 z hz; exact ⟨w, hd w hw, e⟩
theorem rgt_perm {a b : Set} (h : a.Perm b) (hb : rgt b) : rgt a := fun x hx => hb x (h.mem_iff.mp hx)
theorem grp_mk {l l' : Set} (h : rgt l) (hp : l'.Perm l) (hs : SR 0 l'.length l') (k : Nat) (hk : l'.length ≤ k) : grpS k l' = mkS l := by
  have hg := rgt_perm hp h
  have hpw : List.Pairwise (fun x y => Row.cmp x.1 y.1 ≤ 0) l' := by
    rw [List.pairwise_iff_getElem]
    intro i j hi hj hij
    have := hs i j (by omega) hij hj
    rwa [rowAt_eq hi, rowAt_eq hj] at this
  obtain ⟨i1, i2, i3, i4, i5⟩ := grp_law k l' hk hg hpw
  obtain ⟨j1, j2, j3, j4, j5, j6⟩ := mkS_law l h
  exact sd_uniq i1 j1 i2 j2 i3 j3 fun r hr => by rw [i4 r hr, j4, sumR_perm hp]
/-- What the program makes of items. -/
def mkP (l : Set) : Set := grpS l.length (stS (symS 17) l)
theorem mkP_eq (l : Set) (h : rgt l) (hl : l.length ≤ 100000) : mkP l = mkS l := by
  obtain ⟨s, p⟩ := stS_law sym_ms l hl (RR.of h)
  exact grp_mk h p (by rw [p.length_eq]; exact s) _ (by rw [p.length_eq]; exact Nat.le_refl _)
end Go.Vm.B
set_option maxRecDepth 100000
namespace Go.Vm.B
open Go.Fl
attribute [local irreducible] IntKind.wrap Go.Fl.fl tnD
variable {P : Program} {E : Env}
def zit : List D := [.lst [], .complex .f64 0 0]
theorem grow_run (P : Program) (E : Env) (d : Nat) (n : Nat) (h : 0 < n) (hl : n ≤ 4294967296) : run P E T (d + 1) 104 [.nils, .d (.int .i64 (n : Int))] [] = some (.arr 0 0 0, [some (.row 2 (List.replicate n zit))]) := by
  rw [run_succ _ _ _ _ _ _ _ _ T_104]
  have e1 : ¬ ((n : Int) < 0) := by omega
  have e2 : (0 : Int) < n := by omega
  have hw0 : IntKind.i64.wrap 0 = 0 := wrap_small (by omega) (by omega)
  have hw : IntKind.i64.wrap (n : Int) = n := wrap_small (by omega) (by omega)
  have hn : n ≠ 0 := by omega
  simp -implicitDefEqProofs [v104, e1, e2, hw0, hw, zit, h, hl, hn, List.range_succ]
theorem grow0_run (P : Program) (E : Env) (d : Nat) : run P E T (d + 1) 104 [.nils, .d (.int .i64 0)] [] = some (.nils, []) := by
  rw [run_succ _ _ _ _ _ _ _ _ T_104]
  have hw0 : IntKind.i64.wrap 0 = 0 := wrap_small (by omega) (by omega)
  simp -implicitDefEqProofs [v104, hw0]
end Go.Vm.B
namespace Go.Vm.B
open Go.Fl
theorem mask68a (ts : List V) (σ : Store) (h : ts.length = 36) : forget 0 234881088 ⟨ts, σ⟩ = ⟨(gc 0 (List.zipWith (fun v b => bif b then v else .bot) ts [false, false, false, false, false, false, true, false, false, false, false, false, false, false, false, false, false, false, false, false, false, false, false, false, false, true, true, true, false, false, false, false, false, false, false, false]) σ).1, (gc 0 (List.zipWith (fun v b => bif b then v else .bot) ts [false, false, false, false, false, false, true, false, false, false, false, false, false, false, false, false, false, false, false, false, false, false, false, false, false, true, true, true, false, false, false, false, false, false, false, false]) σ).2⟩ := forget_mask 0 234881088 _ (by decide +kernel) ts σ h
theorem mask68b (ts : List V) (σ : Store) (h : ts.length = 36) : forget 0 68 ⟨ts, σ⟩ = ⟨(gc 0 (List.zipWith (fun v b => bif b then v else .bot) ts [false, false, true, false, false, false, true, false, false, false, false, false, false, false, false, false, false, false, false, false, false, false, false, false, false, false, false, false, false, false, false, false, false, false, false, false]) σ).1, (gc 0 (List.zipWith (fun v b => bif b then v else .bot) ts [false, false, true, false, false, false, true, false, false, false, false, false, false, false, false, false, false, false, false, false, false, false, false, false, false, false, false, false, false, false, false, false, false, false, false, false]) σ).2⟩ := forget_mask 0 68 _ (by decide +kernel) ts σ h
theorem mask68c (ts : List V) (σ : Store) (h : ts.length = 36) : forget 0 3593 ⟨ts, σ⟩ = ⟨(gc 0 (List.zipWith (fun v b => bif b then v else .bot) ts [true, false, false, true, false, false, false, false, false, true, true, true, false, false, false, false, false, false, false, false, false, false, false, false, false, false, false, false, false, false, false, false, false, false, false, false]) σ).1, (gc 0 (List.zipWith (fun v b => bif b then v else .bot) ts [true, false, false, true, false, false, false, false, false, true, true, true, false, false, false, false, false, false, false, false, false, false, false, false, false, false, false, false, false, false, false, false, false, false, false, false]) σ).2⟩ := forget_mask 0 3593 _ (by decide +kernel) ts σ h
theorem mask68d (ts : List V) (σ : Store) (h : ts.length = 36) : forget 0 13 ⟨ts, σ⟩ = ⟨(gc 0 (List.zipWith (fun v b => bif b then v else .bot) ts [true, false, true, true, false, false, false, false, false, false, false, false, false, false, false, false, false, false, false, false, false, false, false, false, false, false, false, false, false, false, false, false, false, false, false, false]) σ).1, (gc 0 (List.zipWith (fun v b => bif b then v else .bot) ts [true, false, true, true, false, false, false, false, false, false, false, false, false, false, false, false, false, false, false, false, false, false, false, false, false, false, false, false, false, false, false, false, false, false, false, false]) σ).2⟩ := forget_mask 0 13 _ (by decide +kernel) ts σ h
attribute [local irreducible] IntKind.wrap Go.Fl.fl tnD
variable {P : Program} {E : Env}
theorem wrap0 : IntKind.i64.wrap 0 = 0 := wrap_small (by omega) (by omega)
theorem bad2' {xs : List (List D)} (h : ∀ x ∈ xs, x.length = 2) : (∃ x, x ∈ xs ∧ ¬ x.length = 2) = False := by
  simp only [eq_iff_iff, iff_false, not_exists, not_and, Decidable.not_not]; exact h
set_option maxHeartbeats 4000000 in
theorem concat_run (P : Program) (E : Env) (d : Nat) (a b : List (List D)) (ha : ∀ x ∈ a, x.length = 2) (hb : ∀ x ∈ b, x.length = 2) (h : a.length + b.length ≤ 4294967296) (hne : 0 < a.length + b.length) :
    run P E T (d + 2) 68 [.d (.lst [[.lst a], [.lst b]])] [] = some (.arr 0 0 (a ++ b).length, [some (.row 2 (a ++ b))]) := by
  rw [run_succ _ _ _ _ _ _ _ _ T_68]
  have g1 := grow_run P E d (a.length + b.length) hne h
  have hba := bad2' ha
  have hbb := bad2' hb
  have hwa : IntKind.i64.wrap (a.length : Int) = a.length := wrap_small (by omega) (by omega)
  have hwb : IntKind.i64.wrap (b.length : Int) = b.length := wrap_small (by omega) (by omega)
  have hwab : IntKind.i64.wrap ((a.length : Int) + b.length) = a.length + b.length := wrap_small (by omega) (by omega)
  have e1 : ¬ ((a.length : Int) < 0) := by omega
  have e2 : ¬ ((a.length : Int) + b.length < 0) := by omega
  have e3 : ¬ ((b.length : Int) < 0) := by omega
  rw [Int.natCast_add] at g1
  by_cases hA : a = []
  · subst hA
    have hB : b ≠ [] := by intro e; subst e; simp at hne
    have hB' : b.length ≠ 0 := by simpa using hB
    have hB'' : ¬ 0 = b.length := by omega
    simp only [List.length_nil, Int.natCast_zero, Int.zero_add, Nat.zero_add, List.nil_append] at *
    simp -implicitDefEqProofs [v68, rounds_L, rounds_L1, rounds_L2, exB v68_0.eq_1, exB v68_1.eq_1, wrap0, wrap1, wrap2, hwb, e3, g1, hbb, hB, hB', hB'', S_104, callX, callIds, frzArgs, passArgs, -forget, mask68a, mask68b, mask68c, mask68d]
  · have hA' : a.length ≠ 0 := by simpa using hA
    have hA'' : ¬ 0 = a.length + b.length := by omega
    by_cases hB : b = []
    · subst hB
      simp only [List.length_nil, Int.natCast_zero, Int.add_zero, Nat.add_zero, List.append_nil] at *
      have hA3 : ¬ 0 = a.length := by omega
      simp -implicitDefEqProofs [v68, rounds_L, rounds_L1, rounds_L2, exB v68_0.eq_1, exB v68_1.eq_1, wrap0, wrap1, wrap2, hwa, e1, g1, hba, hA, hA', hA3, S_104, callX, callIds, frzArgs, passArgs, -forget, mask68a, mask68b, mask68c, mask68d]
    · have hB' : b.length ≠ 0 := by simpa using hB
      have hB3 : ¬ a.length = a.length + b.length := by omega
      have f1 : a.length ≤ a.length + b.length := by omega
      simp -implicitDefEqProofs [v68, rounds_L, rounds_L1, rounds_L2, exB v68_0.eq_1, exB v68_1.eq_1, wrap0, wrap1, wrap2, hwa, hwb, hwab, e1, e2, e3, g1, hba, hbb, hA, hB, hA', hB', hB3, f1, hA'', S_104, callX, callIds, frzArgs, passArgs, -forget, mask68a, mask68b, mask68c, mask68d]
set_option maxHeartbeats 4000000 in
theorem concat0_run (P : Program) (E : Env) (d : Nat) : run P E T (d + 2) 68 [.d (.lst [[.lst []], [.lst []]])] [] = some (.nils, []) := by
  rw [run_succ _ _ _ _ _ _ _ _ T_68]
  have g1 := grow0_run P E d
  have hw0 : IntKind.i64.wrap 0 = 0 := wrap_small (by omega) (by omega)
  simp -implicitDefEqProofs [v68, rounds_L, rounds_L1, rounds_L2, exB v68_0.eq_1, exB v68_1.eq_1, wrap0, wrap1, wrap2, hw0, g1, S_104, callX, callIds, frzArgs, passArgs, -forget, mask68a, mask68b, mask68c, mask68d]
end Go.Vm.B
namespace Go.Vm.B
open Go.Fl
theorem mask67a (ts : List V) (σ : Store) (h : ts.length = 77) : forget 1 14337 ⟨ts, σ⟩ = ⟨(gc 1 (List.zipWith (fun v b => bif b then v else .bot) ts [true, false, false, false, false, false, false, false, false, false, false, true, true, true, false, false, false, false, false, false, false, false, false, false, false, false, false, false, false, false, false, false, false, false, false, false, false, false, false, false, false, false, false, false, false, false, false, false, false, false, false, false, false, false, false, false, false, false, false, false, false, false, false, false, false, false, false, false, false, false, false, false, false, false, false, false, false]) σ).1, (gc 1 (List.zipWith (fun v b => bif b then v else .bot) ts [true, false, false, false, false, false, false, false, false, false, false, true, true, true, false, false, false, false, false, false, false, false, false, false, false, false, false, false, false, false, false, false, false, false, false, false, false, false, false, false, false, false, false, false, false, false, false, false, false, false, false, false, false, false, false, false, false, false, false, false, false, false, false, false, false, false, false, false, false, false, false, false, false, false, false, false, false]) σ).2⟩ := forget_mask 1 14337 _ (by decide +kernel) ts σ h
theorem mask67b (ts : List V) (σ : Store) (h : ts.length = 77) : forget 1 13 ⟨ts, σ⟩ = ⟨(gc 1 (List.zipWith (fun v b => bif b then v else .bot) ts [true, false, true, true, false, false, false, false, false, false, false, false, false, false, false, false, false, false, false, false, false, false, false, false, false, false, false, false, false, false, false, false, false, false, false, false, false, false, false, false, false, false, false, false, false, false, false, false, false, false, false, false, false, false, false, false, false, false, false, false, false, false, false, false, false, false, false, false, false, false, false, false, false, false, false, false, false]) σ).1, (gc 1 (List.zipWith (fun v b => bif b then v else .bot) ts [true, false, true, true, false, false, false, false, false, false, false, false, false, false, false, false, false, false, false, false, false, false, false, false, false, false, false, false, false, false, false, false, false, false, false, false, false, false, false, false, false, false, false, false, false, false, false, false, false, false, false, false, false, false, false, false, false, false, false, false, false, false, false, false, false, false, false, false, false, false, false, false, false, false, false, false, false]) σ).2⟩ := forget_mask 1 13 _ (by decide +kernel) ts σ h
theorem mask67c (ts : List V) (σ : Store) (h : ts.length = 77) : forget 1 193 ⟨ts, σ⟩ = ⟨(gc 1 (List.zipWith (fun v b => bif b then v else .bot) ts [true, false, false, false, false, false, true, true, false, false, false, false, false, false, false, false, false, false, false, false, false, false, false, false, false, false, false, false, false, false, false, false, false, false, false, false, false, false, false, false, false, false, false, false, false, false, false, false, false, false, false, false, false, false, false, false, false, false, false, false, false, false, false, false, false, false, false, false, false, false, false, false, false, false, false, false, false]) σ).1, (gc 1 (List.zipWith (fun v b => bif b then v else .bot) ts [true, false, false, false, false, false, true, true, false, false, false, false, false, false, false, false, false, false, false, false, false, false, false, false, false, false, false, false, false, false, false, false, false, false, false, false, false, false, false, false, false, false, false, false, false, false, false, false, false, false, false, false, false, false, false, false, false, false, false, false, false, false, false, false, false, false, false, false, false, false, false, false, false, false, false, false, false]) σ).2⟩ := forget_mask 1 193 _ (by decide +kernel) ts σ h
theorem mask67d (ts : List V) (σ : Store) (h : ts.length = 77) : forget 1 76 ⟨ts, σ⟩ = ⟨(gc 1 (List.zipWith (fun v b => bif b then v else .bot) ts [false, false, true, true, false, false, true, false, false, false, false, false, false, false, false, false, false, false, false, false, false, false, false, false, false, false, false, false, false, false, false, false, false, false, false, false, false, false, false, false, false, false, false, false, false, false, false, false, false, false, false, false, false, false, false, false, false, false, false, false, false, false, false, false, false, false, false, false, false, false, false, false, false, false, false, false, false]) σ).1, (gc 1 (List.zipWith (fun v b => bif b then v else .bot) ts [false, false, true, true, false, false, true, false, false, false, false, false, false, false, false, false, false, false, false, false, false, false, false, false, false, false, false, false, false, false, false, false, false, false, false, false, false, false, false, false, false, false, false, false, false, false, false, false, false, false, false, false, false, false, false, false, false, false, false, false, false, false, false, false, false, false, false, false, false, false, false, false, false, false, false, false, false]) σ).2⟩ := forget_mask 1 76 _ (by decide +kernel) ts σ h
theorem mask67e (ts : List V) (σ : Store) (h : ts.length = 77) : forget 1 961 ⟨ts, σ⟩ = ⟨(gc 1 (List.zipWith (fun v b => bif b then v else .bot) ts [true, false, false, false, false, false, true, true, true, true, false, false, false, false, false, false, false, false, false, false, false, false, false, false, false, false, false, false, false, false, false, false, false, false, false, false, false, false, false, false, false, false, false, false, false, false, false, false, false, false, false, false, false, false, false, false, false, false, false, false, false, false, false, false, false, false, false, false, false, false, false, false, false, false, false, false, false]) σ).1, (gc 1 (List.zipWith (fun v b => bif b then v else .bot) ts [true, false, false, false, false, false, true, true, true, true, false, false, false, false, false, false, false, false, false, false, false, false, false, false, false, false, false, false, false, false, false, false, false, false, false, false, false, false, false, false, false, false, false, false, false, false, false, false, false, false, false, false, false, false, false, false, false, false, false, false, false, false, false, false, false, false, false, false, false, false, false, false, false, false, false, false, false]) σ).2⟩ := forget_mask 1 961 _ (by decide +kernel) ts σ h
theorem mask67f (ts : List V) (σ : Store) (h : ts.length = 77) : forget 1 973 ⟨ts, σ⟩ = ⟨(gc 1 (List.zipWith (fun v b => bif b then v else .bot) ts [true, false, true, true, false, false, true, true, true, true, false, false, false, false, false, false, false, false, false, false, false, false, false, false, false, false, false, false, false, false, false, false, false, false, false, false, false, false, false, false, false, false, false, false, false, false, false, false, false, false, false, false, false, false, false, false, false, false, false, false, false, false, false, false, false, false, false, false, false, false, false, false, false, false, false, false, false]) σ).1, (gc 1 (List.zipWith (fun v b => bif b then v else .bot) ts [true, false, true, true, false, false, true, true, true, true, false, false, false, false, false, false, false, false, false, false, false, false, false, false, false, false, false, false, false, false, false, false, false, false, false, false, false, false, false, false, false, false, false, false, false, false, false, false, false, false, false, false, false, false, false, false, false, false, false, false, false, false, false, false, false, false, false, false, false, false, false, false, false, false, false, false, false]) σ).2⟩ := forget_mask 1 973 _ (by decide +kernel) ts σ h
attribute [local irreducible] IntKind.wrap Go.Fl.fl tnD
variable {P : Program} {E : Env}
def fr67a (n i : Nat) (l : Set) : Fr := ⟨[.arr 0 0 n, .bot, .bot, .bot, .bot, .bot, .bot, .bot, .bot, .bot, .bot, .arr 0 0 n, .d (.int .i64 (n : Nat)), .d (.int .i64 (i : Nat)), .bot, .bot, .bot, .bot, .bot, .bot, .bot, .bot, .bot, .bot, .bot, .bot, .bot, .bot, .bot, .bot, .bot, .bot, .bot, .bot, .bot, .bot, .bot, .bot, .bot, .bot, .bot, .bot, .bot, .bot, .bot, .bot, .bot, .bot, .bot, .bot, .bot, .bot, .bot, .bot, .bot, .bot, .bot, .bot, .bot, .bot, .bot, .bot, .bot, .bot, .bot, .bot, .bot, .bot, .bot, .bot, .bot, .bot, .bot, .bot, .bot, .bot, .bot], [some (.row 2 (setc l))]⟩
def fe67a (n : Nat) (l : Set) : Fr := ⟨[.arr 0 0 n, .bot, .bot, .bot, .bot, .bot, .bot, .bot, .bot, .bot, .bot, .bot, .bot, .bot, .bot, .bot, .bot, .bot, .bot, .bot, .bot, .bot, .bot, .bot, .bot, .bot, .bot, .bot, .bot, .bot, .bot, .bot, .bot, .bot, .bot, .bot, .bot, .bot, .bot, .bot, .bot, .bot, .bot, .bot, .bot, .bot, .bot, .bot, .bot, .bot, .bot, .bot, .bot, .bot, .bot, .bot, .bot, .bot, .bot, .bot, .bot, .bot, .bot, .bot, .bot, .bot, .bot, .bot, .bot, .bot, .bot, .bot, .bot, .bot, .bot, .bot, .bot], [some (.row 2 (setc l))]⟩
set_option maxHeartbeats 4000000 in
theorem rounds67a (g : Good P E) (d : Nat) (l : Set) (h : IT l) : ∀ (m i f : Nat), m = l.length - i → i ≤ l.length → m < f →
    rounds (exec P (run P E T (d + 5)) (refsOf T) 1 v67_0) (forget 1 14337) (forget 1 13) f (fr67a l.length i l) = some (.exit 0, fe67a l.length l) := by
  intro m
  have hsl := h.len
  induction m with
  | zero =>
    intro i f hm hi hf
    obtain ⟨f, rfl⟩ : ∃ f', f = f' + 1 := ⟨f - 1, by omega⟩
    have : i = l.length := by omega
    subst this
    rw [rounds]
    simp -implicitDefEqProofs [exB v67_0.eq_1, fr67a, fe67a, List.range_succ, List.idxOf?_cons, -forget, mask67a, mask67b, mask67c, mask67d, mask67e, mask67f]
  | succ m ih =>
    intro i f hm hi hf
    obtain ⟨f, rfl⟩ : ∃ f', f = f' + 1 := ⟨f - 1, by omega⟩
    have hlt : i < l.length := by omega
    rw [rounds, ← ih (i + 1) f (by omega) (by omega) (by omega)]
    have hx := setc_get hlt
    have hm := List.getElem_mem hlt
    have hrr := h.right _ hm
    have hr := rowRight_run P E d l[i].1 (by have := right_len hrr; omega)
    have ht := tRight_run g (d + 2) l[i].2 (h.lo _ hm) (h.hi _ hm)
    have hw : IntKind.i64.wrap ((i : Int) + 1) = (i : Int) + 1 := wrap_small (by omega) (by omega)
    have hI : ((i : Int) < l.length) := by omega
    generalize hxe : l[i] = x at *
    rw [hrr] at hr
    simp only [tn] at ht
    simp -implicitDefEqProofs [exB v67_0.eq_1, fr67a, fe67a, setc_len, hlt, hI, hx, hxe, itc, hr, ht, hw, List.range_succ, List.idxOf?_cons, -forget, mask67a, mask67b, mask67c, mask67d, mask67e, mask67f]
def acV (xs : List (List D)) : V := if xs = [] then .nils else .arr 2 0 xs.length
def acS (a b : Set) (xs : List (List D)) : Store := some (.row 2 (setc a)) :: some (.row 2 (setc b)) :: (if xs = [] then [] else [some (.row 2 xs)])
def fr67b (n i : Nat) (r : Row) (s : Int) (a b : Set) (xs : List (List D)) : Fr := ⟨[.arr 1 0 n, .bot, .bot, .bot, .bot, .bot, acV xs, .d (.int .i64 (i : Nat)), .d (.lst r.c), tn s, .bot, .bot, .bot, .bot, .bot, .bot, .bot, .bot, .bot, .bot, .bot, .bot, .bot, .bot, .bot, .bot, .bot, .bot, .bot, .bot, .bot, .bot, .bot, .bot, .bot, .bot, .bot, .bot, .bot, .bot, .bot, .bot, .bot, .bot, .bot, .bot, .bot, .bot, .bot, .bot, .bot, .bot, .bot, .bot, .bot, .bot, .bot, .bot, .bot, .bot, .bot, .bot, .bot, .bot, .bot, .bot, .bot, .bot, .bot, .bot, .bot, .bot, .bot, .bot, .bot, .bot, .bot], acS a b xs⟩
theorem tally_bound {s x t : Int} (h1 : s.natAbs + (x.natAbs + t) ≤ 1125899906842624) (ht : 0 ≤ t) : -1125899906842624 ≤ s ∧ s ≤ 1125899906842624 ∧ -1125899906842624 ≤ x ∧ x ≤ 1125899906842624 ∧ -1125899906842624 ≤ s + x ∧ s + x ≤ 1125899906842624 ∧ (s + x).natAbs + t ≤ 1125899906842624 := by omega
set_option maxHeartbeats 8000000 in
theorem rounds67b (g : Good P E) (d : Nat) (a b : Set) (hb : rgt b) (hl : b.length ≤ 4294967295) (r : Row) (hrr : r.right = true) (xs : List (List D)) : ∀ (m i f : Nat) (s : Int), m = b.length - i → i ≤ b.length → m < f → s.natAbs + asum (b.drop i) ≤ 1125899906842624 →
    rounds (exec P (run P E T (d + 6)) (refsOf T) 1 v67_1) (forget 1 961) (forget 1 973) f (fr67b b.length i r s a b xs) = some (.exit 4, fr67b b.length (i + runN r (b.drop i)) r (s + runT r (b.drop i)) a b xs) := by
  intro m
  induction m with
  | zero =>
    intro i f s hm hi hf hs
    obtain ⟨f, rfl⟩ : ∃ f', f = f' + 1 := ⟨f - 1, by omega⟩
    have : i = b.length := by omega
    subst this
    rw [rounds, List.drop_length, runN, runT, Nat.add_zero, Int.add_zero]
    by_cases hn : xs = []
    · simp -implicitDefEqProofs [exB v67_1.eq_1, fr67b, acV, acS, hn, List.range_succ, tn, List.idxOf?_cons, -forget, mask67a, mask67b, mask67c, mask67d, mask67e, mask67f]
    · simp -implicitDefEqProofs [exB v67_1.eq_1, fr67b, acV, acS, hn, List.range_succ, tn, List.idxOf?_cons, -forget, mask67a, mask67b, mask67c, mask67d, mask67e, mask67f]
  | succ m ih =>
    intro i f s hm hi hf hs
    obtain ⟨f, rfl⟩ : ∃ f', f = f' + 1 := ⟨f - 1, by omega⟩
    have hlt : i < b.length := by omega
    have hx := setc_get hlt
    have hm := List.getElem_mem hlt
    have hrx := hb _ hm
    have hc := rowSame_run P E d b[i].1 r (by have := right_len hrx; omega) (by have := right_len hrr; omega)
    have hw : IntKind.i64.wrap ((i : Int) + 1) = (i : Int) + 1 := wrap_small (by omega) (by omega)
    have hI : ((i : Int) < b.length) := by omega
    rw [List.drop_eq_getElem_cons hlt] at hs ⊢
    have hd := asum_nonneg (b.drop (i + 1))
    rw [runN, runT]
    rw [asum] at hs
    obtain ⟨b1, b2, b3, b4, b5, b6, b7⟩ := tally_bound hs hd
    have ha := tAdd_run g d s b[i].2 b1 b2 b3 b4 b5 b6
    have ihh := ih (i + 1) f (s + b[i].2) (by omega) (by omega) (by omega) b7
    rw [rounds]
    generalize hxe : b[i] = x at *
    rw [hrx, hrr] at hc
    by_cases h0 : Row.cmp x.1 r = 0
    · rw [if_pos h0, if_pos h0, show i + (runN r (b.drop (i + 1)) + 1) = i + 1 + runN r (b.drop (i + 1)) by omega, show s + (x.2 + runT r (b.drop (i + 1))) = s + x.2 + runT r (b.drop (i + 1)) by omega, ← ihh]
      rw [h0] at hc
      simp only [tn] at ha
      by_cases hn : xs = []
      · simp -implicitDefEqProofs [exB v67_1.eq_1, fr67b, acV, acS, hn, setc_len, hlt, hI, hx, hxe, itc, hc, ha, hw, List.range_succ, tn, List.idxOf?_cons, -forget, mask67a, mask67b, mask67c, mask67d, mask67e, mask67f]
      · simp -implicitDefEqProofs [exB v67_1.eq_1, fr67b, acV, acS, hn, setc_len, hlt, hI, hx, hxe, itc, hc, ha, hw, List.range_succ, tn, List.idxOf?_cons, -forget, mask67a, mask67b, mask67c, mask67d, mask67e, mask67f]
    · rw [if_neg h0, if_neg h0, Nat.add_zero, Int.add_zero]
      rw [decide_eq_false h0] at hc
      by_cases hn : xs = []
      · simp -implicitDefEqProofs [exB v67_1.eq_1, fr67b, acV, acS, hn, setc_len, hlt, hI, hx, hxe, itc, hc, hw, List.range_succ, tn, List.idxOf?_cons, -forget, mask67a, mask67b, mask67c, mask67d, mask67e, mask67f]
      · simp -implicitDefEqProofs [exB v67_1.eq_1, fr67b, acV, acS, hn, setc_len, hlt, hI, hx, hxe, itc, hc, hw, List.range_succ, tn, List.idxOf?_cons, -forget, mask67a, mask67b, mask67c, mask67d, mask67e, mask67f]
end Go.Vm.B
namespace Go.Vm.B
open Go.Fl
attribute [local irreducible] IntKind.wrap Go.Fl.fl tnD
variable {P : Program} {E : Env}
def ac1V (xs : List (List D)) : V := if xs = [] then .nils else .arr 1 0 xs.length
def ac1S (a : Set) (xs : List (List D)) : Store := some (.row 2 (setc a)) :: (if xs = [] then [] else [some (.row 2 xs)])
def fr67c (n i : Nat) (a b : Set) (xs : List (List D)) : Fr := ⟨[.arr 1 0 n, .bot, .bot, .bot, .bot, .bot, acV xs, .d (.int .i64 (i : Nat)), .bot, .bot, .bot, .bot, .bot, .bot, .bot, .bot, .bot, .bot, .bot, .bot, .bot, .bot, .bot, .bot, .bot, .bot, .bot, .bot, .bot, .bot, .bot, .bot, .bot, .bot, .bot, .bot, .bot, .bot, .bot, .bot, .bot, .bot, .bot, .bot, .bot, .bot, .bot, .bot, .bot, .bot, .bot, .bot, .bot, .bot, .bot, .bot, .bot, .bot, .bot, .bot, .bot, .bot, .bot, .bot, .bot, .bot, .bot, .bot, .bot, .bot, .bot, .bot, .bot, .bot, .bot, .bot, .bot], acS a b xs⟩
def fe67c (a : Set) (xs : List (List D)) : Fr := ⟨[.bot, .bot, .bot, .bot, .bot, .bot, ac1V xs, .bot, .bot, .bot, .bot, .bot, .bot, .bot, .bot, .bot, .bot, .bot, .bot, .bot, .bot, .bot, .bot, .bot, .bot, .bot, .bot, .bot, .bot, .bot, .bot, .bot, .bot, .bot, .bot, .bot, .bot, .bot, .bot, .bot, .bot, .bot, .bot, .bot, .bot, .bot, .bot, .bot, .bot, .bot, .bot, .bot, .bot, .bot, .bot, .bot, .bot, .bot, .bot, .bot, .bot, .bot, .bot, .bot, .bot, .bot, .bot, .bot, .bot, .bot, .bot, .bot, .bot, .bot, .bot, .bot, .bot], ac1S a xs⟩
theorem runT_le (r : Row) : ∀ l : Set, (runT r l).natAbs ≤ asum l
  | [] => by simp [runT, asum]
  | y :: t => by
    have := runT_le r t
    have h2 := asum_nonneg t
    rw [runT, asum]; split <;> omega
theorem asum_drop (l : Set) (i : Nat) : asum (l.drop i) ≤ asum l := by
  have h : asum l = asum (l.take i) + asum (l.drop i) := by rw [← asum_append, List.take_append_drop]
  have := asum_nonneg (l.take i); omega
set_option maxHeartbeats 8000000 in
theorem rounds67c (g : Good P E) (d : Nat) (a b : Set) (hb : rgt b) (hl : b.length ≤ 4294967295) (hs : asum b ≤ 1125899906842624) : ∀ (k i f : Nat) (xs : List (List D)), b.length - i ≤ k → i ≤ b.length → k < f → xs.length + (b.length - i) ≤ 4294967295 →
    rounds (exec P (run P E T (d + 6)) (refsOf T) 1 v67_2) (forget 1 193) (forget 1 76) f (fr67c b.length i a b xs) = some (.exit 2, fe67c a (xs ++ setc (grpS k (b.drop i)))) := by
  intro k
  induction k with
  | zero =>
    intro i f xs hk hi hf hx
    obtain ⟨f, rfl⟩ : ∃ f', f = f' + 1 := ⟨f - 1, by omega⟩
    have : i = b.length := by omega
    subst this
    rw [rounds, grpS, show setc ([] : Set) = [] from rfl, List.append_nil]
    by_cases hn : xs = []
    · simp -implicitDefEqProofs [exB v67_2.eq_1, fr67c, fe67c, acV, acS, ac1V, ac1S, hn, List.range_succ, List.idxOf?_cons, -forget, mask67a, mask67b, mask67c, mask67d, mask67e, mask67f]
    · simp -implicitDefEqProofs [exB v67_2.eq_1, fr67c, fe67c, acV, acS, ac1V, ac1S, hn, List.range_succ, List.idxOf?_cons, -forget, mask67a, mask67b, mask67c, mask67d, mask67e, mask67f]
  | succ k ih =>
    intro i f xs hk hi hf hxl
    obtain ⟨f, rfl⟩ : ∃ f', f = f' + 1 := ⟨f - 1, by omega⟩
    by_cases hlt : i < b.length
    · have hx := setc_get hlt
      have hm := List.getElem_mem hlt
      have hrx := hb _ hm
      have hI : ((i : Int) < b.length) := by omega
      have hin := rounds67b g d a b hb hl b[i].1 hrx xs _ i LOOPS 0 rfl hi (by unfold LOOPS; omega) (by have := asum_drop b i; simp; omega)
      have hT := runT_le b[i].1 (b.drop i)
      have hT2 := asum_drop b i
      have hN : 1 ≤ runN b[i].1 (b.drop i) := by
        rw [List.drop_eq_getElem_cons hlt, runN, if_pos (cmp_self (Row.right_v hrx))]; omega
      have hN2 : i + runN b[i].1 (b.drop i) ≤ b.length := by
        have := runN_le b[i].1 (b.drop i); rw [List.length_drop] at this; omega
      have hgr : grpS (k + 1) (b.drop i) = (if runT b[i].1 (b.drop i) = 0 then [] else [(b[i].1, runT b[i].1 (b.drop i))]) ++ grpS k (b.drop (i + runN b[i].1 (b.drop i))) := by
        have e : b.drop i = b[i] :: b.drop (i + 1) := List.drop_eq_getElem_cons hlt
        generalize hN0 : runN b[i].1 (b.drop i) = N at *
        generalize hT0 : runT b[i].1 (b.drop i) = S at *
        have e2 : b.drop (i + N) = (b.drop i).drop N := by rw [List.drop_drop]
        rw [e2]
        rw [e] at hN0 hT0 ⊢
        rw [grpS, hN0, hT0]
      rw [hgr]
      rw [Int.zero_add] at hin
      generalize runN b[i].1 (b.drop i) = N at *
      generalize runT b[i].1 (b.drop i) = S at *
      have hne := tn_neq0 (P := P) 53 S (by omega) (by omega)
      have hit := item_run P E (d + 4) b[i].1 S (right_ne hrx) (by have := right_len hrx; omega)
      rw [rounds]
      simp only [fr67b, acV, acS] at hin
      generalize hxe : b[i] = x at *
      by_cases hS : S = 0
      · rw [if_pos hS, List.nil_append]
        have ihh := ih (i + N) f xs (by omega) (by omega) (by omega) (by omega)
        rw [← ihh]
        rw [hS] at hne hin
        simp only [← tn_zero] at hne hin
        by_cases hn : xs = []
        · simp only [hn, if_true, if_pos] at hin
          simp -implicitDefEqProofs [exB v67_2.eq_1, fr67c, acV, acS, hn, hlt, hI, setc_len, hx, hxe, itc, hin, hne, List.range_succ, List.idxOf?_cons, -forget, mask67a, mask67b, mask67c, mask67d, mask67e, mask67f]
        · simp only [hn, if_false] at hin
          simp -implicitDefEqProofs [exB v67_2.eq_1, fr67c, acV, acS, hn, hlt, hI, setc_len, hx, hxe, itc, hin, hne, List.range_succ, List.idxOf?_cons, -forget, mask67a, mask67b, mask67c, mask67d, mask67e, mask67f]
      · rw [if_neg hS]
        have ihh := ih (i + N) f (xs ++ [itc (x.1, S)]) (by omega) (by omega) (by omega) (by simp; omega)
        rw [show xs ++ setc ([(x.1, S)] ++ grpS k (b.drop (i + N))) = xs ++ [itc (x.1, S)] ++ setc (grpS k (b.drop (i + N))) by simp [setc], ← ihh]
        simp only [← tn_zero] at hin
        simp only [tn] at hne hin hit
        by_cases hn : xs = []
        · simp only [hn, if_true, if_pos] at hin
          simp -implicitDefEqProofs [exB v67_2.eq_1, fr67c, acV, acS, hn, hS, hlt, hI, setc_len, hx, hxe, itc, itv, tn, hin, hne, hit, List.range_succ, List.idxOf?_cons, -forget, mask67a, mask67b, mask67c, mask67d, mask67e, mask67f]
        · simp only [hn, if_false] at hin
          have hl1 : xs.length + 1 ≤ 4294967296 := by omega
          simp -implicitDefEqProofs [exB v67_2.eq_1, fr67c, acV, acS, hn, hS, hl1, hlt, hI, setc_len, hx, hxe, itc, itv, tn, hin, hne, hit, List.range_succ, List.idxOf?_cons, -forget, mask67a, mask67b, mask67c, mask67d, mask67e, mask67f]
    · have : i = b.length := by omega
      subst this
      have hg : grpS (k + 1) (b.drop b.length) = [] := by rw [List.drop_length, grpS]
      rw [rounds, hg, show setc ([] : Set) = [] from rfl, List.append_nil]
      by_cases hn : xs = []
      · simp -implicitDefEqProofs [exB v67_2.eq_1, fr67c, fe67c, acV, acS, ac1V, ac1S, hn, List.range_succ, List.idxOf?_cons, -forget, mask67a, mask67b, mask67c, mask67d, mask67e, mask67f]
      · simp -implicitDefEqProofs [exB v67_2.eq_1, fr67c, fe67c, acV, acS, ac1V, ac1S, hn, List.range_succ, List.idxOf?_cons, -forget, mask67a, mask67b, mask67c, mask67d, mask67e, mask67f]
end Go.Vm.B
