/- A part of the proofs of the statements BatchTells and BatchNumbers: Vs10, Vs11, Vs12, Vs13. Conditions: none of its own. -/
import Derived.Test.YtoaafpebcdfniaaGreatT03
import Derived.Laws.AppendOwn
set_option linter.unusedSimpArgs false
set_option linter.unusedVariables false
set_option linter.unnecessarySimpa false
set_option linter.all false
namespace Go.Vm
variable {P : Program} {w : World} {N : Nat → Prop} {L : Lmap} {σ : Store} {nxt : Nat} {ts : List V} {a : Act}

def nilVal : Nat → Value
  | 0 => .pointer none
  | 1 => .slice none 0 0
  | 2 => .map none
  | 3 => .nilFunc
  | _ => .nilIface

theorem nilOf_eval {k : Nat} {x : Operand} (h : nilOf k x = true) : a.eval x = nilVal k ∧ (∃ c, x = .const c) := by
  unfold nilOf at h
  split at h <;> first | exact ⟨rfl, _, rfl⟩ | cases h

/-- What a comparison with nil looks at. -/
def nilLike (k : Nat) (c : Value) (b : Bool) : Prop := match k with
  | 0 => ∃ p, c = .pointer p ∧ b = p.isNone
  | 1 => ∃ p n m, c = .slice p n m ∧ b = p.isNone
  | 2 => c = .map none ∧ b = true
  | 3 => (c = .nilFunc ∧ b = true) ∨ ∃ f p q, c = .func f p q ∧ b = false
  | 4 => c = .nilIface ∧ b = true
  | _ => False

theorem nilRun_like {k : Nat} {v : V} {c : Value} {b : Bool} (h : RS w N L v c) (hb : nilRun k v = some b) : nilLike k c b := by
  unfold nilRun at hb
  split at hb
  · injection hb with hb; subst hb; have := val_rel h (u := .pointer none) rfl; subst this; exact ⟨none, rfl, rfl⟩
  · injection hb with hb; subst hb; have := val_rel h (u := .slice none 0 0) rfl; subst this; exact ⟨none, 0, 0, rfl, rfl⟩
  · injection hb with hb; subst hb; exact ⟨val_rel h (u := .map none) rfl, rfl⟩
  · injection hb with hb; subst hb; exact .inl ⟨val_rel h (u := .nilFunc) rfl, rfl⟩
  · injection hb with hb; subst hb; exact ⟨val_rel h (u := .nilIface) rfl, rfl⟩
  · injection hb with hb; subst hb; obtain ⟨l, _, rfl⟩ := rs_ptr h; exact ⟨_, rfl, rfl⟩
  · injection hb with hb; subst hb
    have h2 := rs_of h (by simp)
    cases h2; exact ⟨_, rfl, rfl⟩
  · injection hb with hb; subst hb; obtain ⟨p, q, rfl⟩ := rs_clo h; exact .inr ⟨_, p, q, rfl, rfl⟩
  · split at hb
    · cases hb
    · injection hb with hb; subst hb
      have h2 := rs_of h (by simp)
      cases h2 with
      | arr _ _ _ l ad cap hl hc hle ha => exact ⟨ad, _, _, rfl, by rw [ha (by omega)]; rfl⟩
  · split at hb
    · cases hb
    · rename_i xs hne
      injection hb with hb; subst hb
      have h2 := rs_of h (by simp)
      cases h2 with
      | d _ _ h2 =>
        cases h2 with
        | lst _ ad cap s cs hcap hsl ha hr =>
          obtain ⟨b, o, e, _⟩ := ha (by rintro rfl; simp at hne)
          exact ⟨ad, _, _, rfl, by rw [e]; rfl⟩
  · cases hb

theorem equal_nil {k : Nat} {t : TypeId} {c : Value} {b : Bool} (hk : kindP P t = some k) (h : nilLike k c b) : (Op.equal t c (nilVal k)).run P w = .ok b w ∧ (Op.equal t (nilVal k) c).run P w = .ok b w := by
  unfold kindP at hk
  split at hk
  · rename_i e hu
    injection hk with hk; subst hk
    obtain ⟨p, rfl, rfl⟩ := h
    cases p with
    | none =>
      constructor <;>
      · show (Op.equalIn (9999 + 1) t (.pointer none) (.pointer none)).run P w = _
        rw [Op.equalIn]; simp only [Sem.run_bind, run_underlying hu, Result.andThen_ok, Sem.run_pure]
    | some ad =>
      constructor
      · show (Op.equalIn (9999 + 1) t (.pointer (some ad)) (.pointer none)).run P w = _
        rw [Op.equalIn]; simp only [Sem.run_bind, run_underlying hu, Result.andThen_ok, Sem.run_pure]; rfl
      · show (Op.equalIn (9999 + 1) t (.pointer none) (.pointer (some ad))).run P w = _
        rw [Op.equalIn]; simp only [Sem.run_bind, run_underlying hu, Result.andThen_ok, Sem.run_pure]
  · rename_i e hu
    injection hk with hk; subst hk
    obtain ⟨p, n, m, rfl, rfl⟩ := h
    cases p with
    | none =>
      constructor
      · show (Op.equalIn (9999 + 1) t (.slice none n m) (.slice none 0 0)).run P w = _
        rw [Op.equalIn]; simp only [Sem.run_bind, run_underlying hu, Result.andThen_ok, Sem.run_pure]
      · show (Op.equalIn (9999 + 1) t (.slice none 0 0) (.slice none n m)).run P w = _
        rw [Op.equalIn]; simp only [Sem.run_bind, run_underlying hu, Result.andThen_ok, Sem.run_pure]
    | some ad =>
      constructor
      · show (Op.equalIn (9999 + 1) t (.slice (some ad) n m) (.slice none 0 0)).run P w = _
        rw [Op.equalIn]; simp only [Sem.run_bind, run_underlying hu, Result.andThen_ok, Sem.run_pure]; rfl
      · show (Op.equalIn (9999 + 1) t (.slice none 0 0) (.slice (some ad) n m)).run P w = _
        rw [Op.equalIn]; simp only [Sem.run_bind, run_underlying hu, Result.andThen_ok, Sem.run_pure]
  · rename_i e1 e2 hu
    injection hk with hk; subst hk
    obtain ⟨rfl, rfl⟩ := h
    constructor <;>
    · show (Op.equalIn (9999 + 1) t (.map none) (.map none)).run P w = _
      rw [Op.equalIn]; simp only [Sem.run_bind, run_underlying hu, Result.andThen_ok, Sem.run_pure]; rfl
  · rename_i e1 e2 e3 hu
    injection hk with hk; subst hk
    rcases h with ⟨rfl, rfl⟩ | ⟨f, p, q, rfl, rfl⟩
    · constructor <;>
      · show (Op.equalIn (9999 + 1) t .nilFunc .nilFunc).run P w = _
        rw [Op.equalIn]; simp only [Sem.run_bind, run_underlying hu, Result.andThen_ok, Sem.run_pure]
    · constructor
      · show (Op.equalIn (9999 + 1) t (.func f p q) .nilFunc).run P w = _
        rw [Op.equalIn]; simp only [Sem.run_bind, run_underlying hu, Result.andThen_ok, Sem.run_pure]
      · show (Op.equalIn (9999 + 1) t .nilFunc (.func f p q)).run P w = _
        rw [Op.equalIn]; simp only [Sem.run_bind, run_underlying hu, Result.andThen_ok, Sem.run_pure]
  · rename_i ms hu
    injection hk with hk; subst hk
    obtain ⟨rfl, rfl⟩ := h
    constructor <;>
    · show (Op.equalIn (9999 + 1) t .nilIface .nilIface).run P w = _
      rw [Op.equalIn]; simp only [Sem.run_bind, run_underlying hu, Result.andThen_ok, Sem.run_pure]
  · cases hk

theorem binOp_nil {k : Nat} {t : TypeId} {c : Value} {b : Bool} (hk : kindP P t = some k) (h : nilLike k c b) (neg : Bool) :
    (binOp (bif neg then .neq else .eql) t c (nilVal k)).run P w = .ok (.bool (bif neg then !b else b)) w ∧ (binOp (bif neg then .neq else .eql) t (nilVal k) c).run P w = .ok (.bool (bif neg then !b else b)) w := by
  obtain ⟨h1, h2⟩ := equal_nil (w := w) hk h
  have e1 : ∀ p q : Value, (nilLike k p b ∧ q = nilVal k) ∨ (p = nilVal k ∧ nilLike k q b) → binOp (bif neg then .neq else .eql) t p q = (bif neg then (do pure (.bool (!(← Op.equal t p q)))) else (do pure (.bool (← Op.equal t p q)))) := by
    intro p q hpq
    have hp : (∃ x, p = .pointer x) ∨ (∃ x n m, p = .slice x n m) ∨ p = .map none ∨ p = .nilFunc ∨ (∃ f x y, p = .func f x y) ∨ p = .nilIface := by
      have like : ∀ z, nilLike k z b → (∃ x, z = .pointer x) ∨ (∃ x n m, z = .slice x n m) ∨ z = .map none ∨ z = .nilFunc ∨ (∃ f x y, z = .func f x y) ∨ z = .nilIface := by
        intro z hz
        unfold nilLike at hz
        split at hz
        · obtain ⟨x, e, _⟩ := hz; exact .inl ⟨x, e⟩
        · obtain ⟨x, n, m, e, _⟩ := hz; exact .inr (.inl ⟨x, n, m, e⟩)
        · exact .inr (.inr (.inl hz.1))
        · rcases hz with hz | ⟨f, x, y, e, _⟩
          · exact .inr (.inr (.inr (.inl hz.1)))
          · exact .inr (.inr (.inr (.inr (.inl ⟨f, x, y, e⟩))))
        · exact .inr (.inr (.inr (.inr (.inr hz.1))))
        · exact hz.elim
      rcases hpq with ⟨hz, _⟩ | ⟨rfl, _⟩
      · exact like p hz
      · unfold nilVal
        split
        · exact .inl ⟨_, rfl⟩
        · exact .inr (.inl ⟨_, _, _, rfl⟩)
        · exact .inr (.inr (.inl rfl))
        · exact .inr (.inr (.inr (.inl rfl)))
        · exact .inr (.inr (.inr (.inr (.inr rfl))))
    rcases hp with ⟨x, rfl⟩ | ⟨x, n, m, rfl⟩ | rfl | rfl | ⟨f, x, y, rfl⟩ | rfl <;> cases neg <;> rfl
  constructor
  · rw [e1 _ _ (.inl ⟨h, rfl⟩)]
    cases neg <;> simp only [cond_true, cond_false, Sem.run_bind, h1, Result.andThen_ok, Sem.run_pure]
  · rw [e1 _ _ (.inr ⟨rfl, h⟩)]
    cases neg <;> simp only [cond_true, cond_false, Sem.run_bind, h2, Result.andThen_ok, Sem.run_pure]

theorem eqGuard_nil {k : Nat} {t : TypeId} {c : Value} {b : Bool} (h : nilLike k c b) (op : BinOp) {x y : Operand} (hc : (∃ z, x = .const z) ∨ ∃ z, y = .const z) :
    (eqGuard op t x y c (nilVal k)).run P w = .ok () w ∧ (eqGuard op t x y (nilVal k) c).run P w = .ok () w := by
  have key : ∀ p q : Value, (∀ cs, p ≠ .agg cs) → (eqGuard op t x y p q).run P w = .ok () w := by
    intro p q hp
    unfold eqGuard
    cases hop : (!(op matches .eql | .neq)) with
    | true => simp
    | false =>
      simp only [Bool.false_eq_true, if_false, Sem.run_bind, Sem.run_pure, Result.andThen_ok, pure_bind]
      split
      · rcases hc with ⟨z, rfl⟩ | ⟨z, rfl⟩
        · simp
        · cases x <;> simp
      · exact absurd rfl (hp _)
      · rfl
  refine ⟨key _ _ fun cs => ?_, key _ _ fun cs => ?_⟩
  · rintro rfl
    unfold nilLike at h
    split at h
    · obtain ⟨x, e, _⟩ := h; cases e
    · obtain ⟨x, n, m, e, _⟩ := h; cases e
    · cases h.1
    · rcases h with h | ⟨f, x, y, e, _⟩
      · cases h.1
      · cases e
    · cases h.1
    · exact h
  · unfold nilVal; split <;> simp

theorem good_isnil {o : Oper} {t u : TypeId} {x y z : Operand} {z' : O} {k : Nat} {neg b : Bool} (ho : o.op = .binOp (bif neg then .neq else .eql) t x y u) (hk : kindP P t = some k) (hxy : (nilOf k y = true ∧ z = x) ∨ (nilOf k x = true ∧ z = y)) (hz : oOf z = some z')
    (hs : SRel w N L σ) (hf : FRel w N L ts a) (hb : nilRun k (z'.ev ts) = some b) : Good P (execOp a.eval o) w N L σ nxt (.d (.bool (bif neg then !b else b))) [] := by
  have hl := nilRun_like (ev_rel hf hz) hb
  refine good_pure (c := .bool (bif neg then !b else b)) ?_ hs (.inr (.d _ _ (.bool _)))
  rcases hxy with ⟨hn, rfl⟩ | ⟨hn, rfl⟩
  · obtain ⟨e1, e2⟩ := nilOf_eval (a := a) hn
    simp only [execOp, ho, Sem.run_bind, e1, (eqGuard_nil (P := P) (w := w) (t := t) hl (bif neg then .neq else .eql) (x := z) (y := y) (.inr e2)).1, (binOp_nil (w := w) hk hl neg).1, Result.andThen_ok, Sem.run_pure]
  · obtain ⟨e1, e2⟩ := nilOf_eval (a := a) hn
    simp only [execOp, ho, Sem.run_bind, e1, (eqGuard_nil (P := P) (w := w) (t := t) hl (bif neg then .neq else .eql) (x := x) (y := z) (.inl e2)).2, (binOp_nil (w := w) hk hl neg).2, Result.andThen_ok, Sem.run_pure]

end Go.Vm
namespace Go.Vm
variable {P : Program} {w : World} {N : Nat → Prop} {L : Lmap} {σ : Store} {nxt : Nat} {ts : List V} {a : Act}

/-! ### build -/
theorem zeroP_rel {t : TypeId} {z : List V} (h : zeroP P t = some z) : ∃ i v, P.info? t = some i ∧ i.zero = some v ∧ CRel w N L z v.cells := by
  unfold zeroP at h
  cases hi : P.info? t with
  | none => rw [hi] at h; simp at h
  | some i =>
    rw [hi] at h
    cases hzv : i.zero with
    | none => simp [hzv] at h
    | some v =>
      simp [hzv] at h
      obtain ⟨x, hx, rfl⟩ := h
      have hrv := rv_const (w := w) (N := N) (L := L) hx
      refine ⟨i, v, rfl, hzv, cells_rel hrv ?_⟩
      intro vs e; subst e; cases hrv; simp [vOf, ofVal] at hx

theorem good_build {o : Oper} {t : TypeId} {parts : Array (Nat × Operand)} {z : List V} {ps : List (Nat × Nat × O)} {cs : List V} {pl : Nat → Option (Nat × Nat)} (ho : o.op = .build t parts) (hz : zeroP P t = some z)
    (hb : ∀ v i mp, P.info? t = some i → i.zero = some v → P.built t mp = Instr.fill pl v.cells mp) (hl : ps.length = parts.toList.length)
    (hp : ∀ (i : Nat) p q, parts.toList[i]? = some p → ps[i]? = some q → pl p.1 = some (q.1, q.2.1) ∧ oOf p.2 = some q.2.2) (hs : SRel w N L σ) (hf : FRel w N L ts a)
    (h : fill z (ps.map fun (o, s, x) => (o, s, x.ev ts)) = some cs) : Good P (execOp a.eval o) w N L σ nxt (.agg cs) [] := by
  obtain ⟨i, v, hi, hzv, hcr⟩ := zeroP_rel (w := w) (N := N) (L := L) hz
  obtain ⟨cs', hc', hcr'⟩ := fill_sim pl (parts.map fun (i, x) => (i, a.eval x)).toList (ps.map fun (o, s, x) => (o, s, x.ev ts)) z cs v.cells (by simp [hl]) (fun i p q hp1 hq1 => by
    simp only [Array.toList_map, List.getElem?_map] at hp1 hq1
    cases hpp : parts.toList[i]? with
    | none => rw [hpp] at hp1; simp at hp1
    | some p0 =>
      cases hqq : ps[i]? with
      | none => rw [hqq] at hq1; simp at hq1
      | some q0 =>
        rw [hpp] at hp1; rw [hqq] at hq1
        simp at hp1 hq1; subst hp1; subst hq1
        obtain ⟨h1, h2⟩ := hp i p0 q0 hpp hqq
        exact ⟨h1, ev_rel hf h2⟩) hcr h
  refine good_pure (c := .agg cs') ?_ hs (.inr (.agg cs cs' hcr'.1 hcr'.2.1 hcr'.2.2))
  have := run_build (P := P) w t (parts.map fun (i, x) => (i, a.eval x)) cs' (by rw [hb v i _ hi hzv]; exact hc')
  simp only [execOp, ho, Sem.run_bind, this, Result.andThen_ok, Sem.run_pure]

/-! ### A slice's literal -/
theorem flat_get {α : Type} (z : List α) (s : Nat) (hs : z.length = s) : ∀ (len i : Nat), i < len * s → ((List.replicate len z).flatten)[i]? = z[i % s]?
  | 0, i, h => by omega
  | len + 1, i, h => by
    rw [List.replicate_succ, List.flatten_cons]
    by_cases hi : i < s
    · rw [List.getElem?_append_left (by omega), Nat.mod_eq_of_lt hi]
    · rw [List.getElem?_append_right (by omega), hs]
      rw [Nat.succ_mul] at h
      rw [flat_get z s hs len (i - s) (by omega), Nat.mod_eq_sub_mod (by omega : s ≤ i)]

theorem flat_len {α : Type} (z : List α) (s : Nat) (hs : z.length = s) (len : Nat) : ((List.replicate len z).flatten).length = len * s := by
  simp [hs]

theorem crel_rep {z : List V} {zc : Array Value} {s : Nat} (h : CRel w N L z zc) (hs : z.length = s) (h0 : 0 < s) (len : Nat) :
    CRel w N L ((List.replicate len z).flatten) ((Array.range (len * s)).map (fun j => zc[j % zc.size]!)) := by
  have hzs : zc.size = s := by rw [h.1, hs]
  have key : ∀ i c, ((Array.range (len * s)).map (fun j => zc[j % zc.size]!))[i]? = some c → i < len * s ∧ zc[i % s]? = some c := by
    intro i c hc
    rw [Array.getElem?_map] at hc
    by_cases hi : i < len * s
    · refine ⟨hi, ?_⟩
      have : (Array.range (len * s))[i]? = some i := by simp [hi]
      rw [this] at hc
      simp only [Option.map_some] at hc
      rw [hzs] at hc
      have hm : i % s < zc.size := by rw [hzs]; exact Nat.mod_lt _ h0
      rw [getElem!_pos zc (i % s) hm] at hc
      rw [Array.getElem?_eq_getElem hm]; exact hc
    · rw [Array.getElem?_eq_none (by simp; omega)] at hc; simp at hc
  refine ⟨by rw [flat_len _ _ hs]; simp, fun i c hc => ?_, fun i v c hv hc => ?_⟩
  · obtain ⟨_, h1⟩ := key i c hc
    exact h.2.1 _ _ h1
  · obtain ⟨h2, h1⟩ := key i c hc
    rw [flat_get z s hs len i h2] at hv
    exact h.2.2 _ _ _ hv h1

theorem chunk_get (ds : List D) (s len : Nat) (i : Nat) (x : List D) (h : ((List.range len).map fun i => (ds.drop (i * s)).take s)[i]? = some x) : i < len ∧ x = (ds.drop (i * s)).take s := by
  rw [List.getElem?_map] at h
  by_cases hi : i < len
  · rw [List.getElem?_range hi] at h; simp at h; exact ⟨hi, h.symm⟩
  · rw [List.getElem?_eq_none (by simp; omega)] at h; simp at h

theorem mul_lt_of {i len s : Nat} (h : i < len) : i * s + s ≤ len * s := by
  have := Nat.mul_le_mul_right s h
  rwa [Nat.succ_mul] at this

/-- A new row, some rows having been frozen. -/
theorem left_row {s len : Nat} {xs : List (List D)} {cells : Array Value} {e : TypeId} {ids : List Nat} {w' : World} {cap : Nat} (hs : SRel w N L σ) (hn : L nxt = none) (h0 : 0 < s) (hcap : xs.length ≤ cap) (hsz : cells.size = cap * s) (hlen : len ≤ xs.length)
    (hw : w' = { w with heap := w.heap.push (.cells cells e (0, 0)), drawn := w'.drawn })
    (hx : ∀ (i : Nat) (x : List D), xs[i]? = some x → x.length = s)
    (hy : ∀ (i : Nat) (x : List D) (k : Nat) (y : D), xs[i]? = some x → x[k]? = some y → ∃ c, cells[i * s + k]? = some c ∧ RD w (fun b => N b ∨ Fz L σ ids b) y c) :
    Left w N L σ nxt (.arr nxt 0 len) (frz σ ids ++ [(nxt, some (.row s xs))]) (.slice (some ⟨w.heap.size, 0, none⟩) len cap) w' (fun b => N b ∨ Fz L σ ids b) (upd L nxt ⟨w.heap.size, 0, s, cap⟩) := by
  have fz := freeze_good hs ids
  have hheap : w'.heap = w.heap.push (.cells cells e (0, 0)) := by rw [hw]
  have hold : ∀ b, (N b ∨ Fz L σ ids b) → w'.heap[b]? = w.heap[b]? := fun b hb => by
    rw [hheap, Array.getElem?_push, if_neg (by have := fz.2.lt b hb; omega)]
  have hm := upd_mono (l := ⟨w.heap.size, 0, s, cap⟩) hn
  have key := new_good fz.2 hn (cs := cells) (e := e) (o := .row s xs) (l := ⟨w.heap.size, 0, s, cap⟩) rfl (w' := w') hw
    ⟨⟨w.heap.size, 0, s, cap⟩, cells, e, by simp [upd], rfl, h0, hcap, by rw [hheap]; simp, by simpa using hsz, hx, fun i x k y hi hk => by
      obtain ⟨c, hc, hr⟩ := hy i x k y hi hk
      exact ⟨c, by simpa using hc, hr.mono (fun _ h => h) hold⟩⟩
  refine ⟨?_, hm, ?_, .inr ?_, fun id l h => ?_⟩
  · rw [app_append]; exact fz.1.trans key.1
  · rw [app_append]; exact key.2
  · have := RV.arr (w := w') (N := fun b => N b ∨ Fz L σ ids b) (L := upd L nxt ⟨w.heap.size, 0, s, cap⟩) nxt 0 len ⟨w.heap.size, 0, s, cap⟩ (some ⟨w.heap.size, 0, none⟩) cap (by simp [upd]) (by simp) (by omega) (fun _ => by simp)
    exact this
  · unfold upd at h
    split at h
    · rename_i e1; exact .inr ⟨_, List.mem_append.2 (.inr (List.mem_singleton.2 rfl)), e1.symm, by omega⟩
    · exact .inl h

theorem good_lit {o : Oper} {t e : TypeId} {s len : Nat} {parts : Array (Nat × Operand)} {z : List V} {ps : List (Nat × O)} {cs : List V} {ds : List D} (ho : o.op = .buildSlice t len parts) (hu : P.underlying t = some (.slice e)) (hsz : szP P e = some s) (h0 : s ≠ 0)
    (h24 : ¬ len * s > 2 ^ 24) (hz : zeroP P e = some z) (hzl : z.length = s) (hl : ps.length = parts.toList.length)
    (hp : ∀ (i : Nat) p q, parts.toList[i]? = some p → ps[i]? = some q → p.1 = q.1 ∧ oOf p.2 = some q.2) (hs : SRel w N L σ) (hf : FRel w N L ts a) (hn : L nxt = none)
    (h : fill ((List.replicate len z).flatten) (ps.map fun (i, x) => (i * s, s, x.ev ts)) = some cs) (hd : cs.mapM (freezeCell σ) = some ds) :
    Good P (execOp a.eval o) w N L σ nxt (.arr nxt 0 len) (frz σ (frozenIds (.agg cs)) ++ [(nxt, some (.row s ((List.range len).map fun i => (ds.drop (i * s)).take s)))]) := by
  obtain ⟨i, v, hi, hzv, hcr⟩ := zeroP_rel (w := w) (N := N) (L := L) hz
  have hcr2 := crel_rep hcr hzl (by omega) len
  obtain ⟨cs', hc', hcr'⟩ := fill_sim (fun i => some (i * s, s)) (parts.map fun (i, x) => (i, a.eval x)).toList (ps.map fun (i, x) => (i * s, s, x.ev ts)) _ cs _ (by simp [hl]) (fun i p q hp1 hq1 => by
    simp only [Array.toList_map, List.getElem?_map] at hp1 hq1
    cases hpp : parts.toList[i]? with
    | none => rw [hpp] at hp1; simp at hp1
    | some p0 =>
      cases hqq : ps[i]? with
      | none => rw [hqq] at hq1; simp at hq1
      | some q0 =>
        rw [hpp] at hp1; rw [hqq] at hq1
        simp at hp1 hq1; subst hp1; subst hq1
        obtain ⟨h1, h2⟩ := hp i p0 q0 hpp hqq
        exact ⟨by simp [h1], ev_rel hf h2⟩) hcr2 h
  have hcl : cs.length = len * s := by
    have fl : ∀ (ps : List (Nat × Nat × V)) (vs vs' : List V), fill vs ps = some vs' → vs'.length = vs.length := by
      intro ps
      induction ps with
      | nil => intro vs vs' h; simp [fill] at h; rw [h]
      | cons p ps ih =>
        intro vs vs' h
        simp only [fill] at h
        split at h
        · cases h
        · rename_i hc
          rw [ih _ _ h, splice_length _ _ _ (by omega)]
    rw [fl _ _ _ h, flat_len _ _ hzl]
  obtain ⟨hdl, hdr⟩ := mapM_freeze (ids := frozenIds (.agg cs)) hs hcr' hd (fun v hv => frozen_cells (v := .agg cs) hv)
  refine ⟨_, _, _, _, .inl ?_, left_row (w' := { w with heap := w.heap.push (.cells cs' e (0, 0)) }) (cells := cs') (e := e) (cap := len) (xs := (List.range len).map fun i => (ds.drop (i * s)).take s) hs hn (by omega) (by simp) (by rw [hcr'.1]; exact hcl) (by simp) rfl (fun i x hx => ?_) (fun i x k y hx hk => ?_)⟩
  · have hzc : v.cells.size = s := by rw [hcr.1, hzl]
    have e1 : (if len * s = 0 then pure #[] else (do pure (← zeroValue e).cells) : Sem (Array Value)).run P w = .ok (if len * s = 0 then #[] else v.cells) w := by
      split
      · rfl
      · simp [run_zeroValue hi hzv]
    have e2 : (Array.range (len * s)).map (fun j => (if len * s = 0 then #[] else v.cells)[j % (if len * s = 0 then (#[] : Array Value) else v.cells).size]!) = (Array.range (len * s)).map (fun j => v.cells[j % v.cells.size]!) := by
      split
      · rename_i hz0; simp [hz0]
      · rfl
    simp only [execOp, ho, Instr.buildSlice, Sem.run_bind, run_underlying hu, szP_some hsz, Result.andThen_ok, Sem.run_ite]
    rw [if_neg h24]
    simp only [Sem.run_bind, Sem.run_pure, Result.andThen_ok, pure_bind]
    by_cases hz0 : len * s = 0
    · simp only [hz0, if_true, Sem.run_bind, Sem.run_pure, Result.andThen_ok]
      rw [hz0] at hc'
      have hr0 : ∀ f : Nat → Value, (Array.range 0).map f = #[] := fun f => Array.eq_empty_of_size_eq_zero (by simp)
      simp only [hr0] at hc' ⊢
      simp at hc' ⊢
      rw [hc']
      simp [run_newRow]
    · simp only [hz0, if_false, Sem.run_bind, run_zeroValue hi hzv, Sem.run_pure, Result.andThen_ok]
      simp at hc' ⊢
      rw [hc']
      simp [run_newRow]
  · obtain ⟨hil, rfl⟩ := chunk_get ds s len i x hx
    have := mul_lt_of (s := s) hil
    simp; omega
  · obtain ⟨hil, rfl⟩ := chunk_get ds s len i x hx
    rw [List.getElem?_take] at hk
    split at hk
    · rw [List.getElem?_drop] at hk
      have := mul_lt_of (s := s) hil
      have hlt : i * s + k < cs'.size := by rw [hcr'.1]; omega
      exact ⟨cs'[i * s + k], Array.getElem?_eq_getElem hlt, hdr _ _ _ hk (Array.getElem?_eq_getElem hlt)⟩
    · cases hk

end Go.Vm
namespace Go.Vm
variable {P : Program} {w : World} {N : Nat → Prop} {L : Lmap} {σ : Store} {nxt : Nat} {ts : List V} {a : Act}

/-! ### What is appended or copied -/
/-- A source's cells: as many elements, of so many cells each. -/
structure Src (P : Program) (w : World) (N : Nat → Prop) (s : Nat) (ys : List (List D)) (c : Value) (news : List Value) : Prop where
  len : ∀ w', (Builtin.lenOf c).run P w' = .ok ys.length w'
  cells : ∀ d, (Builtin.firstCells s ys.length c).run P { w with drawn := d } = .ok news.toArray { w with drawn := d }
  size : news.length = ys.length * s
  el : ∀ (i : Nat) (x : List D) (k : Nat) (y : D), ys[i]? = some x → x[k]? = some y → ∃ v, news[i * s + k]? = some v ∧ RD w N y v

theorem all_len {ys : List (List D)} {s : Nat} (h : (!ys.all (·.length == s)) = false) : ∀ x ∈ ys, x.length = s := by
  intro x hx
  have h2 : ys.all (·.length == s) = true := by simpa using h
  rw [List.all_eq_true] at h2
  simpa using h2 x hx

theorem div_mod_lt {j n s : Nat} (h : j < n * s) : j / s < n ∧ j % s < s ∧ j / s * s + j % s = j := by
  have hs : 0 < s := by
    rcases Nat.eq_zero_or_pos s with h0 | h0
    · subst h0; omega
    · exact h0
  exact ⟨(Nat.div_lt_iff_lt_mul hs).2 h, Nat.mod_lt _ hs, by rw [Nat.mul_comm]; exact Nat.div_add_mod j s⟩

theorem src_slice {s : Nat} {ys : List (List D)} {v : V} {c : Value} (hs : SRel w N L σ) (hv : RS w N L v c) (h : elems σ v = some ys) (hall : ∀ x ∈ ys, x.length = s) (h0 : 0 < s) (n : Nat) (hn : n ≤ ys.length) :
    ∃ news : List Value, news.length = n * s ∧ (∀ d, (Builtin.firstCells s n c).run P { w with drawn := d } = .ok news.toArray { w with drawn := d }) ∧ (∀ w', (Builtin.lenOf c).run P w' = .ok ys.length w') ∧
      ∀ (i : Nat) (x : List D) (k : Nat) (y : D), i < n → ys[i]? = some x → x[k]? = some y → ∃ v, news[i * s + k]? = some v ∧ RD w N y v := by
  obtain ⟨ad, cap, s', cs, rfl, hcap, hlen, ha, hr⟩ := elems_rel hs hv h
  have hel : ∀ j, j < n * s → ∃ x y, ys[j / s]? = some x ∧ x[j % s]? = some y := by
    intro j hj
    obtain ⟨h1, h2, _⟩ := div_mod_lt hj
    have h3 : ys[j / s]? = some (ys[j / s]'(by omega)) := List.getElem?_eq_getElem (by omega)
    have h4 := hall _ (List.getElem_mem (show j / s < ys.length by omega))
    exact ⟨_, _, h3, List.getElem?_eq_getElem (by omega)⟩
  refine ⟨(List.range (n * s)).map fun j => cs (j / s) (j % s), by simp, fun d => ?_, fun w' => rfl, fun i x k y hi hx hk => ?_⟩
  · by_cases hn0 : n = 0
    · subst hn0
      cases ad with
      | none => simp [Builtin.firstCells]
      | some ad => simp [Builtin.firstCells, loadCells, loadCellsFrom]
    · have hne : ys ≠ [] := by rintro rfl; simp at hn; omega
      obtain ⟨b, o, rfl, _, hc⟩ := ha hne
      have hss : s' = s := by
        have hx0 : ys[0]? = some (ys[0]'(by omega)) := List.getElem?_eq_getElem (by omega)
        have := hlen _ _ hx0
        have := hall _ (List.getElem_mem (show 0 < ys.length by omega))
        omega
      subst hss
      have := run_loadCells (P := P) { w with drawn := d } ⟨b, o, none⟩ (n * s') (fun j => cs (j / s') (j % s')) (fun j hj => by
        obtain ⟨x, y, hx, hy⟩ := hel j hj
        have := hc _ _ _ _ hx hy
        rw [add_plain]
        rw [(div_mod_lt hj).2.2] at this
        exact this)
      simp only [Builtin.firstCells]
      exact this
  · have hks : k < s := by
      have h1 := hall _ (List.mem_of_getElem? hx)
      rcases Nat.lt_or_ge k x.length with h2 | h2
      · omega
      · rw [List.getElem?_eq_none h2] at hk; cases hk
    have hlt : i * s + k < n * s := by have := mul_lt_of (s := s) hi; omega
    refine ⟨cs i k, ?_, hr i x k y hx hk⟩
    rw [List.getElem?_map, List.getElem?_range hlt]
    simp only [Option.map_some]
    rw [Nat.add_comm, Nat.add_mul_div_right _ _ h0, Nat.div_eq_of_lt hks, Nat.zero_add, Nat.add_mul_mod_self_right, Nat.mod_eq_of_lt hks]

theorem src_of {s : Nat} {ys : List (List D)} {v : V} {c : Value} (hs : SRel w N L σ) (hv : RS w N L v c) (h : srcElems σ v = some ys) (hall : ∀ x ∈ ys, x.length = s) (h0 : 0 < s) : ∃ news, Src P w N s ys c news := by
  have other : elems σ v = some ys → ∃ news, Src P w N s ys c news := by
    intro he
    obtain ⟨news, h1, h2, h3, h4⟩ := src_slice (P := P) hs hv he hall h0 ys.length (Nat.le_refl _)
    refine ⟨news, h3, h2, h1, fun i x k y hx hk => h4 i x k y ?_ hx hk⟩
    rcases Nat.lt_or_ge i ys.length with h | h
    · exact h
    · rw [List.getElem?_eq_none h] at hx; cases hx
  cases v with
  | d x =>
    cases x with
    | str q =>
      simp [srcElems] at h
      have hc := rs_str hv
      subst hc
      have hlen : ys.length = q.size := by rw [← h]; simp
      refine ⟨q.data.toList.map fun b => .int .u8 b.toNat, fun w' => by simp [Builtin.lenOf, hlen], fun d => ?_, ?_, fun i x k y hx hk => ?_⟩
      · have e1 : (q.extract 0 q.size).data = q.data := by
          have := ByteArray.extract_zero_size (b := q)
          rw [this]
        simp only [Builtin.firstCells, hlen, e1, Sem.run_pure]
        congr 1
        apply Array.ext'; simp
      · by_cases hq : ys = []
        · subst hq
          have : q.data.toList = [] := by simpa using h
          simp [this]
        · cases ys with
          | nil => exact absurd rfl hq
          | cons x r =>
            have h1 := hall x (List.mem_cons_self ..)
            have : x.length = 1 := by
              cases hql : q.data.toList with
              | nil => rw [hql] at h; simp at h
              | cons b l => rw [hql] at h; simp at h; rw [← h.1]; rfl
            have hs1 : s = 1 := by omega
            subst hs1
            have := congrArg List.length h
            simp at this ⊢
            omega
      · rw [← h, List.getElem?_map] at hx
        cases hq : q.data.toList[i]? with
        | none => rw [hq] at hx; simp at hx
        | some b =>
          rw [hq] at hx; simp at hx; subst hx
          have hs1 : s = 1 := by
            have := hall [D.int .u8 b.toNat] (by rw [← h]; exact List.mem_map.2 ⟨b, List.mem_of_getElem? hq, rfl⟩)
            simpa using this.symm
          subst hs1
          cases k with
          | zero => simp at hk; subst hk; exact ⟨.int .u8 b.toNat, by simp [List.getElem?_map, hq], .int _ _⟩
          | succ k => simp at hk
    | lst xs => exact other (by simpa [srcElems] using h)
    | _ => simp [srcElems, elems] at h
  | nils => exact other (by simpa [srcElems] using h)
  | arr id off len => exact other (by simpa [srcElems] using h)
  | _ => simp [srcElems, elems] at h

/-! ### The run of append -/
theorem cut_ge (w : World) (need old : Nat) (e : TypeId) : need ≤ grownCap w need old e := by unfold grownCap; simp [Question.cut]

section
variable {t u ty e : TypeId} {i : TypeInfo} {z : Value} {d : TypeDesc}

theorem run_app_room (ht : P.underlying t = some (.slice e)) (hu : P.underlying u = some d) (hd : (∃ e', d = .slice e') ∨ d = .string) (hi : P.info? e = some i) {base : Option Addr} {sLen sCap n : Nat} {c : Value} {news : List Value}
    (hl : ∀ w', (Builtin.lenOf c).run P w' = .ok n w') (hc : (Builtin.firstCells i.size n c).run P w = .ok news.toArray w) (hroom : sLen + n ≤ sCap) :
    (Builtin.append_ #[t, u] ty #[.slice base sLen sCap, c]).run P w = (match base with | some ad => ((storeCells (ad.add (sLen * i.size)) news).run P w).andThen fun _ w' => .ok (.slice base (sLen + n) sCap) w' | none => .ok (.slice base (sLen + n) sCap) w) := by
  cases base with
  | none => rcases hd with ⟨e', rfl⟩ | rfl <;> simp [Builtin.append_, run_underlying ht, run_underlying hu, sizeOf, typeInfo, hi, hl, hroom, hc]
  | some ad => rcases hd with ⟨e', rfl⟩ | rfl <;> simp [Builtin.append_, run_underlying ht, run_underlying hu, sizeOf, typeInfo, hi, hl, hroom, hc]

theorem run_app_grow (ht : P.underlying t = some (.slice e)) (hu : P.underlying u = some d) (hd : (∃ e', d = .slice e') ∨ d = .string) (hi : P.info? e = some i) (hz : i.zero = some z) {base : Option Addr} {sLen sCap n : Nat} {c : Value} {olds news : List Value}
    (hl : ∀ w', (Builtin.lenOf c).run P w' = .ok n w') (hc : (Builtin.firstCells i.size n c).run P { w with drawn := w.drawn + 1 } = .ok news.toArray { w with drawn := w.drawn + 1 })
    (ho : (Builtin.firstCells i.size sLen (.slice base sLen sCap)).run P { w with drawn := w.drawn + 1 } = .ok olds.toArray { w with drawn := w.drawn + 1 })
    (hg : sCap < sLen + n) (h63 : ((sLen + n : Nat) : Int) ≤ 9223372036854775807) (hfit : Builtin.nextslicecap (sLen + n) sCap * i.bytes ≤ 281474976710656) :
    (Builtin.append_ #[t, u] ty #[.slice base sLen sCap, c]).run P w =
      .ok (.slice (some ⟨w.heap.size, 0, none⟩) (sLen + n) (grownCap w (sLen + n) sCap e))
        { w with heap := w.heap.push (.cells (olds.toArray ++ news.toArray ++ Builtin.zeroCells z.cells (grownCap w (sLen + n) sCap e - (sLen + n))) e (0, 0)), drawn := w.drawn + 1 } := by
  have hn : ¬ (sLen + n ≤ sCap) := by omega
  have h63' : ¬ (9223372036854775807 < ((sLen : Int) + (n : Int))) := by omega
  have h48' : ¬ (281474976710656 < Builtin.nextslicecap (sLen + n) sCap * i.bytes) := by omega
  have hc' : (Builtin.firstCells i.size n c).run P w.drew = .ok news.toArray w.drew := hc
  have ho' : (Builtin.firstCells i.size sLen (.slice base sLen sCap)).run P w.drew = .ok olds.toArray w.drew := ho
  have key : (Builtin.append_ #[t, u] ty #[.slice base sLen sCap, c]).run P w =
      .ok (.slice (some ⟨w.heap.size, 0, none⟩) (sLen + n) (grownCap w (sLen + n) sCap e))
        (w.drew.alloc (.cells (olds.toArray ++ (news.toArray ++ Builtin.zeroCells z.cells (grownCap w (sLen + n) sCap e - (sLen + n)))) e)) := by
    rcases hd with ⟨e', rfl⟩ | rfl <;> simp [Builtin.append_, run_underlying ht, run_underlying hu, sizeOf, typeInfo, zeroValue, hi, hz, hl, hn, h63', h48', Question.forced, hc', ho', newRow, grownCap]
  rw [key, Array.append_assoc]; rfl

theorem run_appz_room (ht : P.underlying t = some (.slice e)) {k : IntKind} (hu : P.underlying u = some (.int k)) (hi : P.info? e = some i) (hz : i.zero = some z) {base : Option Addr} {sLen sCap n : Nat} {k' : IntKind} {m : Int} (hm : IntKind.i64.wrap m = n)
    (hb : n * i.bytes ≤ 281474976710656) (hs0 : i.size ≠ 0) (hroom : sLen + n ≤ sCap) :
    (Builtin.append_ #[t, u] ty #[.slice base sLen sCap, .int k' m]).run P w = (match base with | some ad => ((storeCells (ad.add (sLen * i.size)) (if n = 0 then [] else (Builtin.zeroCells z.cells n).toList)).run P w).andThen fun _ w' => .ok (.slice base (sLen + n) sCap) w' | none => .ok (.slice base (sLen + n) sCap) w) := by
  have h1 : ¬ ((n : Int) < 0) := by omega
  have h2 : ¬ (281474976710656 < (n : Int) * (i.bytes : Int)) := by
    have : ((n * i.bytes : Nat) : Int) ≤ 281474976710656 := by omega
    simpa using this
  cases base with
  | none =>
    by_cases hn : n = 0
    · subst hn; have hr0 : sLen ≤ sCap := by omega
      simp [Builtin.append_, run_underlying ht, run_underlying hu, sizeOf, typeInfo, zeroValue, hi, hz, _root_.Go.asInt, asIntOf, hm, hr0, h2]
    · have hmul : n * i.size ≠ 0 := Nat.mul_ne_zero hn hs0
      simp [Builtin.append_, run_underlying ht, run_underlying hu, sizeOf, typeInfo, zeroValue, hi, hz, _root_.Go.asInt, asIntOf, hm, hroom, h1, h2, hn, hs0, hmul]
  | some ad =>
    by_cases hn : n = 0
    · subst hn; have hr0 : sLen ≤ sCap := by omega
      simp [Builtin.append_, run_underlying ht, run_underlying hu, sizeOf, typeInfo, zeroValue, hi, hz, _root_.Go.asInt, asIntOf, hm, hr0, h2]
    · have hmul : n * i.size ≠ 0 := Nat.mul_ne_zero hn hs0
      simp [Builtin.append_, run_underlying ht, run_underlying hu, sizeOf, typeInfo, zeroValue, hi, hz, _root_.Go.asInt, asIntOf, hm, hroom, h1, h2, hn, hs0, hmul]

theorem run_appz_grow (ht : P.underlying t = some (.slice e)) {k : IntKind} (hu : P.underlying u = some (.int k)) (hi : P.info? e = some i) (hz : i.zero = some z) {base : Option Addr} {sLen sCap n : Nat} {k' : IntKind} {m : Int} (hm : IntKind.i64.wrap m = n) {olds : List Value}
    (ho : (Builtin.firstCells i.size sLen (.slice base sLen sCap)).run P { w with drawn := w.drawn + 1 } = .ok olds.toArray { w with drawn := w.drawn + 1 })
    (hb : n * i.bytes ≤ 281474976710656) (hs0 : i.size ≠ 0) (hg : sCap < sLen + n) (hn0 : n ≠ 0) (h63 : ((sLen + n : Nat) : Int) ≤ 9223372036854775807) (hfit : Builtin.nextslicecap (sLen + n) sCap * i.bytes ≤ 281474976710656) :
    (Builtin.append_ #[t, u] ty #[.slice base sLen sCap, .int k' m]).run P w =
      .ok (.slice (some ⟨w.heap.size, 0, none⟩) (sLen + n) (grownCap w (sLen + n) sCap e))
        { w with heap := w.heap.push (.cells (olds.toArray ++ Builtin.zeroCells z.cells n ++ Builtin.zeroCells z.cells (grownCap w (sLen + n) sCap e - (sLen + n))) e (0, 0)), drawn := w.drawn + 1 } := by
  have h1 : ¬ ((n : Int) < 0) := by omega
  have h2 : ¬ (281474976710656 < (n : Int) * (i.bytes : Int)) := by
    have : ((n * i.bytes : Nat) : Int) ≤ 281474976710656 := by omega
    simpa using this
  have hn : ¬ (sLen + n ≤ sCap) := by omega
  have h63' : ¬ (9223372036854775807 < ((sLen : Int) + (n : Int))) := by omega
  have h48' : ¬ (281474976710656 < Builtin.nextslicecap (sLen + n) sCap * i.bytes) := by omega
  have ho' : (Builtin.firstCells i.size sLen (.slice base sLen sCap)).run P w.drew = .ok olds.toArray w.drew := ho
  have key : (Builtin.append_ #[t, u] ty #[.slice base sLen sCap, .int k' m]).run P w =
      .ok (.slice (some ⟨w.heap.size, 0, none⟩) (sLen + n) (grownCap w (sLen + n) sCap e))
        (w.drew.alloc (.cells (olds.toArray ++ (Builtin.zeroCells z.cells n ++ Builtin.zeroCells z.cells (grownCap w (sLen + n) sCap e - (sLen + n)))) e)) := by
    have hmul : n * i.size ≠ 0 := Nat.mul_ne_zero hn0 hs0
    simp [Builtin.append_, run_underlying ht, run_underlying hu, sizeOf, typeInfo, zeroValue, hi, hz, _root_.Go.asInt, asIntOf, hm, h1, h2, hn, h63', h48', Question.forced, ho', newRow, grownCap, hmul]
  rw [key, Array.append_assoc]; rfl
end

end Go.Vm
namespace Go.Vm
variable {P : Program} {w : World} {N : Nat → Prop} {L : Lmap} {σ : Store} {nxt : Nat} {ts : List V} {a : Act}

theorem nxt_none (hs : SRel w N L σ) (hn : L nxt = none) : σ.get nxt = none := by
  cases h : σ.get nxt with
  | none => rfl
  | some o => obtain ⟨l, hl⟩ := obj_loc hs h; rw [hn] at hl; cases hl

/-- An object is let go. -/
theorem kill_good (hs : SRel w N L σ) (id : Nat) : Evo w N L σ w N L (σ.put id none) ∧ SRel w N L (σ.put id none) := by
  have ownb : ∀ b, Own L (σ.put id none) b → Own L σ b := by
    rintro b ⟨id2, o2, l2, hg2, ho2, hl2, e⟩
    rw [get_put] at hg2
    split at hg2
    · cases hg2
    · exact ⟨id2, o2, l2, hg2, ho2, hl2, e⟩
  refine ⟨⟨rfl, rfl, rfl, fun _ => rfl, Nat.le_refl _, fun _ _ _ => rfl, fun _ h => h, fun _ h => .inl h, fun b hb => .inr (ownb b hb)⟩, ?_⟩
  constructor
  · intro id2 o2 hg2
    rw [get_put] at hg2
    split at hg2
    · cases hg2
    · exact hs.obj id2 o2 hg2
  · exact fun b hb h => hs.apart b hb (ownb b h)
  · intro id1 id2 o1 o2 l1 l2 hg1 hg2
    rw [get_put] at hg1 hg2
    split at hg1
    · cases hg1
    · split at hg2
      · cases hg2
      · exact hs.inj id1 id2 o1 o2 l1 l2 hg1 hg2
  · exact hs.lt

/-- A row goes on under a new number, in the same block. -/
theorem swap_good (hs : SRel w N L σ) {id : Nat} {o o' : Obj} {l l' : Loc} (hg : σ.get id = some o) (ho : o.owned = true) (ho' : o'.owned = true) (hl : L id = some l) (hn : L nxt = none) (hb : l'.blk = l.blk) {cs : Array Value}
    (hr : ORel (w.setRow l.blk cs) N (upd L nxt l') nxt o') : Evo w N L σ (w.setRow l.blk cs) N (upd L nxt l') ((σ.put id none).put nxt (some o')) ∧ SRel (w.setRow l.blk cs) N (upd L nxt l') ((σ.put id none).put nxt (some o')) := by
  have hown : Own L σ l.blk := ⟨id, o, l, hg, ho, hl, rfl⟩
  have hne : id ≠ nxt := by rintro rfl; rw [hl] at hn; cases hn
  have ownb : ∀ b, Own (upd L nxt l') ((σ.put id none).put nxt (some o')) b → Own L σ b := by
    rintro b ⟨id2, o2, l2, hg2, ho2, hl2, e⟩
    rw [get_put, get_put] at hg2
    unfold upd at hl2
    split at hg2
    · rename_i e1; rw [if_pos e1] at hl2; injection hl2 with hl2; subst hl2; rw [← e, hb]; exact hown
    · rename_i e1
      rw [if_neg e1] at hl2
      split at hg2
      · cases hg2
      · exact ⟨id2, o2, l2, hg2, ho2, hl2, e⟩
  have other : ∀ b, ¬ Own L σ b → (w.setRow l.blk cs).heap[b]? = w.heap[b]? := fun b hb => setRow_other w l.blk b cs (fun e => hb (e ▸ hown))
  refine ⟨⟨rfl, rfl, rfl, cold_setRow w _ _, by simp, fun b _ hb => other b hb, fun _ h => h, fun _ h => .inl h, fun b hb => .inr (ownb b hb)⟩, ?_⟩
  constructor
  · intro id2 o2 hg2
    rw [get_put, get_put] at hg2
    split at hg2
    · rename_i e1; subst e1; injection hg2 with hg2; subst hg2; exact hr
    · split at hg2
      · cases hg2
      · rename_i e1 e2
        refine (hs.obj id2 o2 hg2).mono (fun _ h => h) (fun b hb => other b (hs.apart b hb)) (upd_mono hn) (fun h1 l2 hl2 => setRow_other w l.blk l2.blk cs fun e => ?_)
        exact e2 (hs.inj id2 id o2 o l2 l hg2 hg h1 ho hl2 hl e)
  · exact fun b hb h => hs.apart b hb (ownb b h)
  · intro id1 id2 o1 o2 l1 l2 hg1 hg2 ho1 ho2 hl1 hl2 e
    rw [get_put, get_put] at hg1 hg2
    unfold upd at hl1 hl2
    split at hg1
    · rename_i e1
      rw [if_pos e1] at hl1; injection hl1 with hl1; subst hl1
      split at hg2
      · rename_i e2; rw [e1, e2]
      · rename_i e2
        rw [if_neg e2] at hl2
        split at hg2
        · cases hg2
        · rename_i e3
          exact absurd (hs.inj id2 id o2 o l2 l hg2 hg ho2 ho hl2 hl (by omega)) e3
    · rename_i e1
      rw [if_neg e1] at hl1
      split at hg1
      · cases hg1
      · rename_i e3
        split at hg2
        · rename_i e2
          rw [if_pos e2] at hl2; injection hl2 with hl2; subst hl2
          exact absurd (hs.inj id1 id o1 o l1 l hg1 hg ho1 ho hl1 hl (by omega)) e3
        · rename_i e2
          rw [if_neg e2] at hl2
          split at hg2
          · cases hg2
          · exact hs.inj id1 id2 o1 o2 l1 l2 hg1 hg2 ho1 ho2 hl1 hl2 e
  · exact fun b hb => by have := hs.lt b hb; simpa using this

theorem getElem?_app {α : Type} (xs ys : List α) (i : Nat) : (xs ++ ys)[i]? = if i < xs.length then xs[i]? else ys[i - xs.length]? := by
  by_cases h : i < xs.length
  · rw [if_pos h, List.getElem?_append_left h]
  · rw [if_neg h, List.getElem?_append_right (by omega)]

/-- What stands in a block behind an append: elements that were there, elements that are new. -/
theorem row_app {s : Nat} {xs ys : List (List D)} {cells : Array Value} {news : List Value} {base : Nat} (hlen : ∀ (i : Nat) (x : List D), xs[i]? = some x → x.length = s) (hall : ∀ x ∈ ys, x.length = s)
    (hy : ∀ (i : Nat) (x : List D) (k : Nat) (y : D), xs[i]? = some x → x[k]? = some y → ∃ c, cells[base + (i * s + k)]? = some c ∧ RD w N y c) (hnl : news.length = ys.length * s)
    (hn : ∀ (i : Nat) (x : List D) (k : Nat) (y : D), ys[i]? = some x → x[k]? = some y → ∃ v, news[i * s + k]? = some v ∧ RD w N y v) {cells' : Array Value}
    (hc1 : ∀ j, j < base + xs.length * s → cells'[j]? = cells[j]?) (hc2 : ∀ j, j < ys.length * s → cells'[base + xs.length * s + j]? = news[j]?) :
    (∀ (i : Nat) (x : List D), (xs ++ ys)[i]? = some x → x.length = s) ∧
    ∀ (i : Nat) (x : List D) (k : Nat) (y : D), (xs ++ ys)[i]? = some x → x[k]? = some y → ∃ c, cells'[base + (i * s + k)]? = some c ∧ RD w N y c := by
  have h1 : ∀ (i : Nat) (x : List D), (xs ++ ys)[i]? = some x → x.length = s := by
    intro i x hx
    rw [getElem?_app] at hx
    split at hx
    · exact hlen i x hx
    · exact hall x (List.mem_of_getElem? hx)
  refine ⟨h1, fun i x k y hx hk => ?_⟩
  have hks : k < s := by
    have := h1 i x hx
    rcases Nat.lt_or_ge k x.length with h2 | h2
    · omega
    · rw [List.getElem?_eq_none h2] at hk; cases hk
  rw [getElem?_app] at hx
  split at hx
  · rename_i hi
    obtain ⟨c, hc, hr⟩ := hy i x k y hx hk
    have := mul_lt_of (s := s) hi
    exact ⟨c, by rw [hc1 _ (by omega)]; exact hc, hr⟩
  · rename_i hi
    obtain ⟨v, hv, hr⟩ := hn _ x k y hx hk
    have hiy : i - xs.length < ys.length := by
      rcases Nat.lt_or_ge (i - xs.length) ys.length with h2 | h2
      · exact h2
      · rw [List.getElem?_eq_none h2] at hx; cases hx
    have h3 := mul_lt_of (s := s) hiy
    have h4 : i * s = xs.length * s + (i - xs.length) * s := by rw [← Nat.add_mul]; congr 1; omega
    refine ⟨v, ?_, hr⟩
    rw [← hv, ← hc2 _ (by omega)]
    congr 1; omega

theorem small_bound {n bytes : Nat} (h : small n bytes = true) : n ≤ 4398046511104 ∧ bytes ≤ 4096 ∧ n * bytes ≤ 140737488355328 := by
  unfold small at h
  rw [Bool.or_eq_true, Bool.and_eq_true, Bool.and_eq_true] at h
  rcases h with h | h
  · have h1 : n ≤ 4294967296 := by simpa using h.1
    have h2 : bytes ≤ 4096 := by simpa using h.2
    have := Nat.mul_le_mul h1 h2
    exact ⟨by omega, h2, by omega⟩
  · have h1 : n ≤ 4398046511104 := by simpa using h.1
    have h2 : bytes ≤ 32 := by simpa using h.2
    have := Nat.mul_le_mul h1 h2
    exact ⟨h1, by omega, by omega⟩
theorem small_mono {n m bytes : Nat} (h : small n bytes = true) (hm : m ≤ n) : small m bytes = true := by
  unfold small at h ⊢
  rw [Bool.or_eq_true, Bool.and_eq_true, Bool.and_eq_true] at h ⊢
  rcases h with h | h
  · have h1 : n ≤ 4294967296 := by simpa using h.1
    exact Or.inl ⟨by simp; omega, h.2⟩
  · have h1 : n ≤ 4398046511104 := by simpa using h.1
    exact Or.inr ⟨by simp; omega, h.2⟩

/-- Where an append finds room. -/
theorem append_room {s bytes : Nat} {av v : V} {δ : Delta} {ys : List (List D)} {base : Option Addr} {sLen sCap : Nat} {news : List Value} (hs : SRel w N L σ) (hn : (∃ o, (nxt, o) ∈ δ) → L nxt = none) (hv : RS w N L av (.slice base sLen sCap)) (h : appendV σ nxt s bytes av ys = some (v, δ)) (hne : ys ≠ [])
    (hnl : news.length = ys.length * s) (h1 : ∀ u ∈ news, one u) (hel : ∀ (i : Nat) (x : List D) (k : Nat) (y : D), ys[i]? = some x → x[k]? = some y → ∃ v, news[i * s + k]? = some v ∧ RD w N y v) (hroom : sLen + ys.length ≤ sCap) :
    ∃ ad w' N' L', base = some ad ∧ (storeCells (ad.add (sLen * s)) news).run P w = .ok () w' ∧ Left w N L σ nxt v δ (.slice base (sLen + ys.length) sCap) w' N' L' := by
  have hyl : 0 < ys.length := by cases ys with | nil => exact absurd rfl hne | cons _ _ => simp
  unfold appendV at h
  rw [if_neg (by omega)] at h
  split at h
  · cases h
  · rename_i hall0
    have hall := all_len (by simpa using hall0)
    cases av with
    | nils =>
      have h2 := rs_of hv (by simp)
      cases h2; omega
    | arr id off len =>
      have h2 := rs_of hv (by simp)
      cases h2 with
      | arr _ _ _ l _ _ hl hc hle ha =>
        simp only at h
        cases hg : σ.get id with
        | none => rw [hg] at h; simp at h
        | some ob =>
          rw [hg] at h
          cases ob with
          | row s' xs =>
            simp only at h
            obtain ⟨l2, cells, e, hl2, hls, h0, hcap, hh, hz, hlenx, hy⟩ := hs.obj id _ hg
            rw [hl] at hl2; injection hl2 with hl2; subst hl2
            split at h
            · cases h
            · rename_i hss
              have hss : s' = s := by simpa using hss
              subst hss
              have hb := ha (by omega)
              subst hb
              simp only [hls] at hv ha ⊢
              have hcapm : (off + sLen + ys.length) * s' ≤ l.cap * s' := Nat.mul_le_mul_right _ (by omega)
              rw [Nat.add_mul, Nat.add_mul] at hcapm
              have hst := run_storeCells_at (P := P) l.blk (l.base + off * s' + sLen * s') e news 0 cells w hh (by rw [hz, hnl]; omega) h1
              simp only [Nat.add_zero] at hst
              have hwr : (storeCells ((⟨l.blk, l.base + off * s', none⟩ : Addr).add (sLen * s')) news).run P w = .ok () (w.setRow l.blk (splice cells.toList (l.base + off * s' + sLen * s') news).toArray) := by
                rw [add_plain]; exact hst
              have hsp : ∀ j, (splice cells.toList (l.base + off * s' + sLen * s') news)[j]? = if l.base + off * s' + sLen * s' ≤ j ∧ j < l.base + off * s' + sLen * s' + news.length then news[j - (l.base + off * s' + sLen * s')]? else cells[j]? := by
                intro j
                rw [splice_get _ _ _ (by simp [hz, hnl]; omega)]; simp
              have hspl : (splice cells.toList (l.base + off * s' + sLen * s') news).length = cells.size := by rw [splice_length _ _ _ (by simp [hz, hnl]; omega)]; simp
              have keepN : ∀ b, N b → (w.setRow l.blk (splice cells.toList (l.base + off * s' + sLen * s') news).toArray).heap[b]? = w.heap[b]? := fun b hb => setRow_other w l.blk b _ (fun e2 => hs.apart b hb (e2 ▸ ⟨id, _, l, hg, rfl, hl, rfl⟩))
              split at h
              · rename_i hend
                split at h
                · injection h with h
                  injection h with h h'
                  subst h; subst h'
                  have hdl : (xs.drop off).length = sLen := by simp; omega
                  have ra := row_app (w := w) (N := N) (xs := xs.drop off) (ys := ys) (s := s') (cells := cells) (base := l.base + off * s') (news := news) (cells' := (splice cells.toList (l.base + off * s' + sLen * s') news).toArray)
                    (fun i x hx => hlenx (off + i) x (by rwa [List.getElem?_drop] at hx)) hall (fun i x k y hx hk => by
                      rw [List.getElem?_drop] at hx
                      obtain ⟨c, hc1, hr1⟩ := hy _ _ _ _ hx hk
                      exact ⟨c, by rw [← hc1, Nat.add_mul]; congr 1; omega, hr1⟩) hnl hel (fun j hj => by
                      rw [hdl] at hj
                      simp only [List.getElem?_toArray]
                      rw [hsp, if_neg (by omega)]) (fun j hj => by
                      rw [hdl]
                      simp only [List.getElem?_toArray]
                      rw [hsp, if_pos (by omega)]; congr 1; omega)
                  have hcm : l.base + off * s' + (l.cap - off) * s' = l.base + l.cap * s' := by
                    rw [Nat.add_assoc, ← Nat.add_mul]; congr 2; omega
                  replace hn : L nxt = none := hn (by first | exact ⟨_, List.mem_cons_self ..⟩ | exact ⟨_, List.mem_cons_of_mem _ (List.mem_cons_self ..)⟩)
                  have key := swap_good (nxt := nxt) (l' := ⟨l.blk, l.base + off * s', s', l.cap - off⟩) hs hg rfl (o' := .row s' (xs.drop off ++ ys)) rfl hl hn rfl (cs := (splice cells.toList (l.base + off * s' + sLen * s') news).toArray)
                    ⟨⟨l.blk, l.base + off * s', s', l.cap - off⟩, _, e, by simp [upd], rfl, h0, by simp; omega, setRow_heap w l.blk cells _ e (0, 0) hh, by simp only [List.size_toArray, hspl]; rw [hz, hcm], ra.1, fun i x k y hx hk => by
                      obtain ⟨c, hc1, hr1⟩ := ra.2 i x k y hx hk
                      exact ⟨c, hc1, hr1.mono (fun _ h => h) keepN⟩⟩
                  refine ⟨_, _, N, upd L nxt ⟨l.blk, l.base + off * s', s', l.cap - off⟩, rfl, hwr, ⟨key.1, upd_mono hn, key.2, .inr ?_, fun id2 l2 h2 => ?_⟩⟩
                  · have := RV.arr (w := w.setRow l.blk (splice cells.toList (l.base + off * s' + sLen * s') news).toArray) (N := N) (L := upd L nxt ⟨l.blk, l.base + off * s', s', l.cap - off⟩) nxt 0 (sLen + ys.length) ⟨l.blk, l.base + off * s', s', l.cap - off⟩ (some ⟨l.blk, l.base + off * s', none⟩) sCap (by simp [upd]) (by simp; omega) hroom (fun _ => by simp)
                    exact this
                  · unfold upd at h2
                    split at h2
                    · rename_i e1; exact .inr ⟨_, List.mem_cons_of_mem _ (List.mem_singleton.2 rfl), e1.symm, by omega⟩
                    · exact .inl h2
                · cases h
              · split at h
                · rename_i hend hin
                  injection h with h
                  injection h with h h'
                  subst h; subst h'
                  have hx1 : off + sLen + ys.length ≤ xs.length := by omega
                  have key := upd_good hs hg rfl (o' := .row s' (splice xs (off + sLen) ys)) rfl hl (cs := (splice cells.toList (l.base + off * s' + sLen * s') news).toArray)
                    ⟨l, _, e, hl, hls, h0, by rw [splice_length _ _ _ hx1]; exact hcap, setRow_heap w l.blk cells _ e (0, 0) hh, by simp only [List.size_toArray, hspl]; exact hz, fun i x hx => by
                      rw [splice_get _ _ _ hx1] at hx
                      split at hx
                      · exact hall x (List.mem_of_getElem? hx)
                      · exact hlenx i x hx, fun i x k y hx hk => by
                      have hxs : x.length = s' := by
                        rw [splice_get _ _ _ hx1] at hx
                        split at hx
                        · exact hall x (List.mem_of_getElem? hx)
                        · exact hlenx i x hx
                      have hks : k < s' := by
                        rcases Nat.lt_or_ge k x.length with h2 | h2
                        · omega
                        · rw [List.getElem?_eq_none h2] at hk; cases hk
                      rw [splice_get _ _ _ hx1] at hx
                      simp only [List.getElem?_toArray]
                      rw [hsp]
                      split at hx
                      · rename_i hi
                        obtain ⟨c, hc1, hr1⟩ := hel _ x k y hx hk
                        have h4 : i * s' = off * s' + sLen * s' + (i - (off + sLen)) * s' := by rw [← Nat.add_mul, ← Nat.add_mul]; congr 1; omega
                        have h5 := mul_lt_of (s := s') (show i - (off + sLen) < ys.length by omega)
                        refine ⟨c, ?_, hr1.mono (fun _ h => h) keepN⟩
                        rw [if_pos (by omega), ← hc1]; congr 1; omega
                      · rename_i hi
                        obtain ⟨c, hc1, hr1⟩ := hy i x k y hx hk
                        refine ⟨c, ?_, hr1.mono (fun _ h => h) keepN⟩
                        rw [if_neg ?_]
                        · exact hc1
                        · rintro ⟨h2, h3⟩
                          apply hi
                          have hq1 : (off + sLen) * s' ≤ i * s' + k := by rw [Nat.add_mul]; omega
                          have hq2 : i * s' + k < (off + sLen + ys.length) * s' := by rw [Nat.add_mul, Nat.add_mul]; omega
                          constructor
                          · rcases Nat.lt_or_ge i (off + sLen) with h6 | h6
                            · have := mul_lt_of (s := s') h6; omega
                            · exact h6
                          · rcases Nat.lt_or_ge i (off + sLen + ys.length) with h6 | h6
                            · exact h6
                            · have := Nat.mul_le_mul_right s' h6; omega⟩
                  refine ⟨_, _, N, L, rfl, hwr, ⟨key.1, fun _ _ h => h, key.2, .inr ?_, fun _ _ h => .inl h⟩⟩
                  exact .arr id off (sLen + ys.length) l _ sCap hl hc hroom (fun _ => by rw [hls])
                · cases h
          | _ => simp at h
    | _ => simp at h

end Go.Vm
