/- A part of the proofs of the statements BatchTells and BatchNumbers: Vs6, Vs7, Vs8, Vs9. Conditions: none of its own. -/
import Derived.Test.YtoaafpebcdfniaaGreatT02
set_option linter.unusedSimpArgs false
set_option linter.unusedVariables false
set_option linter.unnecessarySimpa false
set_option linter.all false
namespace Go.Vm
variable {P : Program} {w : World} {N : Nat → Prop} {L : Lmap} {σ : Store} {nxt : Nat} {ts : List V} {a : Act}

theorem idx_eq {i i' s k k' n : Nat} (h1 : i * s + k ≤ i' * s + k') (h2 : i' * s + k' < i * s + k + n) (hn : k + n ≤ s) (hk : k' < s) : i' = i := by
  rcases Nat.lt_trichotomy i i' with h | h | h
  · have := Nat.mul_le_mul_right s h
    rw [Nat.succ_mul] at this
    omega
  · exact h.symm
  · have := Nat.mul_le_mul_right s h
    rw [Nat.succ_mul] at this
    omega

theorem cold_setRow (w : World) (g : Nat) (cs : Array Value) (a : Addr) : (w.setRow g cs).frozen? a = w.frozen? a := by
  unfold World.frozen? World.setRow
  simp only [Array.getElem?_modify]
  by_cases hg : g = a.block
  · rw [if_pos hg]
    cases h : w.heap[a.block]? with
    | none => rfl
    | some o => cases o <;> rfl
  · rw [if_neg hg]

/-- An object that is written. -/
theorem upd_good (hs : SRel w N L σ) {id : Nat} {o o' : Obj} {l : Loc} (hg : σ.get id = some o) (ho : o.owned = true) (ho' : o'.owned = true) (hl : L id = some l) {cs : Array Value}
    (hr : ORel (w.setRow l.blk cs) N L id o') : Evo w N L σ (w.setRow l.blk cs) N L (σ.put id (some o')) ∧ SRel (w.setRow l.blk cs) N L (σ.put id (some o')) := by
  have hown : Own L σ l.blk := ⟨id, o, l, hg, ho, hl, rfl⟩
  have ownb : ∀ b, Own L (σ.put id (some o')) b → Own L σ b := by
    rintro b ⟨id2, o2, l2, hg2, ho2, hl2, e⟩
    rw [get_put] at hg2
    split at hg2
    · rename_i e1; subst e1; rw [hl] at hl2; injection hl2 with hl2; subst hl2; subst e; exact hown
    · exact ⟨id2, o2, l2, hg2, ho2, hl2, e⟩
  have other : ∀ b, ¬ Own L σ b → (w.setRow l.blk cs).heap[b]? = w.heap[b]? := fun b hb => setRow_other w l.blk b cs (fun e => hb (e ▸ hown))
  refine ⟨⟨rfl, rfl, rfl, cold_setRow w _ _, by simp, fun b _ hb => other b hb, fun _ h => h, fun _ h => .inl h, fun b hb => .inr (ownb b hb)⟩, ?_⟩
  constructor
  · intro id2 o2 hg2
    rw [get_put] at hg2
    split at hg2
    · rename_i e1; subst e1; injection hg2 with hg2; subst hg2; exact hr
    · rename_i e1
      refine (hs.obj id2 o2 hg2).mono (fun _ h => h) (fun b hb => other b (hs.apart b hb)) (fun _ _ h => h) (fun h1 l2 hl2 => setRow_other w l.blk l2.blk cs fun e => ?_)
      exact e1 (hs.inj id2 id o2 o l2 l hg2 hg h1 ho hl2 hl e)
  · exact fun b hb h => hs.apart b hb (ownb b h)
  · intro id1 id2 o1 o2 l1 l2 hg1 hg2 ho1 ho2 hl1 hl2 e
    rw [get_put] at hg1 hg2
    have back : ∀ id2 o2, (if id2 = id then some o' else σ.get id2) = some o2 → o2.owned = true → ∃ o3, σ.get id2 = some o3 ∧ o3.owned = true := by
      intro id2 o2 h h1
      split at h
      · rename_i e1; subst e1; exact ⟨o, hg, ho⟩
      · exact ⟨o2, h, h1⟩
    obtain ⟨o3, hg3, ho3⟩ := back _ _ hg1 ho1
    obtain ⟨o4, hg4, ho4⟩ := back _ _ hg2 ho2
    exact hs.inj id1 id2 o3 o4 l1 l2 hg3 hg4 ho3 ho4 hl1 hl2 e
  · exact fun b hb => by have := hs.lt b hb; simpa using this

theorem run_storeVar' {t : TypeId} {n : Nat} (hn : szP P t = some n) {b o : Nat} {v : Value} {cur : Array Value} {e : TypeId} (hg : w.heap[b]? = some (.cells cur e (0, 0))) (hz : v.cells.size = n) (hle : o + n ≤ cur.size)
    (h1 : ∀ (i : Nat) c, v.cells[i]? = some c → one c) : (storeVar t ⟨b, o, none⟩ v).run P w = .ok () (w.setRow b (splice cur.toList o v.cells.toList).toArray) := by
  have h2 := run_storeCells_at (P := P) b o e v.cells.toList 0 cur w hg (by simp; omega) (fun x hx => by
    obtain ⟨i, hi⟩ := List.getElem?_of_mem hx
    exact h1 i x (by simpa using hi))
  simp only [Nat.add_zero] at h2
  unfold storeVar
  simp only [Sem.run_bind, szP_some hn, Result.andThen_ok]
  simp only [hz, ne_eq, not_true_eq_false, if_false, Sem.run_bind]
  simp [splice] at h2 ⊢
  exact h2

theorem set_get {α : Type} (xs : List α) (i : Nat) (v : α) (h : i < xs.length) (j : Nat) : (xs.set i v)[j]? = if i = j then some v else xs[j]? := by
  rw [List.getElem?_set]; split <;> simp [h]

/-- The cells of a row that is written at one element. -/
theorem row_upd {s : Nat} {xs : List (List D)} {cells : Array Value} {base i k : Nat} {x : List D} {ds : List D} {vals : List Value} (hx : xs[i]? = some x) (hlen : ∀ (i : Nat) (x : List D), xs[i]? = some x → x.length = s)
    (hk : k + ds.length ≤ s) (hv : vals.length = ds.length) (hle : base + (i * s + k) + ds.length ≤ cells.size)
    (hy : ∀ (i : Nat) (x : List D) (k : Nat) (y : D), xs[i]? = some x → x[k]? = some y → ∃ c, cells[base + (i * s + k)]? = some c ∧ RD w N y c)
    (hd : ∀ (j : Nat) y c, ds[j]? = some y → vals[j]? = some c → RD w N y c) :
    (∀ (i' : Nat) (x' : List D), (xs.set i (splice x k ds))[i']? = some x' → x'.length = s) ∧
    ∀ (i' : Nat) (x' : List D) (k' : Nat) (y : D), (xs.set i (splice x k ds))[i']? = some x' → x'[k']? = some y → ∃ c, (splice cells.toList (base + (i * s + k)) vals).toArray[base + (i' * s + k')]? = some c ∧ RD w N y c := by
  have hxl := hlen i x hx
  have hsl : (splice x k ds).length = s := by rw [splice_length _ _ _ (by omega)]; exact hxl
  have hil : i < xs.length := by
    rcases Nat.lt_or_ge i xs.length with h | h
    · exact h
    · rw [List.getElem?_eq_none h] at hx; cases hx
  refine ⟨fun i' x' h => ?_, fun i' x' k' y h hk' => ?_⟩
  · rw [set_get _ _ _ hil] at h
    split at h
    · injection h with h; subst h; exact hsl
    · exact hlen i' x' h
  · have hks : k' < s := by
      have : k' < x'.length := by
        rcases Nat.lt_or_ge k' x'.length with h1 | h1
        · exact h1
        · rw [List.getElem?_eq_none h1] at hk'; cases hk'
      rw [set_get _ _ _ hil] at h
      split at h
      · injection h with h; subst h; omega
      · have := hlen i' x' h; omega
    rw [List.getElem?_toArray, splice_get _ _ _ (by simp; omega)]
    rw [set_get _ _ _ hil] at h
    split at h
    · rename_i e
      injection h with h
      subst h
      subst e
      rw [splice_get _ _ _ (by omega)] at hk'
      split at hk'
      · rename_i h1
        rw [if_pos (by omega)]
        have hj : k' - k < vals.length := by omega
        refine ⟨vals[k' - k], ?_, hd (k' - k) y _ hk' (List.getElem?_eq_getElem hj)⟩
        rw [show base + (i * s + k') - (base + (i * s + k)) = k' - k by omega]
        exact List.getElem?_eq_getElem hj
      · rename_i h1
        rw [if_neg (by omega)]
        obtain ⟨c, hc, hr⟩ := hy i x k' y hx hk'
        exact ⟨c, by simpa using hc, hr⟩
    · rename_i e
      rw [if_neg ?_]
      · obtain ⟨c, hc, hr⟩ := hy i' x' k' y h hk'
        exact ⟨c, by simpa using hc, hr⟩
      · rintro ⟨h1, h2⟩
        exact e (idx_eq (s := s) (k := k) (k' := k') (n := vals.length) (by omega) (by omega) (by omega) hks).symm

theorem mapM_freeze {vs : List V} {ds : List D} {cs : Array Value} {ids : List Nat} (hs : SRel w N L σ) (hc : CRel w N L vs cs) (h : vs.mapM (freezeCell σ) = some ds) (hi : ∀ v ∈ vs, ∀ id off len, v = .arr id off len → id ∈ ids) :
    ds.length = vs.length ∧ ∀ (j : Nat) y c, ds[j]? = some y → cs[j]? = some c → RD w (fun b => N b ∨ Fz L σ ids b) y c := by
  obtain ⟨hl, hg⟩ := mapM_get _ _ _ h
  refine ⟨hl, fun j y c hy hcj => ?_⟩
  have hj : j < vs.length := by
    rw [← hl]
    rcases Nat.lt_or_ge j ds.length with h | h
    · exact h
    · rw [List.getElem?_eq_none h] at hy; cases hy
  have h1 := hg j _ y (List.getElem?_eq_getElem hj) hy
  exact freeze_rel hs (.inr (hc.2.2 j _ c (List.getElem?_eq_getElem hj) hcj)) h1 (hi _ (List.getElem_mem hj))

theorem frozen_cells {v c : V} (h : c ∈ v.cells) : ∀ id off len, c = .arr id off len → id ∈ frozenIds v := by
  rintro id off len rfl
  cases v with
  | agg cells => simp only [V.cells] at h; simp only [frozenIds, List.mem_filterMap]; exact ⟨_, h, rfl⟩
  | arr id2 off2 len2 => simp [V.cells] at h; simp [frozenIds, h.1]
  | _ => simp [V.cells] at h

theorem good_st {o : Oper} {t : TypeId} {x p : Operand} {x' p' : O} {n : Nat} {δ : Delta} (ho : o.op = .store t p x) (hn : szP P t = some n) (hx : oOf x = some x') (hp : oOf p = some p') (hs : SRel w N L σ) (hf : FRel w N L ts a)
    (hw : writeAt σ n (p'.ev ts) (x'.ev ts) = some δ) : Good P (execOp a.eval o) w N L σ nxt .bot δ := by
  unfold writeAt at hw
  split at hw
  · cases hw
  · rename_i hcond
    have hok : okV (x'.ev ts) = true := by simpa using fun e => hcond (.inr e)
    have hlen : (x'.ev ts).cells.length = n := by omega
    have hcr := cells_of (ev_rel hf hx) hok
    have hpr := ev_rel hf hp
    cases hpv : p'.ev ts with
    | ptr id i k =>
      rw [hpv] at hw hpr
      have h1 := rs_of hpr (by simp)
      generalize hcp : a.eval p = cp at h1
      cases h1 with
      | ptr _ _ _ l hl =>
        simp only at hw
        cases hg : σ.get id with
        | none => rw [hg] at hw; simp at hw
        | some ob =>
          rw [hg] at hw
          have hor := hs.obj id ob hg
          have run : ∀ (b of : Nat) (cur : Array Value) (e : TypeId), w.heap[b]? = some (.cells cur e (0, 0)) → of + n ≤ cur.size → a.eval p = .pointer (some ⟨b, of, none⟩) →
              (execOp a.eval o).run P w = .ok .skip (w.setRow b (splice cur.toList of (a.eval x).cells.toList).toArray) := by
            intro b of cur e hh hle hpe
            have := run_storeVar' (P := P) (v := a.eval x) hn hh (by rw [hcr.1]; exact hlen) hle hcr.2.1
            simp [execOp, ho, Instr.storeAt, hpe, Instr.sureAddr, this]
          cases ob with
          | box cs =>
            simp only at hw
            split at hw
            · rename_i hc
              injection hw with hw
              subst hw
              obtain ⟨l2, cells, e, hl2, hb, hh, hz, hy⟩ := hor
              rw [hl] at hl2; injection hl2 with hl2; subst hl2
              have hle : k + (x'.ev ts).cells.length ≤ cs.length := by omega
              have key := upd_good hs hg rfl (o' := .box (splice cs k (x'.ev ts).cells)) rfl hl (cs := (splice cells.toList k (a.eval x).cells.toList).toArray)
                ⟨l, _, e, hl, hb, setRow_heap w l.blk cells _ e (0, 0) hh, by simp; rw [splice_length _ _ _ (by simp [hcr.1]; omega), splice_length _ _ _ hle]; simpa using hz, fun j v hj => by
                  rw [splice_get _ _ _ hle] at hj
                  rw [List.getElem?_toArray, splice_get _ _ _ (by simp [hcr.1]; omega)]
                  simp only [Array.length_toList, hcr.1]
                  have hm : ∀ {v c}, RV w N L v c → RV (w.setRow l.blk (splice cells.toList k (a.eval x).cells.toList).toArray) N L v c := fun h =>
                    h.mono (fun _ h => h) (fun b hb2 => setRow_other w l.blk b _ (fun e2 => hs.apart b hb2 (e2 ▸ ⟨id, _, l, hg, rfl, hl, rfl⟩))) (fun _ _ h => h)
                  split at hj
                  · rename_i h2
                    rw [if_pos h2]
                    obtain ⟨c, hc1, hr1, ho1⟩ := crel_get hcr hj
                    exact ⟨c, by simpa using hc1, hm hr1, ho1⟩
                  · rename_i h2
                    rw [if_neg h2]
                    obtain ⟨c, hc1, hr1, ho1⟩ := hy j v hj
                    exact ⟨c, by simpa using hc1, hm hr1, ho1⟩⟩
              refine ⟨undef, _, N, L, .inr ⟨run l.blk k cells e hh (by omega) (by rw [hcp]; simp [hb, hc.1]), rfl⟩, ⟨key.1, fun _ _ h => h, key.2, .inl rfl, fun _ _ h => .inl h⟩⟩
            · cases hw
          | row s xs =>
            simp only at hw
            cases hxi : xs[i]? with
            | none => rw [hxi] at hw; simp at hw
            | some xe =>
              cases hds : (x'.ev ts).cells.mapM (freezeCell σ) with
              | none => rw [hxi, hds] at hw; simp at hw
              | some ds =>
                rw [hxi, hds] at hw
                simp only at hw
                split at hw
                · rename_i hc
                  injection hw with hw
                  subst hw
                  obtain ⟨l2, cells, e, hl2, hsl, h0, hcap, hh, hz, hlenx, hy⟩ := hor
                  rw [hl] at hl2; injection hl2 with hl2; subst hl2
                  have hxl := hlenx i xe hxi
                  have hil : i < xs.length := by
                    rcases Nat.lt_or_ge i xs.length with h | h
                    · exact h
                    · rw [List.getElem?_eq_none h] at hxi; cases hxi
                  have hmul : (i + 1) * s ≤ l.cap * s := Nat.mul_le_mul_right s (by omega)
                  rw [Nat.succ_mul] at hmul
                  obtain ⟨hdl, hdr⟩ := mapM_freeze (ids := frozenIds (x'.ev ts)) hs hcr hds (fun v hv => frozen_cells hv)
                  have fz := freeze_good hs (frozenIds (x'.ev ts))
                  have hg1 : (σ.app (frz σ (frozenIds (x'.ev ts)))).get id = some (.row s xs) := by rw [get_frz, if_neg hc.2]; exact hg
                  have hvl : (a.eval x).cells.toList.length = ds.length := by simp [hcr.1, hdl]
                  have up := row_upd (w := w) (N := fun b => N b ∨ Fz L σ (frozenIds (x'.ev ts)) b) (cells := cells) (base := l.base) (k := k) (vals := (a.eval x).cells.toList) hxi hlenx (by omega) hvl (by omega)
                    (fun i x k y h1 h2 => by
                      obtain ⟨c, hc1, hr1⟩ := hy i x k y h1 h2
                      exact ⟨c, hc1, hr1.mono (fun _ h => .inl h) (fun _ _ => rfl)⟩) (fun j y c h1 h2 => hdr j y c h1 (by simpa using h2))
                  have hm : ∀ {v c}, RD w (fun b => N b ∨ Fz L σ (frozenIds (x'.ev ts)) b) v c → RD (w.setRow l.blk (splice cells.toList (l.base + (i * s + k)) (a.eval x).cells.toList).toArray) (fun b => N b ∨ Fz L σ (frozenIds (x'.ev ts)) b) v c := fun h =>
                    h.mono (fun _ h => h) (fun b hb2 => setRow_other w l.blk b _ (fun e2 => fz.2.apart b hb2 (e2 ▸ ⟨id, _, l, hg1, rfl, hl, rfl⟩)))
                  have key := upd_good fz.2 hg1 rfl (o' := .row s (xs.set i (splice xe k ds))) rfl hl (cs := (splice cells.toList (l.base + (i * s + k)) (a.eval x).cells.toList).toArray)
                    ⟨l, _, e, hl, hsl, h0, by simpa using hcap, setRow_heap w l.blk cells _ e (0, 0) hh, by simp; rw [splice_length _ _ _ (by simp at hvl ⊢; omega)]; simpa using hz, up.1, fun i' x' k' y h1 h2 => by
                      obtain ⟨c, hc1, hr1⟩ := up.2 i' x' k' y h1 h2
                      exact ⟨c, hc1, hm hr1⟩⟩
                  refine ⟨undef, _, (fun b => N b ∨ Fz L σ (frozenIds (x'.ev ts)) b), L, .inr ⟨run l.blk (l.base + (i * s + k)) cells e hh (by omega) (by rw [hcp, hsl]), rfl⟩, ⟨?_, fun _ _ h => h, ?_, .inl rfl, fun _ _ h => .inl h⟩⟩
                  · rw [app_append]; exact fz.1.trans key.1
                  · rw [app_append]; exact key.2
                · cases hw
          | imm s xs => simp at hw
    | _ => rw [hpv] at hw; simp at hw

end Go.Vm
namespace Go.Vm
variable {P : Program} {w : World} {N : Nat → Prop} {L : Lmap} {σ : Store} {nxt : Nat} {ts : List V} {a : Act}

theorem rs_ptr {id i k : Nat} {c : Value} (h : RS w N L (.ptr id i k) c) : ∃ l, L id = some l ∧ c = .pointer (some ⟨l.blk, l.base + (i * l.s + k), none⟩) := by
  have h1 := rs_of h (by simp)
  cases h1 with | ptr _ _ _ l hl => exact ⟨l, hl, rfl⟩
theorem rs_clo {f : FuncId} {x y : List V} {c : Value} (h : RS w N L (.clo f x y) c) : ∃ p q, c = .func (.func f) p q := by
  have h1 := rs_of h (by simp)
  cases h1 with | clo _ _ _ p q => exact ⟨p, q, rfl⟩

theorem good_nchk {o : Oper} {x : Operand} {y : O} (ho : o.op = .nilCheck x) (hx : oOf x = some y) (hs : SRel w N L σ) (hf : FRel w N L ts a)
    (hv : (∃ id i k, y.ev ts = .ptr id i k) ∨ (∃ c k, y.ev ts = .dptr c k) ∨ ∃ f p q, y.ev ts = .clo f p q) : Good P (execOp a.eval o) w N L σ nxt (y.ev ts) [] := by
  have h1 := ev_rel hf hx
  refine good_pure (c := a.eval x) ?_ hs h1
  rcases hv with ⟨id, i, k, e⟩ | ⟨c, k, e⟩ | ⟨f, p, q, e⟩
  · rw [e] at h1; obtain ⟨l, _, hc⟩ := rs_ptr h1; simp [execOp, ho, hc]
  · rw [e] at h1
    have h2 := rs_of h1 (by simp)
    generalize hce : a.eval x = ce at h2
    cases h2; simp [execOp, ho, hce]
  · rw [e] at h1; obtain ⟨p', q', hc⟩ := rs_clo h1; simp [execOp, ho, hc]

/-- A pointer moved on. -/
def ptrAdd (n : Nat) : V → Option V
  | .ptr id i k => some (.ptr id i (k + n))
  | .dptr c k => some (.dptr c (k + n))
  | _ => none
theorem ptrAdd_rel {n : Nat} {v v' : V} {c : Value} (h : RS w N L v c) (hv : ptrAdd n v = some v') : ∃ b o, c = .pointer (some ⟨b, o, none⟩) ∧ RS w N L v' (.pointer (some ⟨b, o + n, none⟩)) := by
  cases v with
  | ptr id i k =>
    simp [ptrAdd] at hv; subst hv
    obtain ⟨l, hl, hc⟩ := rs_ptr h
    exact ⟨_, _, hc, .inr (by
      have := RV.ptr (w := w) (N := N) (L := L) id i (k + n) l hl
      rwa [show l.base + (i * l.s + k) + n = l.base + (i * l.s + (k + n)) by omega])⟩
  | dptr cs k =>
    simp [ptrAdd] at hv; subst hv
    have h2 := rs_of h (by simp)
    cases h2 with
    | dptr _ _ b o cs' hN hc hr =>
      refine ⟨b, o + k, rfl, .inr ?_⟩
      have := RV.dptr (w := w) (N := N) (L := L) cs (k + n) b o cs' hN hc hr
      rwa [show o + k + n = o + (k + n) by omega]
  | _ => simp [ptrAdd] at hv

theorem good_fa {o : Oper} {t : TypeId} {j : Nat} {x : Operand} {y : O} {fields : Array Field} {f : Field} {sz : Nat} {v : V} (ho : o.op = .fieldAddr t x j) (hu : P.underlying t = some (.struct fields)) (hj : fields[j]? = some f)
    (hz : szP P f.type = some sz) (h0 : sz ≠ 0) (hx : oOf x = some y) (hs : SRel w N L σ) (hf : FRel w N L ts a) (hv : ptrAdd f.offset (y.ev ts) = some v) : Good P (execOp a.eval o) w N L σ nxt v [] := by
  obtain ⟨b, of, hc, hr⟩ := ptrAdd_rel (ev_rel hf hx) hv
  refine good_pure (c := .pointer (some ⟨b, of + f.offset, none⟩)) ?_ hs hr
  simp [execOp, ho, Instr.fieldAt, run_underlying hu, hj, hc, Instr.sureAddr, fieldPlace, szP_some hz, h0, add_plain]

theorem good_ixa {o : Oper} {t e : TypeId} {n s : Nat} {x i : Operand} {y yi : O} {v : V} {q : Int} {k : IntKind} (ho : o.op = .indexAddr t x i) (hu : P.underlying t = some (.array n e)) (hz : szP P e = some s) (hn : ¬ n ≤ 1)
    (hx : oOf x = some y) (hi : oOf i = some yi) (hs : SRel w N L σ) (hf : FRel w N L ts a) (hq : yi.ev ts = .d (.int k q)) (h0 : ¬ (q < 0 ∨ (n : Int) ≤ q)) (hv : ptrAdd (q.toNat * s) (y.ev ts) = some v) : Good P (execOp a.eval o) w N L σ nxt v [] := by
  obtain ⟨b, of, hc, hr⟩ := ptrAdd_rel (ev_rel hf hx) hv
  have h1 := ev_rel hf hi
  rw [hq] at h1
  have h2 := rs_int h1
  refine good_pure (c := .pointer (some ⟨b, of + q.toNat * s, none⟩)) ?_ hs hr
  have h3 : 0 ≤ q ∧ q < n := by omega
  simp [execOp, ho, Instr.indexAt, h2, asIntOf, run_underlying hu, hc, Instr.sureAddr, szP_some hz, add_plain, h3]

theorem good_ixs_lst {o : Oper} {t e : TypeId} {s : Nat} {x i : Operand} {y yi : O} {q : Int} {k : IntKind} {xs : List (List D)} {el : List D} (ho : o.op = .indexAddr t x i) (hu : P.underlying t = some (.slice e)) (hz : szP P e = some s)
    (hx : oOf x = some y) (hi : oOf i = some yi) (hs : SRel w N L σ) (hf : FRel w N L ts a) (hq : yi.ev ts = .d (.int k q)) (h0 : ¬ q < 0) (hy : y.ev ts = .d (.lst xs)) (hel : xs[q.toNat]? = some el) (hlen : el.length = s) :
    Good P (execOp a.eval o) w N L σ nxt (.dptr el 0) [] := by
  have h1 := ev_rel hf hi
  rw [hq] at h1
  have h2 := rs_int h1
  have h3 := ev_rel hf hx
  rw [hy] at h3
  have h4 := rs_of h3 (by simp)
  generalize hce : a.eval x = ce at h4
  cases h4 with
  | d _ _ h4 =>
    cases h4 with
    | lst _ ad cap s' cs hcap hsl ha hr =>
      have hne : xs ≠ [] := by rintro rfl; simp at hel
      obtain ⟨b, of, rfl, hb, hc⟩ := ha hne
      have hss : s' = s := by rw [← hlen]; exact (hsl _ _ hel).symm
      subst hss
      have hql : q.toNat < xs.length := by
        rcases Nat.lt_or_ge q.toNat xs.length with h | h
        · exact h
        · rw [List.getElem?_eq_none h] at hel; cases hel
      refine good_pure (c := .pointer (some ⟨b, of + q.toNat * s', none⟩)) ?_ hs (.inr ?_)
      · have h5 : 0 ≤ q ∧ q < xs.length := by omega
        simp [execOp, ho, Instr.indexAt, h2, asIntOf, run_underlying hu, hce, szP_some hz, add_plain, h5]
      · have := RV.dptr (w := w) (N := N) (L := L) el 0 b (of + q.toNat * s') (fun j => cs q.toNat j) hb (fun j y hj => by
          rw [show of + q.toNat * s' + j = of + (q.toNat * s' + j) by omega]; exact hc _ _ _ _ hel hj) (fun j y hj => hr _ _ _ _ hel hj)
        simpa using this

theorem good_ixs_arr {o : Oper} {t e : TypeId} {s : Nat} {x i : Operand} {y yi : O} {q : Int} {k : IntKind} {id off len : Nat} {s' : Nat} {xs : List (List D)} (ho : o.op = .indexAddr t x i) (hu : P.underlying t = some (.slice e)) (hz : szP P e = some s)
    (hx : oOf x = some y) (hi : oOf i = some yi) (hs : SRel w N L σ) (hf : FRel w N L ts a) (hq : yi.ev ts = .d (.int k q)) (h0 : ¬ q < 0) (hy : y.ev ts = .arr id off len) (hlt : q < len) (hg : σ.get id = some (.row s' xs) ∨ σ.get id = some (.imm s' xs)) (hss : s' = s) :
    Good P (execOp a.eval o) w N L σ nxt (.ptr id (off + q.toNat) 0) [] := by
  have h1 := ev_rel hf hi
  rw [hq] at h1
  have h2 := rs_int h1
  have h3 := ev_rel hf hx
  rw [hy] at h3
  have h4 := rs_of h3 (by simp)
  generalize hce : a.eval x = ce at h4
  cases h4 with
  | arr _ _ _ l ad cap hl hc hle ha =>
    have hls : l.s = s := by
      rcases hg with hg | hg
      · obtain ⟨l2, _, _, hl2, h5, _⟩ := hs.obj id _ hg
        rw [hl] at hl2; injection hl2 with hl2; subst hl2; omega
      · obtain ⟨l2, hl2, h5, _⟩ := hs.obj id _ hg
        rw [hl] at hl2; injection hl2 with hl2; subst hl2; omega
    have had := ha (by omega)
    subst had
    refine good_pure (c := .pointer (some ⟨l.blk, l.base + off * l.s + q.toNat * s, none⟩)) ?_ hs (.inr ?_)
    · have h5 : 0 ≤ q ∧ q < len := by omega
      simp [execOp, ho, Instr.indexAt, h2, asIntOf, run_underlying hu, hce, szP_some hz, add_plain, h5]
    · have := RV.ptr (w := w) (N := N) (L := L) id (off + q.toNat) 0 l hl
      rw [show l.base + off * l.s + q.toNat * s = l.base + ((off + q.toNat) * l.s + 0) by rw [hls, Nat.add_mul]; omega]
      exact this

theorem good_len {o : Oper} {c : Call} {t e : TypeId} {x : Operand} {y : O} {n : Nat} (ho : o.op = .call c) (hc : c.callee = .builtin .len) (hargs : c.args = #[x]) (ht : c.argTypes = #[t]) (hu : P.underlying t = some (.slice e))
    (hx : oOf x = some y) (hs : SRel w N L σ) (hf : FRel w N L ts a) (hv : lenV (y.ev ts) = some n) : Good P (execOp a.eval o) w N L σ nxt (.d (.int .i64 n)) [] := by
  have h1 := ev_rel hf hx
  refine good_pure (c := .int .i64 n) ?_ hs (.inr (.d _ _ (.int _ _)))
  have run : ∀ v, a.eval x = v → (Builtin.len_ #[t] o.type #[v]).run P w = .ok (.int .i64 n) w → (execOp a.eval o).run P w = .ok (.value (.int .i64 n)) w := by
    intro v hv hr
    simp [execOp, ho, resolve, hc, hargs, ht, invoke, builtin, hv, hr]
  generalize hy : y.ev ts = yv at h1 hv
  cases yv with
  | nils =>
    simp [lenV] at hv; subst hv
    have h2 := rs_of h1 (by simp)
    generalize hce : a.eval x = ce at h2
    cases h2
    exact run _ hce (by simp [Builtin.len_, run_underlying hu, goInt])
  | arr id off len =>
    simp [lenV] at hv; subst hv
    have h2 := rs_of h1 (by simp)
    generalize hce : a.eval x = ce at h2
    cases h2
    exact run _ hce (by simp [Builtin.len_, run_underlying hu, goInt])
  | d dx =>
    have h2 := rs_of h1 (by simp)
    cases dx with
    | lst xs =>
      simp [lenV] at hv; subst hv
      generalize hce : a.eval x = ce at h2
      cases h2 with
      | d _ _ h2 => cases h2; exact run _ hce (by simp [Builtin.len_, run_underlying hu, goInt])
    | _ => simp [lenV] at hv
  | _ => simp [lenV] at hv

theorem rs_str {s : ByteArray} {c : Value} (h : RS w N L (.d (.str s)) c) : c = .string s := by
  rcases h with h | h
  · cases h
  · cases h with | d x c h => cases h; rfl

theorem good_slen {o : Oper} {c : Call} {t : TypeId} {x : Operand} {y : O} {s : ByteArray} (ho : o.op = .call c) (hc : c.callee = .builtin .len) (hargs : c.args = #[x]) (ht : c.argTypes = #[t]) (hu : P.underlying t = some .string)
    (hx : oOf x = some y) (hs : SRel w N L σ) (hf : FRel w N L ts a) (hv : y.ev ts = .d (.str s)) : Good P (execOp a.eval o) w N L σ nxt (.d (.int .i64 s.size)) [] := by
  have h1 := ev_rel hf hx
  rw [hv] at h1
  have h2 := rs_str h1
  refine good_pure (c := .int .i64 s.size) ?_ hs (.inr (.d _ _ (.int _ _)))
  simp [execOp, ho, resolve, hc, hargs, ht, invoke, builtin, h2, Builtin.len_, run_underlying hu, goInt]

theorem good_cap {o : Oper} {c : Call} {t e : TypeId} {x : Operand} {y : O} (ho : o.op = .call c) (hc : c.callee = .builtin .cap) (hargs : c.args = #[x]) (ht : c.argTypes = #[t]) (hu : P.underlying t = some (.slice e))
    (hx : oOf x = some y) (hs : SRel w N L σ) (hf : FRel w N L ts a) (hv : y.ev ts = .nils) : Good P (execOp a.eval o) w N L σ nxt (.d (.int .i64 0)) [] := by
  have h1 := ev_rel hf hx
  rw [hv] at h1
  have h2 := rs_of h1 (by simp)
  generalize hce : a.eval x = ce at h2
  cases h2
  refine good_pure (c := .int .i64 0) ?_ hs (.inr (.d _ _ (.int _ _)))
  simp [execOp, ho, resolve, hc, hargs, ht, invoke, builtin, hce, Builtin.cap_, run_underlying hu, goInt]

theorem good_ext {o : Oper} {x : Operand} {y : O} {i : Nat} {vs : List V} {v : V} (ho : o.op = .extract x i) (hx : oOf x = some y) (hs : SRel w N L σ) (hf : FRel w N L ts a) (hy : y.ev ts = .tup vs) (hv : vs[i]? = some v) :
    Good P (execOp a.eval o) w N L σ nxt v [] := by
  have h1 := ev_rel hf hx
  rw [hy] at h1
  have h2 := rs_of h1 (by simp)
  generalize hce : a.eval x = ce at h2
  cases h2 with
  | tup _ cs hl h =>
    have hi : i < cs.size := by
      rw [hl]
      rcases Nat.lt_or_ge i vs.length with h | h
      · exact h
      · rw [List.getElem?_eq_none h] at hv; cases hv
    have hc := Array.getElem?_eq_getElem hi
    refine good_pure (c := cs[i]) ?_ hs (.inr (h i v _ hv hc))
    simp [execOp, ho, hce, Instr.extract, hc]

theorem good_not {o : Oper} {t : TypeId} {x : Operand} {y : O} {b : Bool} (ho : o.op = .unOp .not t x) (hx : oOf x = some y) (hs : SRel w N L σ) (hf : FRel w N L ts a) (hy : y.ev ts = .d (.bool b)) :
    Good P (execOp a.eval o) w N L σ nxt (.d (.bool (!b))) [] := by
  have h1 := ev_rel hf hx
  rw [hy] at h1
  have h2 := rs_bool h1
  exact good_pure (c := .bool (!b)) (by simp [execOp, ho, h2, Op.unary]) hs (.inr (.d _ _ (.bool _)))

theorem good_conv {o : Oper} {s d : TypeId} {k k' k2 : IntKind} {x : Operand} {y : O} {n : Int} (ho : o.op = .convert s d x) (hs1 : P.underlying s = some (.int k2)) (hd : P.underlying d = some (.int k)) (hx : oOf x = some y) (hs : SRel w N L σ) (hf : FRel w N L ts a) (hy : y.ev ts = .d (.int k' n)) :
    Good P (execOp a.eval o) w N L σ nxt (.d (.int k (k.wrap n))) [] := by
  have h1 := ev_rel hf hx
  rw [hy] at h1
  have h2 := rs_int h1
  exact good_pure (c := .int k (k.wrap n)) (by simp [execOp, ho, h2, convert, run_underlying hs1, run_underlying hd, Conv.intToInt]) hs (.inr (.d _ _ (.int _ _)))

theorem good_sidx {o : Oper} {t : TypeId} {x i : Operand} {y yi : O} {s : ByteArray} {k : IntKind} {n : Int} {b : UInt8} (ho : o.op = .index t x i) (hu : P.underlying t = some .string) (hx : oOf x = some y) (hi : oOf i = some yi) (hs : SRel w N L σ) (hf : FRel w N L ts a)
    (hy : y.ev ts = .d (.str s)) (hn : yi.ev ts = .d (.int k n)) (h0 : 0 ≤ n) (hb : s.data[n.toNat]? = some b) : Good P (execOp a.eval o) w N L σ nxt (.d (.int .u8 b.toNat)) [] := by
  have h1 := ev_rel hf hx
  rw [hy] at h1
  have h2 := rs_str h1
  have h3 := ev_rel hf hi
  rw [hn] at h3
  have h4 := rs_int h3
  have h5 : s[n.toNat]? = some b := by
    obtain ⟨hlt, e⟩ := Array.getElem?_eq_some_iff.1 hb
    have : n.toNat < s.size := hlt
    rw [getElem?_pos s n.toNat this]
    congr 1
  exact good_pure (c := .int .u8 b.toNat) (by simp [execOp, ho, h2, h4, Instr.index, asIntOf, run_underlying hu, h0, h5]) hs (.inr (.d _ _ (.int _ _)))

theorem good_beq {o : Oper} {op : BinOp} {t u : TypeId} {x y : Operand} {x' y' : O} {p q : Bool} (ho : o.op = .binOp op t x y u) (hop : op = .eql ∨ op = .neq) (hu : P.underlying t = some .bool) (hx : oOf x = some x') (hy : oOf y = some y') (hs : SRel w N L σ) (hf : FRel w N L ts a)
    (hp : x'.ev ts = .d (.bool p)) (hq : y'.ev ts = .d (.bool q)) : Good P (execOp a.eval o) w N L σ nxt (.d (.bool (bif op == .neq then p != q else p == q))) [] := by
  have h1 := ev_rel hf hx
  rw [hp] at h1
  have h2 := rs_bool h1
  have h3 := ev_rel hf hy
  rw [hq] at h3
  have h4 := rs_bool h3
  refine good_pure (c := .bool (bif op == .neq then p != q else p == q)) ?_ hs (.inr (.d _ _ (.bool _)))
  have he : (Op.equal t (.bool p) (.bool q)).run P w = .ok (p == q) w := by
    show (Op.equalIn (9999 + 1) t (.bool p) (.bool q)).run P w = _
    rw [Op.equalIn]
    simp only [Sem.run_bind, run_underlying hu, Result.andThen_ok, Sem.run_pure]
  rcases hop with rfl | rfl
  · have hg : (eqGuard .eql t x y (.bool p) (.bool q)).run P w = .ok () w := rfl
    have hb : (binOp .eql t (.bool p) (.bool q)).run P w = .ok (.bool (p == q)) w := by
      have : binOp .eql t (.bool p) (.bool q) = (do pure (.bool (← Op.equal t (.bool p) (.bool q)))) := rfl
      rw [this]; simp only [Sem.run_bind, he, Result.andThen_ok, Sem.run_pure]
    simp only [execOp, ho, h2, h4, Sem.run_bind, hg, hb, Result.andThen_ok, Sem.run_pure]
    cases p <;> cases q <;> rfl
  · have hg : (eqGuard .neq t x y (.bool p) (.bool q)).run P w = .ok () w := rfl
    have hb : (binOp .neq t (.bool p) (.bool q)).run P w = .ok (.bool (!(p == q))) w := by
      have : binOp .neq t (.bool p) (.bool q) = (do pure (.bool (!(← Op.equal t (.bool p) (.bool q))))) := rfl
      rw [this]; simp only [Sem.run_bind, he, Result.andThen_ok, Sem.run_pure]
    simp only [execOp, ho, h2, h4, Sem.run_bind, hg, hb, Result.andThen_ok, Sem.run_pure]
    cases p <;> cases q <;> rfl

end Go.Vm
namespace Go.Vm
variable {P : Program} {w : World} {N : Nat → Prop} {L : Lmap} {σ : Store} {nxt : Nat} {ts : List V} {a : Act}

theorem good_fld {o : Oper} {t : TypeId} {j : Nat} {x : Operand} {y : O} {fields : Array Field} {f : Field} {n : Nat} {agg : Bool} {cs : List V} {v : V} (ho : o.op = .field t x j) (hu : P.underlying t = some (.struct fields)) (hj : fields[j]? = some f)
    (hz : szP P f.type = some n) (ha : aggP P f.type = some agg) (hx : oOf x = some y) (hs : SRel w N L σ) (hf : FRel w N L ts a) (hy : y.ev ts = .agg cs) (hle : f.offset + n ≤ cs.length) (hm : mkAgg agg ((cs.drop f.offset).take n) = some v) :
    Good P (execOp a.eval o) w N L σ nxt v [] := by
  have h1 := ev_rel hf hx
  rw [hy] at h1
  have h2 := rs_of h1 (by simp)
  generalize hce : a.eval x = ce at h2
  cases h2 with
  | agg _ ds hl ho1 h =>
    have hcr : CRel w N L ((cs.drop f.offset).take n) ((ds.toList.drop f.offset).take n).toArray := by
      refine ⟨by simp [hl], fun i c hc => ?_, fun i v c hv hc => ?_⟩
      · simp only [List.getElem?_toArray, List.getElem?_take, List.getElem?_drop] at hc
        split at hc
        · exact ho1 _ _ (by simpa using hc)
        · cases hc
      · simp only [List.getElem?_toArray, List.getElem?_take, List.getElem?_drop] at hv hc
        split at hv
        · rename_i hlt; rw [if_pos hlt] at hc; exact h _ _ _ hv (by simpa using hc)
        · cases hv
    obtain ⟨c, hc, hr⟩ := mk_rel hcr hm
    refine good_pure (c := c) ?_ hs (.inr hr)
    have hp : (part f.type ds f.offset).run P w = .ok c w := by
      unfold part
      simp only [Sem.run_bind, aggP_some ha, Result.andThen_ok]
      cases agg with
      | true =>
        simp only [if_true] at hc ⊢
        subst hc
        simp only [Sem.run_bind, szP_some hz, Result.andThen_ok, Sem.run_pure]
        congr 1
        congr 1
        apply Array.ext'
        simp [List.take_drop]
      | false =>
        simp only [Bool.false_eq_true, if_false] at hc ⊢
        have h3 : ds[f.offset]? = some c := by
          have : ((ds.toList.drop f.offset).take n)[0]? = some c := by rw [hc]; rfl
          rw [List.getElem?_take] at this
          split at this
          · rw [List.getElem?_drop] at this; simpa using this
          · cases this
        simp [h3]
    simp only [execOp, ho, hce, Instr.field, Sem.run_bind, run_underlying hu, Result.andThen_ok, hj, asAgg, Sem.run_pure, hp]

theorem good_mkf {o : Oper} {f : FuncId} {first caps : Array Operand} {xs ys : List O} (ho : o.op = .makeFunc (.func f) first caps) (hx : first.toList.mapM oOf = some xs) (hy : caps.toList.mapM oOf = some ys) (hs : SRel w N L σ) (hf : FRel w N L ts a)
    (hok : (xs ++ ys).all (fun x => okV (x.ev ts)) = true) : Good P (execOp a.eval o) w N L σ nxt (.clo f (xs.map (O.ev ts)) (ys.map (O.ev ts))) [] := by
  obtain ⟨hl1, hg1⟩ := mapM_get _ _ _ hx
  obtain ⟨hl2, hg2⟩ := mapM_get _ _ _ hy
  have key : ∀ (ops : Array Operand) (zs : List O), zs.length = ops.toList.length → (∀ (i : Nat) x z, ops.toList[i]? = some x → zs[i]? = some z → oOf x = some z) → (∀ z ∈ zs, okV (z.ev ts) = true) →
      ∀ (i : Nat) v c, (zs.map (O.ev ts))[i]? = some v → (ops.map a.eval)[i]? = some c → RV w N L v c := by
    intro ops zs hl hg hk i v c hv hc
    rw [List.getElem?_map] at hv
    rw [Array.getElem?_map] at hc
    cases hz : zs[i]? with
    | none => rw [hz] at hv; simp at hv
    | some z =>
      cases hp : ops[i]? with
      | none => rw [hp] at hc; simp at hc
      | some p =>
        rw [hz] at hv; rw [hp] at hc
        simp at hv hc; subst hv; subst hc
        have := hg i p z (by simpa using hp) hz
        exact rs_of (ev_rel hf this) (okV_bot (hk z (List.mem_of_getElem? hz)))
  rw [List.all_eq_true] at hok
  refine good_pure (c := .func (.func f) (first.map a.eval) (caps.map a.eval)) (by simp [execOp, ho, Instr.makeFunc]) hs (.inr (.clo f _ _ _ _ (by simp [hl1]) (by simp [hl2]) ?_ ?_))
  · exact key first xs hl1 hg1 (fun z hz => hok z (List.mem_append.2 (.inl hz)))
  · exact key caps ys hl2 hg2 (fun z hz => hok z (List.mem_append.2 (.inr hz)))

/-! ### Scalars -/
theorem leafVal_rel {v : V} {c u : Value} (h : RV w N L v c) (hv : leafVal v = some u) : c = u := by
  cases v with
  | d x => cases h with | d _ _ h => exact val_of_rd hv h
  | nils => cases h; simp [leafVal] at hv; exact hv
  | _ => simp [leafVal] at hv

theorem val_rel {v : V} {c u : Value} (h : RS w N L v c) (hv : v.val = some u) : c = u := by
  cases v with
  | d x =>
    have h1 := rs_of h (by simp)
    cases h1 with | d _ _ h1 => exact val_of_rd hv h1
  | nils => have h1 := rs_of h (by simp); cases h1; simp [V.val] at hv; exact hv
  | agg cells =>
    have h1 := rs_of h (by simp)
    cases h1 with
    | agg _ cs hl h1 h2 =>
      simp only [V.val] at hv
      cases hm : cells.mapM leafVal with
      | none => rw [hm] at hv; simp at hv
      | some l =>
        rw [hm] at hv; simp at hv; subst hv
        congr 1
        obtain ⟨hll, hg⟩ := mapM_get _ _ _ hm
        apply Array.ext'
        apply List.ext_getElem?
        intro i
        by_cases hi : i < cells.length
        · have hc : cs[i]? = some (cs[i]'(by omega)) := Array.getElem?_eq_getElem (by omega)
          have hv := List.getElem?_eq_getElem hi
          have hlv : l[i]? = some (l[i]'(by omega)) := List.getElem?_eq_getElem (by omega)
          have h3 := h2 i _ _ hv hc
          have h4 := hg i _ _ hv hlv
          have : cs[i]'(by omega) = l[i]'(by omega) := leafVal_rel h3 h4
          simp only [Array.getElem?_toList, List.getElem?_toArray] at *
          rw [hc, hlv, this]
        · rw [List.getElem?_eq_none (by simp; omega), List.getElem?_eq_none (by simp; omega)]
  | _ => simp [V.val] at hv

theorem ofValV_rel {v : Value} {x : V} (h : ofValV v = some x) : RV w N L x v := by
  unfold ofValV at h
  split at h
  · injection h with h; subst h; exact .nils
  · rename_i cs
    exact rv_const (v := .agg cs) h
  · rename_i cs
    cases hm : (cs.toList.mapM leafOf) with
    | none => rw [hm] at h; simp at h
    | some l =>
      rw [hm] at h; simp at h; subst h
      obtain ⟨hl, hg⟩ := mapM_get _ _ _ hm
      exact .tup l cs (by rw [hl]; simp) (fun i v c hv hc => (rv_leaf (hg i c v (by simpa using hc) hv)).1)
  · cases h1 : ofVal v with
    | none => rw [h1] at h; simp at h
    | some d => rw [h1] at h; simp at h; subst h; exact .d _ _ (rd_of_val h1)

theorem evOpd_rel {x : Operand} {v : Value} (hf : FRel w N L ts a) (h : evOpd ts x = some v) : a.eval x = v := by
  cases x with
  | tmp t => exact val_rel (ev_rel hf (x := .tmp t) rfl) h
  | const c => simp [evOpd] at h; exact h
  | global g => simp [evOpd] at h
  | func f => simp [evOpd] at h; subst h; rfl

theorem good_sc {o : Oper} {v : V} (hsel : ∀ cs b, o.op ≠ .select cs b) (hs : SRel w N L σ) (hf : FRel w N L ts a) (h : scal P ts o.op o.type = some v) : Good P (execOp a.eval o) w N L σ nxt v [] := by
  unfold scal at h
  split at h
  · rename_i hall
    split at h
    · rename_i c hr
      have hev : ∀ x ∈ o.op.operands, a.eval x = (fun x => (evOpd ts x).getD undef) x := by
        intro x hx
        rw [Array.all_eq_true] at hall
        obtain ⟨i, hi, e⟩ := Array.getElem_of_mem hx
        have := hall i hi
        rw [e] at this
        obtain ⟨u, hu⟩ := Option.isSome_iff_exists.1 this
        rw [evOpd_rel hf hu]; simp [hu]
      have h1 := pureRun_run hr w
      have h2 : execOp a.eval o = execOp (fun x => (evOpd ts x).getD undef) o := execOp_congr o hsel hev
      have h3 : execOp (fun x => (evOpd ts x).getD undef) o = execOp (fun x => (evOpd ts x).getD undef) { dst := none, op := o.op, type := o.type, pos := "", after := #[], guard := none } := rfl
      exact good_pure (c := c) (by rw [h2, h3]; exact h1) hs (.inr (ofValV_rel h))
    · cases h
  · cases h

theorem good_bin {o : Oper} {op : BinOp} {t u : TypeId} {x y : Operand} {x' y' : O} {v : V} (ho : o.op = .binOp op t x y u) (hx : oOf x = some x') (hy : oOf y = some y') (hs : SRel w N L σ) (hf : FRel w N L ts a)
    (h : binD P op t (x'.ev ts) (y'.ev ts) = some v) : Good P (execOp a.eval o) w N L σ nxt v [] := by
  have hx1 := ev_rel hf hx
  have hy1 := ev_rel hf hy
  have fin : ∀ (p q : Value) (r : Value) (d : D), a.eval x = p → a.eval y = q → (eqGuard op t x y p q).run P w = .ok () w → pureRun P (binOp op t p q) = some r → ofVal r = some d → v = .d d → Good P (execOp a.eval o) w N L σ nxt v [] := by
    intro p q r d hp hq hg hr hd hv
    subst hv
    refine good_pure (c := r) ?_ hs (.inr (.d _ _ (rd_of_val hd)))
    simp only [execOp, ho, hp, hq, Sem.run_bind, hg, pureRun_run hr w, Result.andThen_ok, Sem.run_pure]
  have split2 : ∀ (p q : Value), ((pureRun P (binOp op t p q)).bind fun v => (ofVal v).map V.d) = some v → a.eval x = p → a.eval y = q → (eqGuard op t x y p q).run P w = .ok () w → Good P (execOp a.eval o) w N L σ nxt v [] := by
    intro p q hb hp hq hg
    cases hr : pureRun P (binOp op t p q) with
    | none => rw [hr] at hb; simp at hb
    | some r =>
      rw [hr] at hb
      simp only [Option.bind_some] at hb
      cases hd : ofVal r with
      | none => rw [hd] at hb; simp at hb
      | some d => rw [hd] at hb; simp at hb; exact fin p q r d hp hq hg hr hd hb.symm
  generalize hxe : x'.ev ts = xe at h hx1
  generalize hye : y'.ev ts = ye at h hy1
  unfold binD at h
  split at h
  · rename_i dx dy
    split at h
    · rename_i k m k' n
      have e1 := rs_int hx1
      have e2 := rs_int hy1
      have hg : (eqGuard op t x y (.int k m) (.int k' n)).run P w = .ok () w := by cases op <;> rfl
      split at h
      · exact split2 _ _ h e1 e2 hg
      · split at h
        · exact split2 _ _ h e1 e2 hg
        · exact split2 _ _ h e1 e2 hg
        · cases h
    · have e1 := rs_str hx1
      have e2 := rs_str hy1
      exact split2 _ _ h e1 e2 (by cases op <;> rfl)
    · have e1 : a.eval x = _ := val_rel hx1 rfl
      have e2 : a.eval y = _ := val_rel hy1 rfl
      exact split2 _ _ h e1 e2 (by cases op <;> rfl)
    · have e1 : a.eval x = _ := val_rel hx1 rfl
      have e2 : a.eval y = _ := val_rel hy1 rfl
      exact split2 _ _ h e1 e2 (by cases op <;> rfl)
    · cases h
  · cases h

end Go.Vm
namespace Go.Vm
variable {P : Program} {w : World} {N : Nat → Prop} {L : Lmap} {σ : Store} {nxt : Nat} {ts : List V} {a : Act}

theorem asInt_rel {v : V} {n : Int} {c : Value} (h : RS w N L v c) (hv : asInt v = some n) : ∃ k, c = .int k n := by
  cases v with
  | d x =>
    cases x with
    | int k m => simp [asInt] at hv; subst hv; exact ⟨k, rs_int h⟩
    | _ => simp [asInt] at hv
  | _ => simp [asInt] at hv

theorem run_sliceBound {c : Value} {k : IntKind} {n : Int} {y : Nat} (code : BoundsCode) (hc : c = .int k n) (h0 : 0 ≤ n) (h1 : n ≤ y) : (Instr.sliceBound c y code).run P w = .ok n.toNat w := by
  subst hc
  simp [Instr.sliceBound, asIntOf, h0, h1]

theorem run_bounds {b : Bool} {len cap : Nat} {lo hi : Option Operand} {lo' hi' : Option O} (hf : FRel w N L ts a) (hlo : lo.elim (some none) (fun x => (oOf x).map some) = some lo') (hhi : hi.elim (some none) (fun x => (oOf x).map some) = some hi')
    {lim : Int} {h l : Nat} (hlim : lim ≤ cap) (hh : bound lim (hi'.map (O.ev ts)) len = some h) (hl : bound h (lo'.map (O.ev ts)) 0 = some l) :
    (Instr.sliceBounds b len cap (lo.map a.eval) (hi.map a.eval) none).run P w = .ok (l, h, cap) w := by
  have pick : ∀ (op : Option Operand) (op' : Option O) (lim : Int) (d r : Nat), op.elim (some none) (fun x => (oOf x).map some) = some op' → bound lim (op'.map (O.ev ts)) d = some r →
      (op = none ∧ r = d) ∨ ∃ x k n, op = some x ∧ a.eval x = .int k n ∧ 0 ≤ n ∧ n ≤ lim ∧ r = n.toNat := by
    intro op op' lim d r ho hb
    cases op with
    | none => simp at ho; subst ho; simp [bound] at hb; exact .inl ⟨rfl, hb.symm⟩
    | some x =>
      simp only [Option.elim] at ho
      cases hx : oOf x with
      | none => rw [hx] at ho; simp at ho
      | some y =>
        rw [hx] at ho; simp at ho; subst ho
        simp only [Option.map_some, bound] at hb
        cases hn : asInt (O.ev ts y) with
        | none => rw [hn] at hb; simp at hb
        | some n =>
          rw [hn] at hb; simp only at hb
          split at hb
          · rename_i hc; injection hb with hb
            obtain ⟨k, hk⟩ := asInt_rel (ev_rel hf hx) hn
            exact .inr ⟨x, k, n, rfl, hk, hc.1, hc.2, hb.symm⟩
          · cases hb
  have hi1 := pick _ _ _ _ _ hhi hh
  have lo1 := pick _ _ _ _ _ hlo hl
  unfold Instr.sliceBounds
  rcases hi1 with ⟨rfl, rfl⟩ | ⟨x, k, n, rfl, hx, h0, h1, rfl⟩
  · rcases lo1 with ⟨rfl, rfl⟩ | ⟨x', k', n', rfl, hx', h0', h1', rfl⟩
    · simp
    · have e := run_sliceBound (P := P) (w := w) (y := h) .sliceB hx' h0' h1'
      simp [e]
  · have e := run_sliceBound (P := P) (w := w) (y := cap) (if b then .sliceAcap else .sliceAlen) hx h0 (by omega)
    rcases lo1 with ⟨rfl, rfl⟩ | ⟨x', k', n', rfl, hx', h0', h1', rfl⟩
    · simp [e]
    · have e' := run_sliceBound (P := P) (w := w) (y := n.toNat) .sliceB hx' h0' h1'
      simp [e, e']

theorem bound_le {lim : Int} {ov : Option V} {d n : Nat} (h : bound lim ov d = some n) (hd : (d : Int) ≤ lim) : (n : Int) ≤ lim := by
  cases ov with
  | none => simp [bound] at h; subst h; exact hd
  | some v =>
    simp only [bound] at h
    cases hn : asInt v with
    | none => rw [hn] at h; simp at h
    | some m =>
      rw [hn] at h; simp only at h
      split at h
      · injection h with h; omega
      · cases h

theorem good_sl {o : Oper} {t e : TypeId} {s : Nat} {x : Operand} {y : O} {lo hi : Option Operand} {lo' hi' : Option O} {v : V} (ho : o.op = .slice t x lo hi none) (hu : P.underlying t = some (.slice e)) (hz : szP P e = some s)
    (hx : oOf x = some y) (hlo : lo.elim (some none) (fun x => (oOf x).map some) = some lo') (hhi : hi.elim (some none) (fun x => (oOf x).map some) = some hi') (hs : SRel w N L σ) (hf : FRel w N L ts a)
    (h : sliceV σ s (y.ev ts) (lo'.map (O.ev ts)) (hi'.map (O.ev ts)) = some v) (hstr : ∀ q, y.ev ts ≠ .d (.str q)) : Good P (execOp a.eval o) w N L σ nxt v [] := by
  have h1 := ev_rel hf hx
  have fin : ∀ (ad : Option Addr) (len cap l h : Nat) (lim : Int), a.eval x = .slice ad len cap → lim ≤ cap → bound lim (hi'.map (O.ev ts)) len = some h → bound h (lo'.map (O.ev ts)) 0 = some l →
      RS w N L v (.slice (if cap = l then ad else ad.map (·.add (l * s))) (h - l) (cap - l)) → Good P (execOp a.eval o) w N L σ nxt v [] := by
    intro ad len cap l h lim hc hlim hh hl hr
    refine good_pure (c := .slice (if cap = l then ad else ad.map (·.add (l * s))) (h - l) (cap - l)) ?_ hs hr
    simp only [execOp, ho, hc, Instr.sliceAt, Sem.run_bind, run_underlying hu, Result.andThen_ok, Option.map_none, Instr.slice, run_bounds hf hlo hhi hlim hh hl, szP_some hz, Sem.run_pure]
  generalize hye : y.ev ts = ye at h h1 hstr
  generalize hce : a.eval x = ce at h1
  cases ye with
  | d dx =>
    cases dx with
    | str q => exact absurd rfl (hstr q)
    | lst xs =>
      simp only [sliceV] at h
      split at h
      · cases h
      · rename_i hcond
        cases hh : bound xs.length (hi'.map (O.ev ts)) xs.length with
        | none => rw [hh] at h; simp at h
        | some hn =>
          rw [hh] at h; simp only [Option.bind_some] at h
          cases hl : bound hn (lo'.map (O.ev ts)) 0 with
          | none => rw [hl] at h; simp at h
          | some ln =>
            rw [hl] at h; simp only [Option.bind_some] at h; injection h with h; subst h
            have h2 := rs_of h1 (by simp)
            cases h2 with
            | d _ _ h2 =>
              cases h2 with
              | lst _ ad cap s' cs hcap hsl ha hr =>
                have hhl := bound_le hh (by omega)
                have hll := bound_le hl (by omega)
                refine fin _ _ _ ln hn xs.length hce (by omega) hh hl (.inr (.d _ _ ?_))
                have hlen : ((xs.take hn).drop ln).length = hn - ln := by simp; omega
                rw [← hlen]
                have get_of : ∀ (i : Nat) (z : List D), ((xs.take hn).drop ln)[i]? = some z → xs[ln + i]? = some z := by
                  intro i z hz'
                  rw [List.getElem?_drop, List.getElem?_take] at hz'
                  split at hz'
                  · exact hz'
                  · cases hz'
                refine .lst _ _ _ s' (fun i k => cs (ln + i) k) (by omega) (fun i z hz' => hsl _ _ (get_of i z hz')) (fun hne => ?_) (fun i z k yv hz' hk => hr _ _ _ _ (get_of i z hz') hk)
                have hpos : ln < hn := by
                  rcases Nat.lt_or_ge ln hn with h3 | h3
                  · exact h3
                  · exact absurd (List.eq_nil_of_length_eq_zero (by omega)) hne
                have hxne : xs ≠ [] := by rintro rfl; simp at hhl; omega
                obtain ⟨b, of, rfl, hb, hc⟩ := ha hxne
                have hss : s' = s := by
                  have hx0 : xs[ln]? = some (xs[ln]'(by omega)) := List.getElem?_eq_getElem (by omega)
                  have h4 := hsl _ _ hx0
                  have h5 : xs.all (·.length == s) = true := by
                    cases hb2 : xs.all (·.length == s) with
                    | true => rfl
                    | false => exact absurd (.inr hb2) hcond
                  rw [List.all_eq_true] at h5
                  have := h5 _ (List.getElem_mem (show ln < xs.length by omega))
                  simp at this; omega
                rw [if_neg (by omega)]
                refine ⟨b, of + ln * s, by simp [add_plain], hb, fun i z k yv hz' hk => ?_⟩
                have := hc _ _ _ _ (get_of i z hz') hk
                rw [← this, hss]
                congr 2
                rw [Nat.add_mul]; omega
    | _ => simp [sliceV] at h
  | nils =>
    simp only [sliceV] at h
    split at h
    · cases h
    · cases hh : bound 0 (hi'.map (O.ev ts)) 0 with
      | none => rw [hh] at h; simp at h
      | some hn =>
        rw [hh] at h; simp only [Option.bind_some] at h
        cases hl : bound hn (lo'.map (O.ev ts)) 0 with
        | none => rw [hl] at h; simp at h
        | some ln =>
          rw [hl] at h; simp only [Option.bind_some] at h; injection h with h; subst h
          have h2 := rs_of h1 (by simp)
          cases h2
          have h3 := bound_le hh (by omega)
          have h4 := bound_le hl (by omega)
          have : hn = 0 := by omega
          subst this
          have : ln = 0 := by omega
          subst this
          exact fin none 0 0 0 0 0 hce (by omega) hh hl (.inr (by simpa using RV.nils))
  | arr id off len =>
    simp only [sliceV] at h
    have h2 := rs_of h1 (by simp)
    cases h2 with
    | arr _ _ _ l ad cap hl2 hc hle ha =>
      have main : ∀ (s' : Nat) (xs : List (List D)), l.s = s' → xs.length ≤ l.cap →
          (if off + len ≤ xs.length ∧ s' = s then (bound ((xs.length - off : Nat) : Int) (hi'.map (O.ev ts)) len).bind fun h => (bound h (lo'.map (O.ev ts)) 0).bind fun l => some (V.arr id (off + l) (h - l)) else none) = some v → Good P (execOp a.eval o) w N L σ nxt v [] := by
        intro s' xs hls hcap h
        split at h
        · rename_i hcnd
          cases hh : bound ((xs.length - off : Nat) : Int) (hi'.map (O.ev ts)) len with
          | none => rw [hh] at h; simp at h
          | some hn =>
            rw [hh] at h; simp only [Option.bind_some] at h
            cases hl : bound hn (lo'.map (O.ev ts)) 0 with
            | none => rw [hl] at h; simp at h
            | some ln =>
              rw [hl] at h; simp only [Option.bind_some] at h; injection h with h; subst h
              have h3 := bound_le hh (by omega)
              have h4 := bound_le hl (by omega)
              refine fin ad len cap ln hn _ hce (by omega) hh hl (.inr ?_)
              refine .arr id (off + ln) (hn - ln) l _ (cap - ln) hl2 (by omega) (by omega) (fun hpos => ?_)
              rw [if_neg (by omega), ha (by omega)]
              simp only [Option.map_some, add_plain]
              congr 2
              rw [hls, hcnd.2, Nat.add_mul]; omega
        · cases h
      cases hg : σ.get id with
      | none => rw [hg] at h; simp at h
      | some ob =>
        rw [hg] at h
        have hor := hs.obj id ob hg
        cases ob with
        | row s' xs =>
          obtain ⟨l3, _, _, hl3, h5, _, h6, _⟩ := hor
          rw [hl2] at hl3; injection hl3 with hl3; subst hl3
          exact main s' xs h5 h6 h
        | imm s' xs =>
          obtain ⟨l3, hl3, h5, _, h6, _⟩ := hor
          rw [hl2] at hl3; injection hl3 with hl3; subst hl3
          exact main s' xs h5 h6 h
        | box vs => simp at h
  | _ => simp [sliceV] at h

theorem good_sl_str {o : Oper} {t : TypeId} {x : Operand} {y : O} {lo hi : Option Operand} {lo' hi' : Option O} {q : ByteArray} {l h : Nat} (ho : o.op = .slice t x lo hi none) (hu : P.underlying t = some .string)
    (hx : oOf x = some y) (hlo : lo.elim (some none) (fun x => (oOf x).map some) = some lo') (hhi : hi.elim (some none) (fun x => (oOf x).map some) = some hi') (hs : SRel w N L σ) (hf : FRel w N L ts a)
    (hy : y.ev ts = .d (.str q)) (hh : bound q.size (hi'.map (O.ev ts)) q.size = some h) (hl : bound h (lo'.map (O.ev ts)) 0 = some l) : Good P (execOp a.eval o) w N L σ nxt (.d (.str (q.extract l h))) [] := by
  have h1 := ev_rel hf hx
  rw [hy] at h1
  have h2 := rs_str h1
  refine good_pure (c := .string (q.extract l h)) ?_ hs (.inr (.d _ _ (.str _)))
  simp only [execOp, ho, h2, Instr.sliceAt, Sem.run_bind, run_underlying hu, Result.andThen_ok, Option.map_none, Instr.slice, Option.isSome_none, Bool.false_eq_true, if_false]
  rw [run_bounds hf hlo hhi (Int.le_refl _) hh hl]
  simp

end Go.Vm
