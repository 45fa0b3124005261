/- A part of the proofs of the statements BatchTells and BatchNumbers: Vs21, Vs22, Vs23, Vs24. Conditions: none of its own. -/
import Derived.Test.YtoaafpebcdfniaaGreatT06
import Derived.Scope
set_option linter.unusedSimpArgs false
set_option linter.unusedVariables false
set_option linter.unnecessarySimpa false
set_option linter.all false
namespace Go.Vm
variable {P : Program} {w : World} {N : Nat → Prop} {L : Lmap} {σ : Store} {nxt : Nat} {ts : List V} {a : Act}

/-- How far a function's run has come, from the world w0. -/
structure St (w0 : World) (N0 : Nat → Prop) (L0 : Lmap) (σ0 : Store) (m : Nat) (s : Fr) (a : Act) (w : World) (N : Nat → Prop) (L : Lmap) : Prop where
  evo : Evo w0 N0 L0 σ0 w N L s.σ
  rel : SRel w N L s.σ
  fr : FRel w N L s.tmps a
  df : a.defers = []
  lm : ∀ id, id < m → L id = L0 id
  lt : ∀ id l, L id = some l → id < s.σ.length
  ml : m ≤ s.σ.length

theorem frel_put {w' : World} {N' : Nat → Prop} {L' : Lmap} {v : V} {c : Value} {d : Option Nat} (hf : FRel w' N' L' ts a) (hv : RS w' N' L' v c) : FRel w' N' L' (putO ts d v) (a.put d c) := by
  cases d with
  | none => exact hf
  | some i =>
    refine ⟨by simp [putO, Act.put, hf.size], fun j v' c' h1 h2 => ?_⟩
    simp only [putO, List.getElem?_set] at h1
    simp only [Act.put, Array.getElem?_setIfInBounds] at h2
    split at h1
    · rename_i e
      subst e
      split at h1
      · rename_i hi
        rw [if_pos rfl, if_pos (by rw [hf.size]; exact hi)] at h2
        injection h1 with h1; injection h2 with h2; subst h1; subst h2
        exact hv
      · cases h1
    · rename_i e
      rw [if_neg e] at h2
      exact hf.slot j v' c' h1 h2

theorem frel_mono {w' : World} {N' : Nat → Prop} {L' : Lmap} (hf : FRel w N L ts a) (hn : ∀ b, N b → N' b) (hw : ∀ b, N b → w'.heap[b]? = w.heap[b]?) (hL : ∀ id l, L id = some l → L' id = some l) : FRel w' N' L' ts a :=
  ⟨hf.size, fun i v c h1 h2 => (hf.slot i v c h1 h2).mono hn hw hL⟩

theorem put_defers' {d : Option Nat} {c : Value} : (a.put d c).defers = a.defers := by cases d <;> rfl

theorem st_op {w0 : World} {N0 : Nat → Prop} {L0 : Lmap} {σ0 : Store} {m : Nat} {s : Fr} {v : V} {δ : Delta} {c : Value} {w' : World} {N' : Nat → Prop} {L' : Lmap} {d : Option Nat}
    (h : St w0 N0 L0 σ0 m s a w N L) (hl : Left w N L s.σ s.σ.length v δ c w' N' L') : St w0 N0 L0 σ0 m ⟨putO s.tmps d v, s.σ.app δ⟩ (a.put d c) w' N' L' where
  evo := h.evo.trans hl.evo
  rel := hl.rel
  fr := frel_put (frel_mono h.fr hl.evo.nmono (h.rel.kept hl.evo) hl.lm) hl.val
  df := by rw [put_defers']; exact h.df
  lm := by
    intro id hid
    have hml := h.ml
    cases hL : L id with
    | some l => rw [hl.lm id l hL, ← h.lm id hid, hL]
    | none =>
      rw [← h.lm id hid, hL]
      cases hL' : L' id with
      | none => rfl
      | some l =>
        rcases hl.new id l hL' with h1 | ⟨p, hp, h1, h2⟩
        · rw [hL] at h1; cases h1
        · omega
  lt := by
    intro id l hL'
    rcases hl.new id l hL' with h1 | ⟨p, hp, h1, h2⟩
    · exact Nat.lt_of_lt_of_le (h.lt id l h1) (length_app _ _)
    · rw [← h1]; exact lt_length_app _ _ p hp
  ml := Nat.le_trans h.ml (length_app _ _)

theorem st_skip {w0 : World} {N0 : Nat → Prop} {L0 : Lmap} {σ0 : Store} {m : Nat} {s : Fr} {d : Option Nat}
    (h : St w0 N0 L0 σ0 m s a w N L) : St w0 N0 L0 σ0 m ⟨putO s.tmps d (.tup []), s.σ⟩ (a.put d undef) w N L :=
  ⟨h.evo, h.rel, frel_put h.fr (.inr (.tup _ _ rfl (by intro i v c h1; simp at h1))), by rw [put_defers']; exact h.df, h.lm, h.lt, h.ml⟩

theorem compY_all {ops : Array Oper} {ys : List Y} (h : ops.toList.mapM (compY P) = some ys) : ys.length = ops.size ∧ ∀ (i : Nat) (o : Oper) (y : Y), ops[i]? = some o → ys[i]? = some y → y.dst = o.dst ∧ y.g = o.guard ∧ comp P o.op o.type = some y.x := by
  obtain ⟨hl, hi⟩ := mapM_get _ _ _ h
  refine ⟨by simpa using hl, fun i o y ho hy => ?_⟩
  have := hi i o y (by simpa [← Array.getElem?_toList] using ho) hy
  unfold compY at this
  cases hc : comp P o.op o.type with
  | none => rw [hc] at this; simp at this
  | some x => rw [hc] at this; simp at this; subst this; exact ⟨rfl, rfl, rfl⟩

theorem wanted_rel {ops : Array Oper} {ys : List Y} {o : Oper} {g : Option (Nat × Bool)} {b : Bool} (h : ops.toList.mapM (compY P) = some ys) (hg : g = o.guard) (hf : FRel w N L ts a) (hw : wanted ts ys g = some b) :
    Region.wanted o (yielded ops a.tmps) = b := by
  obtain ⟨hl, hi⟩ := compY_all h
  subst hg
  unfold wanted at hw
  unfold Region.wanted
  split at hw
  · rename_i hgo; rw [hgo]; simpa using hw
  · rename_i j want hgo
    rw [hgo]
    simp only
    split at hw
    · rename_i t ht
      cases hyj : ys[j]? with
      | none => rw [hyj] at ht; simp at ht
      | some y =>
        rw [hyj] at ht; simp at ht
        have hjl : j < ops.size := by
          rw [← hl]
          rcases Nat.lt_or_ge j ys.length with h' | h'
          · exact h'
          · rw [List.getElem?_eq_none h'] at hyj; cases hyj
        obtain ⟨hd, -, -⟩ := hi j ops[j] y (Array.getElem?_eq_getElem hjl) hyj
        have hdd : (ops[j]?).bind (·.dst) = some t := by rw [Array.getElem?_eq_getElem hjl]; simp [← hd, ht]
        unfold yielded
        rw [hdd]
        simp only [Option.bind_some]
        rcases Nat.lt_or_ge t ts.length with htl | htl
        · have h1 : ts[t]? = some ts[t] := List.getElem?_eq_getElem htl
          have h2 : a.tmps[t]? = some (a.tmps[t]'(by rw [hf.size]; exact htl)) := Array.getElem?_eq_getElem _
          have hr := hf.slot t _ _ h1 h2
          rw [h2]
          generalize a.tmps[t]'(by rw [hf.size]; exact htl) = c at hr ⊢
          have h3 : ts.getD t .bot = ts[t] := by simp [List.getD, h1]
          rw [h3] at hw
          generalize ts[t] = v at hw hr
          split at hw
          · rename_i x
            injection hw with hw
            have := rs_of hr (by simp)
            cases this with
            | d _ _ hd => cases hd; simp [← hw]
          · injection hw with hw
            have := rs_of hr (by simp)
            cases this with
            | tup _ cs hl2 _ =>
              simp [← hw]
          · cases hw
        · have : ts.getD t .bot = .bot := by simp [List.getD, List.getElem?_eq_none htl]
          rw [this] at hw; cases hw
    · cases hw

/-- What an operation's step in a region asks. -/
theorem step_wp {Γ : Env} (hΓ : SoundEnv P Γ) {R : FuncId → List Bool} {ops : Array Oper} {ys : List Y} (hc : ops.toList.mapM (compY P) = some ys) {i : Nat} {y : Y} (hy : ys[i]? = some y)
    {K : Act → World → Prop} {Q : Exit → Act → World → Prop} (hs : SRel w N L σ) (hf : FRel w N L ts a)
    (h : (wanted ts ys y.g = some false ∧ K (a.put y.dst undef) w) ∨ (wanted ts ys y.g = some true ∧ ∃ v δ, opV P Γ R ts σ nxt y.x = some (v, δ) ∧ (∀ p ∈ δ, nxt ≤ p.1 → L p.1 = none) ∧
      ∀ c w' N' L', Left w N L σ nxt v δ c w' N' L' → K (a.put y.dst c) w')) : wpOp P ops Q i K a w := by
  obtain ⟨hl, hi⟩ := compY_all hc
  have hil : i < ops.size := by
    rw [← hl]
    rcases Nat.lt_or_ge i ys.length with h' | h'
    · exact h'
    · rw [List.getElem?_eq_none h'] at hy; cases hy
  have ho : ops[i]? = some ops[i] := Array.getElem?_eq_getElem hil
  obtain ⟨hd, hg, hx⟩ := hi i _ y ho hy
  unfold wpOp
  rw [ho]
  simp only
  rcases h with ⟨hw, hk⟩ | ⟨hw, v, δ, hv, hfr, hk⟩
  · rw [wanted_rel hc hg hf hw]
    simp only [Bool.false_eq_true, if_false]
    rw [← hd]; exact hk
  · rw [wanted_rel hc hg hf hw]
    simp only [if_true]
    refine .inl (op_wp hΓ hx hs hf hfr hv fun c w' N' L' hl => ?_)
    rw [← hd]; exact hk c w' N' L' hl

theorem ops_wp {Γ : Env} (hΓ : SoundEnv P Γ) {R : FuncId → List Bool} {ops : Array Oper} {ys : List Y} (hc : ops.toList.mapM (compY P) = some ys) {Q : Exit → Act → World → Prop}
    {w0 : World} {N0 : Nat → Prop} {L0 : Lmap} {σ0 : Store} {m : Nat} {s' : Fr} (hq : ∀ a w N L, St w0 N0 L0 σ0 m s' a w N L → Q .normal a w) :
    ∀ (rest : List Y) (k : Nat), rest = ys.drop k → ∀ {s : Fr} {a : Act} {w : World} {N : Nat → Prop} {L : Lmap}, Vm.ops P Γ R ys rest s = some s' → St w0 N0 L0 σ0 m s a w N L → wpOps P ops Q (List.range' k rest.length) a w := by
  intro rest
  induction rest with
  | nil =>
    intro k _ s a w N L h hst
    simp only [Vm.ops, Option.some.injEq] at h
    subst h
    exact hq _ _ _ _ hst
  | cons y r ih =>
    intro k hk s a w N L h hst
    have hyk : ys[k]? = some y := by
      have : (ys.drop k)[0]? = some y := by rw [← hk]; rfl
      simpa using this
    have hr : r = ys.drop (k + 1) := by
      have : (ys.drop k).tail = r := by rw [← hk]; rfl
      rw [← this]; simp
    rw [List.length_cons, List.range'_succ, wpOps_cons]
    unfold Vm.ops at h
    split at h
    · rename_i hw
      split at h
      · rename_i v δ hv
        refine step_wp hΓ hc hyk hst.rel hst.fr (.inr ⟨hw, v, δ, hv, ?_, ?_⟩)
        · intro p hp hge
          cases hL : L p.1 with
          | none => rfl
          | some l => have := hst.lt _ _ hL; omega
        · intro c w' N' L' hl
          exact ih (k + 1) hr h (st_op hst hl)
      · cases h
    · rename_i hw
      exact step_wp (R := R) (nxt := 0) hΓ hc hyk hst.rel hst.fr (.inl ⟨hw, ih (k + 1) hr h (st_skip hst)⟩)
    · cases h

end Go.Vm
namespace Go.Vm
variable {P : Program} {σ σ' : Store} {nxt : Nat} {ts ts' : List V}

theorem mem_addIds {i : Nat} : ∀ (l seen : List Nat), i ∈ addIds seen l ↔ i ∈ seen ∨ i ∈ l
  | [], seen => by simp [addIds]
  | j :: r, seen => by
    rw [addIds, mem_addIds r]
    split
    · rename_i h
      have : j ∈ seen := by simpa using h
      constructor
      · rintro (h | h); exact .inl h; exact .inr (List.mem_cons_of_mem _ h)
      · rintro (h | h)
        · exact .inl h
        · rcases List.mem_cons.1 h with rfl | h
          · exact .inl this
          · exact .inr h
    · rw [List.mem_append, List.mem_singleton, List.mem_cons, or_assoc]

def expand (σ : Store) (seen : List Nat) : List Nat := seen.flatMap fun i => match σ.get i with | some o => o.ids | none => []

theorem reach_step (σ : Store) (n : Nat) (seen : List Nat) : reach σ (n + 1) seen = if (addIds seen (expand σ seen)).length = seen.length then seen else reach σ n (addIds seen (expand σ seen)) := rfl

theorem mem_expand {σ : Store} {s s2 : List Nat} (h : ∀ i ∈ s, i ∈ s2) : ∀ i ∈ expand σ s, i ∈ expand σ s2 := by
  intro i hi
  simp only [expand, List.mem_flatMap] at hi ⊢
  obtain ⟨j, hj, hi⟩ := hi
  exact ⟨j, h j hj, hi⟩

theorem stop_closed {σ : Store} {s : List Nat} (h : (addIds s (expand σ s)).length = s.length) : ∀ i ∈ expand σ s, i ∈ s := by
  intro i hi
  have := (addIds_prefix (expand σ s) s).eq_of_length h.symm
  rw [this]
  exact (mem_addIds _ _).2 (.inr hi)

theorem closed_reach {σ : Store} {s2 : List Nat} (hc : ∀ i ∈ expand σ s2, i ∈ s2) : ∀ (n : Nat) (s : List Nat), (∀ i ∈ s, i ∈ s2) → ∀ i ∈ reach σ n s, i ∈ s2
  | 0, s, h => h
  | n + 1, s, h => by
    rw [reach_step]
    split
    · exact h
    · refine closed_reach hc n _ fun i hi => ?_
      rcases (mem_addIds _ _).1 hi with hi | hi
      · exact h i hi
      · exact hc i (mem_expand h i hi)

theorem reach_mono {σ : Store} : ∀ (n : Nat) (s s2 : List Nat), (∀ i ∈ s, i ∈ s2) → ∀ i ∈ reach σ n s, i ∈ reach σ n s2
  | 0, s, s2, h => h
  | n + 1, s, s2, h => by
    rw [reach_step, reach_step]
    by_cases h2 : (addIds s2 (expand σ s2)).length = s2.length
    · rw [if_pos h2]
      intro i hi
      have : i ∈ reach σ (n + 1) s := by rw [reach_step]; exact hi
      exact closed_reach (stop_closed h2) (n + 1) s h i this
    · rw [if_neg h2]
      split
      · intro i hi
        exact (reach_prefix σ n _).subset ((mem_addIds _ _).2 (.inl (h i hi)))
      · refine reach_mono n _ _ fun i hi => ?_
        rcases (mem_addIds _ _).1 hi with hi | hi
        · exact (mem_addIds _ _).2 (.inl (h i hi))
        · exact (mem_addIds _ _).2 (.inr (mem_expand h i hi))

theorem reach_congr : ∀ (n : Nat) (s : List Nat), (∀ i ∈ reach σ n s, σ'.get i = σ.get i) → reach σ' n s = reach σ n s
  | 0, s, h => rfl
  | n + 1, s, h => by
    have he : expand σ' s = expand σ s := by
      have : ∀ i ∈ s, σ'.get i = σ.get i := fun i hi => h i ((reach_prefix σ (n + 1) s).subset hi)
      unfold expand
      clear h
      induction s with
      | nil => rfl
      | cons j r ih =>
        rw [List.flatMap_cons, List.flatMap_cons, this j (List.mem_cons_self ..), ih fun i hi => this i (List.mem_cons_of_mem _ hi)]
    rw [reach_step, reach_step, he]
    split
    · rfl
    · rename_i hne
      refine reach_congr n _ fun i hi => h i ?_
      rw [reach_step, if_neg hne]; exact hi

def foot (σ : Store) (vs : List V) : List Nat := reach σ 64 (addIds [] (V.ids.idsL vs))

theorem mem_idsL {i : Nat} : ∀ {vs : List V}, i ∈ V.ids.idsL vs ↔ ∃ v ∈ vs, i ∈ v.ids
  | [] => by simp [V.ids.idsL]
  | v :: r => by simp [V.ids.idsL, mem_idsL (vs := r)]

theorem foot_ids {vs : List V} {v : V} {i : Nat} (hv : v ∈ vs) (hi : i ∈ v.ids) : i ∈ foot σ vs :=
  (reach_prefix _ _ _).subset ((mem_addIds _ _).2 (.inr (mem_idsL.2 ⟨v, hv, hi⟩)))

section
variable {v x : V}
theorem elems_congr (h : ∀ id ∈ v.ids, σ'.get id = σ.get id) : elems σ' v = elems σ v := by
  cases v with
  | arr id off len => simp only [elems]; rw [h _ (by simp [V.ids])]
  | d x => cases x <;> rfl
  | _ => rfl

theorem freezeCell_congr (h : ∀ id ∈ v.ids, σ'.get id = σ.get id) : freezeCell σ' v = freezeCell σ v := by
  cases v <;> simp only [freezeCell] <;> rw [elems_congr h]

theorem frozen_ids : ∀ i ∈ frozenIds v, i ∈ v.ids := by
  intro i hi
  cases v with
  | arr id o l => simpa [frozenIds, V.ids] using hi
  | agg cells =>
    simp only [frozenIds, List.mem_filterMap] at hi
    obtain ⟨c, hc, hi⟩ := hi
    cases c <;> simp at hi
    subst hi
    simp only [V.ids]
    exact mem_idsL.2 ⟨_, hc, by simp [V.ids]⟩
  | _ => simp [frozenIds] at hi

theorem frz_congr {ids : List Nat} (h : ∀ id ∈ ids, σ'.get id = σ.get id) : frz σ' ids = frz σ ids := by
  unfold frz
  exact List.map_congr_left fun i hi => by rw [h i hi]

theorem freezeV_congr (h : ∀ id ∈ v.ids, σ'.get id = σ.get id) : freezeV σ' v = freezeV σ v := by
  cases v with
  | agg cells =>
    simp only [freezeV, V.agg.injEq]
    refine List.map_congr_left fun c hc => ?_
    rw [freezeCell_congr fun id hid => h id (by simp only [V.ids]; exact mem_idsL.2 ⟨c, hc, hid⟩)]
  | _ => simp only [freezeV] <;> rw [freezeCell_congr h]

theorem freezeV_ids : ∀ i ∈ (freezeV σ v).ids, i ∈ v.ids := by
  intro i hi
  have one : ∀ c : V, i ∈ (((freezeCell σ c).map V.d).getD c).ids → i ∈ c.ids := by
    intro c hc
    cases hf : freezeCell σ c with
    | none => rw [hf] at hc; exact hc
    | some x => rw [hf] at hc; simp [V.ids] at hc
  cases v with
  | agg cells =>
    simp only [freezeV, V.ids] at hi ⊢
    obtain ⟨c', hc', hi⟩ := mem_idsL.1 hi
    obtain ⟨c, hc, rfl⟩ := List.mem_map.1 hc'
    exact mem_idsL.2 ⟨c, hc, one c hi⟩
  | _ => exact one _ hi

theorem readAt_congr {n : Nat} (h : ∀ id ∈ v.ids, σ'.get id = σ.get id) : readAt σ' n v = readAt σ n v := by
  cases v with
  | ptr id i k => simp only [readAt]; rw [h _ (by simp [V.ids])]
  | _ => rfl

theorem mapM_congr {α β : Type} {f g : α → Option β} : ∀ {l : List α}, (∀ a ∈ l, f a = g a) → l.mapM f = l.mapM g
  | [], h => rfl
  | a :: r, h => by
    rw [List.mapM_cons, List.mapM_cons, h a (List.mem_cons_self ..), mapM_congr fun b hb => h b (List.mem_cons_of_mem _ hb)]

theorem cells_ids {c : V} (hc : c ∈ v.cells) : ∀ i ∈ c.ids, i ∈ v.ids := by
  intro i hi
  cases v with
  | agg cells => simp only [V.cells, V.ids] at hc ⊢; exact mem_idsL.2 ⟨c, hc, hi⟩
  | _ => simp only [V.cells, List.mem_singleton] at hc; subst hc; exact hi

theorem writeAt_congr {n : Nat} (h : ∀ id ∈ v.ids, σ'.get id = σ.get id) (h2 : ∀ id ∈ x.ids, σ'.get id = σ.get id) : writeAt σ' n v x = writeAt σ n v x := by
  unfold writeAt
  split
  · rfl
  · cases v with
    | ptr id i k =>
      simp only [h id (by simp [V.ids])]
      rw [mapM_congr (f := freezeCell σ') (g := freezeCell σ) fun c hc => freezeCell_congr fun id hid => h2 id (cells_ids hc id hid), frz_congr fun id hid => h2 id (frozen_ids id hid)]
    | _ => rfl

theorem sliceV_congr {s : Nat} {lo hi : Option V} (h : ∀ id ∈ v.ids, σ'.get id = σ.get id) : sliceV σ' s v lo hi = sliceV σ s v lo hi := by
  cases v with
  | arr id i k => simp only [sliceV]; rw [h _ (by simp [V.ids])]
  | d x => cases x <;> rfl
  | _ => rfl

theorem srcElems_congr (h : ∀ id ∈ v.ids, σ'.get id = σ.get id) : srcElems σ' v = srcElems σ v := by
  unfold srcElems
  split
  · rfl
  · exact elems_congr h

theorem appendV_congr {s b : Nat} {ys : List (List D)} (h : ∀ id ∈ v.ids, σ'.get id = σ.get id) : appendV σ' nxt s b v ys = appendV σ nxt s b v ys := by
  cases v with
  | arr id i k => unfold appendV; simp only []; rw [h _ (by simp [V.ids])]
  | _ => rfl

theorem copyV_congr {s : Nat} (h : ∀ id ∈ v.ids, σ'.get id = σ.get id) (h2 : ∀ id ∈ x.ids, σ'.get id = σ.get id) : copyV σ' s v x = copyV σ s v x := by
  unfold copyV
  rw [elems_congr h2]
  generalize elems σ x = e
  cases v with
  | arr id i k => cases e with
    | none => rfl
    | some ys => simp only []; rw [h id (by simp [V.ids])]
  | _ => cases e <;> rfl
end

theorem live_congr {l : List Nat} (h : ∀ id ∈ l, σ'.get id = σ.get id) : live σ' l = live σ l := by
  unfold live
  exact List.filter_congr fun i hi => by rw [h i hi]

theorem pack_congr {l : List Nat} (h : ∀ id ∈ l, σ'.get id = σ.get id) : pack σ' l = pack σ l := by
  unfold pack
  exact List.map_congr_left fun i hi => by rw [h i hi]

theorem pass_congr {refs : List Bool} {args : List V} (h : ∀ v ∈ args, ∀ id ∈ v.ids, σ'.get id = σ.get id) : passArgs σ' refs args = passArgs σ refs args := by
  unfold passArgs
  refine List.map_congr_left ?_
  rintro ⟨v, i⟩ hvi
  have hv : v ∈ args := by
    have := List.mem_zipIdx_iff_getElem?.1 hvi
    exact List.mem_of_getElem? this
  show (if _ then _ else _) = (if _ then _ else _)
  rw [freezeV_congr (h v hv)]

theorem pass_ids {refs : List Bool} {args : List V} : ∀ i ∈ V.ids.idsL (passArgs σ refs args), i ∈ V.ids.idsL args := by
  intro i hi
  obtain ⟨v', hv', hi⟩ := mem_idsL.1 hi
  unfold passArgs at hv'
  obtain ⟨⟨v, k⟩, hvk, rfl⟩ := List.mem_map.1 hv'
  have hv : v ∈ args := List.mem_of_getElem? (List.mem_zipIdx_iff_getElem?.1 hvk)
  refine mem_idsL.2 ⟨v, hv, ?_⟩
  simp only at hi
  split at hi
  · exact hi
  · exact freezeV_ids i hi

theorem fr_ids {refs : List Bool} {args : List V} : ∀ i ∈ frzArgs refs args, i ∈ V.ids.idsL args := by
  intro i hi
  unfold frzArgs at hi
  obtain ⟨⟨v, k⟩, hvk, hi⟩ := List.mem_flatMap.1 hi
  have hv : v ∈ args := List.mem_of_getElem? (List.mem_zipIdx_iff_getElem?.1 (List.mem_filter.1 hvk).1)
  exact mem_idsL.2 ⟨v, hv, frozen_ids i hi⟩

theorem callX_congr {Γ : Env} {refs : List Bool} {f : FuncId} {args : List V} (h : ∀ id ∈ foot σ args, σ'.get id = σ.get id) : callX Γ refs f args σ' nxt = callX Γ refs f args σ nxt := by
  have h1 : ∀ v ∈ args, ∀ id ∈ v.ids, σ'.get id = σ.get id := fun v hv id hid => h id (foot_ids hv hid)
  have h2 : ∀ id ∈ V.ids.idsL args, σ'.get id = σ.get id := fun id hid => by
    obtain ⟨v, hv, hi⟩ := mem_idsL.1 hid
    exact h1 v hv id hi
  have hp : passArgs σ' refs args = passArgs σ refs args := pass_congr h1
  have hsub : ∀ i ∈ callIds σ (passArgs σ refs args), i ∈ foot σ args := by
    unfold callIds foot
    refine reach_mono 64 _ _ fun i hi => ?_
    rcases (mem_addIds _ _).1 hi with hi | hi
    · cases hi
    · exact (mem_addIds _ _).2 (.inr (pass_ids i (List.mem_filter.1 hi).1))
  have hl : callIds σ' (passArgs σ refs args) = callIds σ (passArgs σ refs args) := by
    unfold callIds
    rw [live_congr fun id hid => h2 id (pass_ids id hid)]
    exact reach_congr 64 _ fun i hi => h i (hsub i hi)
  unfold callX
  simp only
  rw [hp, hl, pack_congr fun id hid => h id (hsub id hid), frz_congr fun id hid => h2 id (fr_ids id hid)]

theorem fill_mem : ∀ (ps : List (Nat × Nat × V)) (cells cs : List V), fill cells ps = some cs → ∀ c ∈ cs, c ∈ cells ∨ ∃ p ∈ ps, c ∈ p.2.2.cells
  | [], cells, cs, h, c, hc => by simp only [fill, Option.some.injEq] at h; subst h; exact .inl hc
  | (off, size, v) :: r, cells, cs, h, c, hc => by
    simp only [fill] at h
    split at h
    · cases h
    · rcases fill_mem r _ cs h c hc with h1 | ⟨p, hp, h1⟩
      · unfold splice at h1
        rcases List.mem_append.1 h1 with h1 | h1
        · rcases List.mem_append.1 h1 with h1 | h1
          · exact .inl (List.mem_of_mem_take h1)
          · exact .inr ⟨_, List.mem_cons_self .., h1⟩
        · exact .inl (List.mem_of_mem_drop h1)
      · exact .inr ⟨p, List.mem_cons_of_mem _ hp, h1⟩

theorem opV_get {Γ : Env} {R : FuncId → List Bool} {x : X} (h : ∀ id ∈ foot σ (x.opds.map (O.ev ts)), σ'.get id = σ.get id) : opV P Γ R ts σ' nxt x = opV P Γ R ts σ nxt x := by
  have hv : ∀ o ∈ x.opds, ∀ id ∈ (o.ev ts).ids, σ'.get id = σ.get id := fun o ho id hid => h id (foot_ids (List.mem_map.2 ⟨o, ho, rfl⟩) hid)
  cases x with
  | lit s len zero parts =>
    simp only [opV]
    split
    · rfl
    · cases hf : fill ((List.replicate len zero).flatten) (parts.map fun (i, x) => (i * s, s, x.ev ts)) with
      | none => rfl
      | some cs =>
        have hcs : ∀ c ∈ cs, ∀ id ∈ c.ids, σ'.get id = σ.get id := by
          intro c hc id hid
          rcases fill_mem _ _ _ hf c hc with h1 | ⟨p, hp, h1⟩
          · simp only [List.mem_flatten, List.mem_replicate] at h1
            obtain ⟨l, ⟨-, rfl⟩, h1⟩ := h1
            exact hv (.k c) (by simp only [X.opds]; exact List.mem_append.2 (.inr (List.mem_map.2 ⟨c, h1, rfl⟩))) id hid
          · obtain ⟨q, hq, rfl⟩ := List.mem_map.1 hp
            exact hv q.2 (by simp only [X.opds]; exact List.mem_append.2 (.inl (List.mem_map.2 ⟨q, hq, rfl⟩))) id (cells_ids h1 id hid)
        simp only
        rw [mapM_congr (f := freezeCell σ') (g := freezeCell σ) fun c hc => freezeCell_congr (hcs c hc), frz_congr fun id hid => by
          have := frozen_ids id hid
          simp only [V.ids] at this
          obtain ⟨c, hc, hi⟩ := mem_idsL.1 this
          exact hcs c hc id hi]
  | ld ag n y => simp only [opV]; rw [readAt_congr (hv y (by simp [X.opds]))]
  | st n y z => simp only [opV]; rw [writeAt_congr (hv y (by simp [X.opds])) (hv z (by simp [X.opds]))]
  | sl s y lo hi => simp only [opV]; rw [sliceV_congr (hv y (by simp [X.opds]))]
  | app s b y z => simp only [opV]; rw [srcElems_congr (hv z (by simp [X.opds]))]; congr 1; funext ys; rw [appendV_congr (hv y (by simp [X.opds]))]
  | appz s b zr y n =>
    simp only [opV]
    split
    · split
      · rfl
      · rw [appendV_congr (hv y (by simp [X.opds]))]
    · rfl
  | cpy s y z => simp only [opV]; rw [copyV_congr (hv y (by simp [X.opds])) (hv z (by simp [X.opds]))]
  | clr s zr y =>
    have := hv y (by simp [X.opds])
    simp only [opV]
    generalize y.ev ts = yv at this
    cases yv with
    | arr id i k =>
      cases zeroD zr with
      | none => rfl
      | some z => simp only []; rw [copyV_congr this (by simp [V.ids])]
    | _ => cases zeroD zr <;> rfl
  | ixs s y i =>
    have := hv y (by simp [X.opds])
    simp only [opV]
    generalize y.ev ts = yv at this
    cases asInt (i.ev ts) with
    | none => rfl
    | some n =>
      simp only
      split
      · rfl
      · cases yv with
        | arr id i k => simp only []; rw [this _ (by simp [V.ids])]
        | d x => cases x <;> rfl
        | _ => rfl
  | call f args => simp only [opV]; exact callX_congr h
  | callv f args =>
    simp only [opV]
    cases hf : f.ev ts with
    | clo g first caps =>
      simp only
      refine callX_congr fun id hid => h id ?_
      unfold foot at hid ⊢
      refine reach_mono 64 _ _ (fun i hi => ?_) id hid
      rcases (mem_addIds _ _).1 hi with hi | hi
      · cases hi
      · refine (mem_addIds _ _).2 (.inr ?_)
        obtain ⟨v, hv, hi⟩ := mem_idsL.1 hi
        simp only [X.opds, List.map_cons, hf, V.ids.idsL, V.ids, List.mem_append]
        rcases List.mem_append.1 hv with hv | hv
        · rcases List.mem_append.1 hv with hv | hv
          · exact .inl (.inl (mem_idsL.2 ⟨v, hv, hi⟩))
          · exact .inr (mem_idsL.2 ⟨v, hv, hi⟩)
        · exact .inl (.inr (mem_idsL.2 ⟨v, hv, hi⟩))
    | _ => rfl
  | _ => rfl

theorem evOpd_slots {ts ts' : List V} {x : Operand} (h : ∀ i, x = .tmp i → ts'.getD i .bot = ts.getD i .bot) : evOpd ts' x = evOpd ts x := by
  cases x with
  | tmp t => simp only [evOpd]; rw [h t rfl]
  | _ => rfl

theorem scal_slots {o : Op} {ty : TypeId} (hsel : ∀ cs b, o ≠ .select cs b) (h : ∀ i, Operand.tmp i ∈ o.operands → ts'.getD i .bot = ts.getD i .bot) : scal P ts' o ty = scal P ts o ty := by
  have he : ∀ x ∈ o.operands, evOpd ts' x = evOpd ts x := fun x hx => evOpd_slots fun i e => h i (e ▸ hx)
  have h1 : (o.operands.all fun x => (evOpd ts' x).isSome) = (o.operands.all fun x => (evOpd ts x).isSome) := by
    rw [Bool.eq_iff_iff, Array.all_eq_true, Array.all_eq_true]
    constructor
    · intro hh i hi; rw [← he _ (Array.getElem_mem hi)]; exact hh i hi
    · intro hh i hi; rw [he _ (Array.getElem_mem hi)]; exact hh i hi
  unfold scal
  rw [h1]
  split
  · rw [execOp_congr { dst := none, op := o, type := ty, pos := "", after := #[], guard := none } hsel fun x hx => by rw [he x hx]]
  · rfl

theorem opV_looks {Γ : Env} {R : FuncId → List Bool} {x : X} (h : ∀ id ∈ foot σ (x.looks.map (O.ev ts)), σ'.get id = σ.get id) : opV P Γ R ts σ' nxt x = opV P Γ R ts σ nxt x := by
  cases x
  case mv => rfl
  case pick => rfl
  case fa => rfl
  case nchk => rfl
  case fld => rfl
  case ixa => rfl
  case len => rfl
  case slen => rfl
  case cap => rfl
  case ext => rfl
  case bin => rfl
  case isnil => rfl
  case not => rfl
  case beq => rfl
  case conv => rfl
  case sidx => rfl
  case mkf => rfl
  all_goals exact opV_get h

theorem opV_slots {Γ : Env} {R : FuncId → List Bool} {x : X} (h : ∀ i, .t i ∈ x.opds → ts'.getD i .bot = ts.getD i .bot) (h2 : ∀ o ty xs, x = .sc o ty xs → (∀ cs b, o ≠ .select cs b) ∧ ∀ i, Operand.tmp i ∈ o.operands → ts'.getD i .bot = ts.getD i .bot) :
    opV P Γ R ts' σ nxt x = opV P Γ R ts σ nxt x := by
  have he : ∀ o ∈ x.opds, O.ev ts' o = O.ev ts o := fun o ho => by
    cases o with
    | t i => exact h i ho
    | k v => rfl
  cases x with
  | sc o ty xs => simp only [opV]; rw [scal_slots (h2 o ty xs rfl).1 (h2 o ty xs rfl).2]
  | build zero parts =>
    simp only [opV]
    have : (parts.map fun (o, s, x) => (o, s, O.ev ts' x)) = parts.map fun (o, s, x) => (o, s, O.ev ts x) := List.map_congr_left fun p hp => by
      show (p.1, p.2.1, O.ev ts' p.2.2) = (p.1, p.2.1, O.ev ts p.2.2)
      rw [he p.2.2 (List.mem_map.2 ⟨p, hp, rfl⟩)]
    rw [this]
  | lit s len zero parts =>
    simp only [opV]
    have : (parts.map fun (i, x) => (i * s, s, O.ev ts' x)) = parts.map fun (i, x) => (i * s, s, O.ev ts x) := List.map_congr_left fun p hp => by
      show (p.1 * s, s, O.ev ts' p.2) = (p.1 * s, s, O.ev ts p.2)
      rw [he p.2 (List.mem_append.2 (.inl (List.mem_map.2 ⟨p, hp, rfl⟩)))]
    rw [this]
  | sl s y lo hi =>
    simp only [opV]
    rw [he y (by simp [X.opds])]
    have hlo : lo.map (O.ev ts') = lo.map (O.ev ts) := by
      cases lo with
      | none => rfl
      | some o => simp only [Option.map_some]; rw [he o (by simp [X.opds])]
    have hhi : hi.map (O.ev ts') = hi.map (O.ev ts) := by
      cases hi with
      | none => rfl
      | some o => simp only [Option.map_some]; rw [he o (by simp [X.opds])]
    rw [hlo, hhi]
  | mkf f first caps =>
    have h1 : first.map (O.ev ts') = first.map (O.ev ts) := List.map_congr_left fun o ho => he o (List.mem_append.2 (.inl ho))
    have h2 : caps.map (O.ev ts') = caps.map (O.ev ts) := List.map_congr_left fun o ho => he o (List.mem_append.2 (.inr ho))
    have h3 : ((first ++ caps).all fun x => okV (O.ev ts' x)) = (first ++ caps).all fun x => okV (O.ev ts x) := by
      rw [Bool.eq_iff_iff, List.all_eq_true, List.all_eq_true]
      constructor
      · intro hh o ho; rw [← he o ho]; exact hh o ho
      · intro hh o ho; rw [he o ho]; exact hh o ho
    simp only [opV]
    rw [h1, h2, h3]
  | call f args =>
    simp only [opV]
    rw [List.map_congr_left (f := O.ev ts') (g := O.ev ts) (l := args) fun o ho => he o ho]
  | callv f args =>
    simp only [opV]
    rw [he f (List.mem_cons_self ..), List.map_congr_left (f := O.ev ts') (g := O.ev ts) (l := args) fun o ho => he o (List.mem_cons_of_mem _ ho)]
  | _ => simp only [opV] <;> simp_all [X.opds]
end Go.Vm
namespace Go.Vm
variable {P : Program} {w : World} {N : Nat → Prop} {L : Lmap} {σ : Store} {nxt : Nat} {ts : List V} {a : Act}

/-! ### A run's trace -/
/-- What an operation did. -/
def Did (P : Program) (Γ : Env) (R : FuncId → List Bool) (all : List Y) (y : Y) (s : Fr) (v : V) (δ : Delta) (t : Option Tr) : Prop :=
  (wanted s.tmps all y.g = some true ∧ opV P Γ R s.tmps s.σ s.σ.length y.x = some (v, δ) ∧ t = some ⟨s.σ, y.x.looks.map (O.ev s.tmps), δ⟩) ∨
  (wanted s.tmps all y.g = some false ∧ v = .tup [] ∧ δ = [] ∧ t = some ⟨[], [], []⟩)

theorem opsT_spec {Γ : Env} {R : FuncId → List Bool} {all : List Y} : ∀ (rest : List Y) (s s' : Fr) (tr : List Tr), opsT P Γ R all rest s = some (s', tr) →
    ∃ (st : Nat → Fr) (vs : Nat → V) (ds : Nat → Delta), st 0 = s ∧ st rest.length = s' ∧ tr.length = rest.length ∧
      ∀ i y, rest[i]? = some y → st (i + 1) = ⟨putO (st i).tmps y.dst (vs i), (st i).σ.app (ds i)⟩ ∧ Did P Γ R all y (st i) (vs i) (ds i) tr[i]?
  | [], s, s', tr, h => by
    simp only [opsT, Option.some.injEq, Prod.mk.injEq] at h
    obtain ⟨rfl, rfl⟩ := h
    exact ⟨fun _ => s, fun _ => .bot, fun _ => [], rfl, rfl, rfl, by intro i y h; simp at h⟩
  | y :: r, s, s', tr, h => by
    have go : ∀ (v : V) (δ : Delta) (t : Tr) (tr' : List Tr), opsT P Γ R all r ⟨putO s.tmps y.dst v, s.σ.app δ⟩ = some (s', tr') → tr = t :: tr' → Did P Γ R all y s v δ (some t) →
        ∃ (st : Nat → Fr) (vs : Nat → V) (ds : Nat → Delta), st 0 = s ∧ st (y :: r).length = s' ∧ tr.length = (y :: r).length ∧
          ∀ i z, (y :: r)[i]? = some z → st (i + 1) = ⟨putO (st i).tmps z.dst (vs i), (st i).σ.app (ds i)⟩ ∧ Did P Γ R all z (st i) (vs i) (ds i) tr[i]? := by
      rintro v δ t tr' h' rfl hd
      obtain ⟨st, vs, ds, h0, hl, ht, hs⟩ := opsT_spec r _ _ _ h'
      refine ⟨fun | 0 => s | i + 1 => st i, fun | 0 => v | i + 1 => vs i, fun | 0 => δ | i + 1 => ds i, rfl, hl, by simp [ht], ?_⟩
      intro i z hz
      cases i with
      | zero =>
        simp at hz; subst hz
        exact ⟨h0, hd⟩
      | succ i =>
        simp at hz
        simpa using hs i z hz
    simp only [opsT] at h
    split at h
    · rename_i hw
      split at h
      · rename_i v δ hv
        simp only [Option.map_eq_some_iff] at h
        obtain ⟨⟨p1, p2⟩, h', e⟩ := h
        simp only [Prod.mk.injEq] at e
        obtain ⟨rfl, rfl⟩ := e
        exact go v δ _ p2 h' rfl (.inl ⟨hw, hv, rfl⟩)
      · cases h
    · rename_i hw
      simp only [Option.map_eq_some_iff] at h
      obtain ⟨⟨p1, p2⟩, h', e⟩ := h
      simp only [Prod.mk.injEq] at e
      obtain ⟨rfl, rfl⟩ := e
      exact go (.tup []) [] _ p2 h' rfl (.inr ⟨hw, rfl, rfl, rfl⟩)
    · cases h

/-! ### States of some done operations -/
def keys (δ : Delta) : List Nat := δ.map (·.1)
def appAt (δ : Delta) (id : Nat) (o : Option Obj) : Option Obj := δ.foldl (fun o p => if p.1 = id then p.2 else o) o

theorem get_appAt : ∀ (δ : Delta) (σ : Store) (id : Nat), (σ.app δ).get id = appAt δ id (σ.get id)
  | [], σ, id => rfl
  | p :: r, σ, id => by
    rw [app_cons, get_appAt r, get_put]
    show _ = appAt r id (if p.1 = id then p.2 else σ.get id)
    congr 1
    by_cases h : p.1 = id
    · rw [if_pos h, if_pos h.symm]
    · rw [if_neg h, if_neg fun e => h (Eq.symm e)]

theorem appAt_not : ∀ (δ : Delta) (id : Nat) (o : Option Obj), id ∉ keys δ → appAt δ id o = o
  | [], id, o, h => rfl
  | p :: r, id, o, h => by
    show appAt r id (if p.1 = id then p.2 else o) = o
    have h1 : p.1 ≠ id := fun e => h (by simp [keys, e])
    rw [if_neg h1]
    exact appAt_not r id o fun e => h (List.mem_cons_of_mem _ e)

theorem appAt_mem : ∀ (δ : Delta) (id : Nat) (o o' : Option Obj), id ∈ keys δ → appAt δ id o = appAt δ id o'
  | [], id, o, o', h => by cases h
  | p :: r, id, o, o', h => by
    show appAt r id (if p.1 = id then p.2 else o) = appAt r id (if p.1 = id then p.2 else o')
    by_cases h2 : id ∈ keys r
    · exact appAt_mem r id _ _ h2
    · have h1 : p.1 = id := by
        rcases List.mem_cons.1 h with h | h
        · exact h.symm
        · exact absurd h h2
      rw [if_pos h1, if_pos h1]

section
variable (base : Fr) (dst : Nat → Option Nat) (vs : Nat → V) (ds : Nat → Delta)

def slotAt (S : Nat → Bool) : Nat → Nat → V
  | 0, t => base.tmps.getD t .bot
  | n + 1, t => if S n = true ∧ dst n = some t ∧ t < base.tmps.length then vs n else slotAt S n t
def getAt (S : Nat → Bool) : Nat → Nat → Option Obj
  | 0, id => base.σ.get id
  | n + 1, id => if S n = true then appAt (ds n) id (getAt S n id) else getAt S n id

variable {base dst vs ds}
theorem slotAt_congr {S S' : Nat → Bool} {t : Nat} : ∀ n, (∀ j, j < n → S j = S' j ∨ dst j ≠ some t) → slotAt base dst vs S n t = slotAt base dst vs S' n t
  | 0, h => rfl
  | n + 1, h => by
    rw [slotAt, slotAt, slotAt_congr n fun j hj => h j (by omega)]
    rcases h n (by omega) with h1 | h1
    · rw [h1]
    · rw [if_neg fun e => h1 e.2.1, if_neg fun e => h1 e.2.1]

theorem getAt_congr {S S' : Nat → Bool} {id : Nat} : ∀ n, (∀ j, j < n → S j = S' j ∨ id ∉ keys (ds j)) → getAt base ds S n id = getAt base ds S' n id
  | 0, h => rfl
  | n + 1, h => by
    rw [getAt, getAt, getAt_congr n fun j hj => h j (by omega)]
    rcases h n (by omega) with h1 | h1
    · rw [h1]
    · rw [appAt_not _ _ _ h1]; simp

theorem slotAt_top {S : Nat → Bool} {t i : Nat} : ∀ n, i ≤ n → (∀ j, i ≤ j → j < n → S j = true → dst j ≠ some t) → slotAt base dst vs S n t = slotAt base dst vs S i t
  | 0, h, _ => by rw [Nat.le_zero.1 h]
  | n + 1, h, hj => by
    rcases Nat.lt_or_ge n i with h1 | h1
    · rw [show i = n + 1 from by omega]
    · rw [slotAt, if_neg fun e => hj n h1 (by omega) e.1 e.2.1]
      exact slotAt_top n h1 fun j h2 h3 => hj j h2 (by omega)

theorem getAt_top {S : Nat → Bool} {id i : Nat} : ∀ n, i ≤ n → (∀ j, i ≤ j → j < n → S j = true → id ∉ keys (ds j)) → getAt base ds S n id = getAt base ds S i id
  | 0, h, _ => by rw [Nat.le_zero.1 h]
  | n + 1, h, hj => by
    rcases Nat.lt_or_ge n i with h1 | h1
    · rw [show i = n + 1 from by omega]
    · rw [getAt, getAt_top n h1 fun j h2 h3 => hj j h2 (by omega)]
      split
      · rename_i hs; rw [appAt_not _ _ _ (hj n h1 (by omega) hs)]
      · rfl

/-- One operation more: a slot. -/
theorem slotAt_more {S S' : Nat → Bool} {i n t : Nat} (hi : i < n) (h0 : S i = false) (h1 : S' i = true) (hne : ∀ j, j ≠ i → S' j = S j) (hap : ∀ j, j < n → i < j → S j = true → ∀ d, dst i = some d → dst j ≠ some d) :
    slotAt base dst vs S' n t = if dst i = some t ∧ t < base.tmps.length then vs i else slotAt base dst vs S n t := by
  by_cases hd : dst i = some t
  · rw [slotAt_top (i := i + 1) n (by omega) fun j h2 h3 h4 => hap j h3 (by omega) (by rw [← hne j (by omega)]; exact h4) t hd]
    rw [slotAt, h1]
    by_cases hl : t < base.tmps.length
    · rw [if_pos ⟨rfl, hd, hl⟩, if_pos ⟨hd, hl⟩]
    · rw [if_neg fun e => hl e.2.2, if_neg fun e => hl e.2]
      have out : ∀ S n, slotAt base dst vs S n t = base.tmps.getD t .bot := by
        intro S n
        induction n with
        | zero => rfl
        | succ n ih => rw [slotAt, if_neg fun e => hl e.2.2, ih]
      rw [out, out]
  · rw [if_neg fun e => hd e.1]
    exact slotAt_congr n fun j hj => by
      by_cases e : j = i
      · subst e; exact .inr hd
      · exact .inl (hne j e)

theorem getAt_more {S S' : Nat → Bool} {i n id : Nat} (hi : i < n) (h0 : S i = false) (h1 : S' i = true) (hne : ∀ j, j ≠ i → S' j = S j) (hap : ∀ j, j < n → i < j → S j = true → ∀ k ∈ keys (ds i), k ∉ keys (ds j)) :
    getAt base ds S' n id = appAt (ds i) id (getAt base ds S n id) := by
  by_cases hd : id ∈ keys (ds i)
  · rw [getAt_top (i := i + 1) n (by omega) fun j h2 h3 h4 => hap j h3 (by omega) (by rw [← hne j (by omega)]; exact h4) id hd]
    rw [getAt, if_pos h1]
    exact appAt_mem _ _ _ _ hd
  · rw [appAt_not _ _ _ hd]
    exact getAt_congr n fun j hj => by
      by_cases e : j = i
      · subst e; exact .inr hd
      · exact .inl (hne j e)
end

theorem getD_putO {d : Option Nat} {v : V} {t : Nat} : (putO ts d v).getD t .bot = if d = some t ∧ t < ts.length then v else ts.getD t .bot := by
  cases d with
  | none => simp [putO]
  | some i =>
    simp only [putO, List.getD, List.getElem?_set, Option.some.injEq]
    by_cases h : i = t
    · subst h
      by_cases h2 : i < ts.length
      · simp [h2]
      · simp [h2]
    · simp [h]

theorem length_putO {d : Option Nat} {v : V} : (putO ts d v).length = ts.length := by cases d <;> simp [putO]

/-- In order: the state of the operations ahead. -/
theorem seq_state {n : Nat} {st : Nat → Fr} {dst : Nat → Option Nat} {vs : Nat → V} {ds : Nat → Delta} (h : ∀ i, i < n → st (i + 1) = ⟨putO (st i).tmps (dst i) (vs i), (st i).σ.app (ds i)⟩) :
    ∀ i, i ≤ n → (st i).tmps.length = (st 0).tmps.length ∧ (∀ t, (st i).tmps.getD t .bot = slotAt (st 0) dst vs (fun j => decide (j < i)) n t) ∧ ∀ id, (st i).σ.get id = getAt (st 0) ds (fun j => decide (j < i)) n id := by
  have top : ∀ i, i ≤ n → (∀ t, slotAt (st 0) dst vs (fun j => decide (j < i)) n t = slotAt (st 0) dst vs (fun j => decide (j < i)) i t) ∧ ∀ id, getAt (st 0) ds (fun j => decide (j < i)) n id = getAt (st 0) ds (fun j => decide (j < i)) i id := by
    intro i hi
    exact ⟨fun t => slotAt_top n hi fun j h1 h2 h3 => by simp at h3; omega, fun id => getAt_top n hi fun j h1 h2 h3 => by simp at h3; omega⟩
  intro i
  induction i with
  | zero => intro hi; exact ⟨rfl, fun t => by rw [(top 0 hi).1]; rfl, fun id => by rw [(top 0 hi).2]; rfl⟩
  | succ i ih =>
    intro hi
    obtain ⟨h1, h2, h3⟩ := ih (by omega)
    refine ⟨by rw [h i (by omega)]; simp [length_putO, h1], fun t => ?_, fun id => ?_⟩
    · rw [slotAt_more (i := i) (S := fun j => decide (j < i)) (by omega) (by simp) (by simp) (fun j hj => by simp; omega) (fun j _ h4 h5 => by simp at h5; omega), h i (by omega)]
      simp only [getD_putO, h1, h2]
    · rw [getAt_more (i := i) (S := fun j => decide (j < i)) (by omega) (by simp) (by simp) (fun j hj => by simp; omega) (fun j _ h4 h5 => by simp at h5; omega), h i (by omega)]
      simp only [get_appAt, h3]
end Go.Vm
namespace Go.Vm
variable {P : Program} {w : World} {N : Nat → Prop} {L : Lmap} {σ : Store} {nxt : Nat} {ts : List V} {a : Act}

/-! ### Orders that are open -/
def Behind (all : List Oper) (S : Nat → Prop) (j : Nat) : Prop := ∀ o, all[j]? = some o → ∀ e ∈ o.after.toList, Region.binds .any e = true → S e.on

theorem befs_spec {all : List Oper} {S : Nat → Prop} (hcl : ∀ j, S j → Behind all S j) : ∀ (rest : List Oper) (k : Nat) (acc : List (List Nat)), rest = all.drop k → acc.length = k →
    (∀ j i, i ∈ acc.getD j [] → Behind all S j → S i) → ∀ j i, i ∈ (befs rest acc).getD j [] → Behind all S j → S i
  | [], k, acc, _, _, h => h
  | o :: r, k, acc, hr, hl, h => by
    have hk : all[k]? = some o := by
      have : (all.drop k)[0]? = some o := by rw [← hr]; rfl
      simpa using this
    refine befs_spec hcl r (k + 1) _ ?_ (by simp [hl]) ?_
    · have : (all.drop k).tail = r := by rw [← hr]; rfl
      rw [← this]; simp
    · intro j i hi hb
      simp only [List.getD, List.getElem?_append] at hi
      split at hi
      · exact h j i (by simpa [List.getD] using hi) hb
      · rename_i hj
        cases hjk : j - acc.length with
        | succ m => rw [hjk] at hi; simp at hi
        | zero =>
          rw [hjk] at hi
          have : j = k := by omega
          subst this
          simp only [List.getElem?_cons_zero, Option.getD_some, List.mem_flatMap, List.mem_filter] at hi
          obtain ⟨e, ⟨he, hbe⟩, hi⟩ := hi
          have hs : S e.on := hb o hk e he hbe
          rcases List.mem_cons.1 hi with rfl | hi
          · exact hs
          · exact h e.on i (by simpa [List.getD] using hi) (hcl _ hs)

theorem open_of {ops : Array Oper} {S : Nat → Prop} (hcl : ∀ j, S j → Behind ops.toList S j) {i j : Nat} (hij : i < j) (hj : j < ops.size) (hb : Behind ops.toList S j) (hs : ¬ S i) : (i, j) ∈ openPairs ops := by
  unfold openPairs
  simp only [List.mem_flatMap, List.mem_range, List.mem_filterMap]
  refine ⟨j, hj, i, hij, ?_⟩
  split
  · rename_i h
    exact absurd (befs_spec hcl ops.toList 0 [] rfl rfl (by intro j i h; simp at h) j i (by simpa using h) hb) hs
  · rfl

theorem wpAny_of_inv {ops : Array Oper} {Q : Exit → Act → World → Prop} {md : Region.Mode} (J : Array Bool → Act → World → Prop)
    (hstep : ∀ (listed : Array Bool) a w i, listed.size = ops.size → J listed a w → i ∈ Region.ready md ops listed → wpOp P ops Q i (J (listed.setIfInBounds i true)) a w)
    (hend : ∀ (listed : Array Bool) a w, listed.size = ops.size → J listed a w → Region.ready md ops listed = [] → Q .normal a w) :
    ∀ (fuel : Nat) (listed : Array Bool) a w, listed.size = ops.size → listed.toList.countP (fun b => !b) ≤ fuel → J listed a w → wpAny P md ops Q fuel listed a w
  | 0, listed, a, w, hl, hc, hj => by
    have hr : Region.ready md ops listed = [] := by
      cases h : Region.ready md ops listed with
      | nil => rfl
      | cons i r =>
        have hi : i ∈ Region.ready md ops listed := by rw [h]; exact List.mem_cons_self ..
        obtain ⟨h0, o, ho, -⟩ := mem_ready.1 hi
        have hil : i < listed.size := by rw [hl]; exact (Array.getElem?_eq_some_iff.1 ho).1
        have hz := Nat.le_zero.1 hc
        rw [List.countP_eq_zero] at hz
        have := hz (listed[i]) (by simp)
        simp [Array.getD, hil] at h0
        simp [h0] at this
    exact ⟨hr, hend listed a w hl hj hr⟩
  | fuel + 1, listed, a, w, hl, hc, hj => by
    refine ⟨hend listed a w hl hj, fun i hi => wpOp_mono (fun a w hj' => ?_) (hstep listed a w i hl hj hi)⟩
    obtain ⟨h0, o, ho, -⟩ := mem_ready.1 hi
    have hil : i < listed.size := by rw [hl]; exact (Array.getElem?_eq_some_iff.1 ho).1
    refine wpAny_of_inv J hstep hend fuel _ a w (by simp [hl]) ?_ hj'
    have hlf : listed[i] = false := by simpa [Array.getD, hil] using h0
    have := List.countP_set (p := fun b => !b) (l := listed.toList) (i := i) (a := true) (by simpa using hil)
    simp only [Array.toList_setIfInBounds]
    rw [this]
    have hpos : 0 < listed.toList.countP (fun b => !b) := List.countP_pos_iff.2 ⟨false, by rw [← hlf]; simp, rfl⟩
    have hlf' : listed.toList[i]'(by simpa using hil) = false := by simpa using hlf
    simp only [hlf', Bool.not_false, Bool.not_true, if_true, Bool.false_eq_true, if_false]
    omega

theorem orel_draw {id : Nat} {o : Obj} {n : Nat} (h : ORel w N L id o) : ORel { w with drawn := n } N L id o := ORel.mono (w := w) (N := N) (L := L) (fun _ h => h) (fun _ _ => rfl) (fun _ _ h => h) (fun _ _ _ => rfl) h

theorem srel_draw {n : Nat} (h : SRel w N L σ) : SRel { w with drawn := n } N L σ :=
  ⟨fun id o hg => orel_draw (h.obj id o hg), h.apart, h.inj, h.lt⟩

theorem srel_get {σ' : Store} (hg : ∀ id, σ'.get id = σ.get id) (h : SRel w N L σ) : SRel w N L σ' :=
  ⟨fun id o ho => h.obj id o (by rw [← hg]; exact ho), fun b hb ⟨id, o, l, h1, h2⟩ => h.apart b hb ⟨id, o, l, by rw [← hg]; exact h1, h2⟩,
    fun id id' o o' l l' h1 h2 => h.inj id id' o o' l l' (by rw [← hg]; exact h1) (by rw [← hg]; exact h2), h.lt⟩

theorem evo_get {w0 : World} {N0 : Nat → Prop} {L0 : Lmap} {σ0 σ' : Store} (hg : ∀ id, σ'.get id = σ.get id) (h : Evo w0 N0 L0 σ0 w N L σ) : Evo w0 N0 L0 σ0 w N L σ' :=
  ⟨h.os, h.tape, h.output, h.cold, h.size, h.keep, h.nmono, h.nnew, fun b ⟨id, o, l, h1, h2⟩ => h.onew b ⟨id, o, l, by rw [← hg]; exact h1, h2⟩⟩

theorem evo_draw {w0 : World} {N0 : Nat → Prop} {L0 : Lmap} {σ0 : Store} {n : Nat} (h : Evo w0 N0 L0 σ0 w N L σ) : Evo w0 N0 L0 σ0 { w with drawn := n } N L σ :=
  ⟨h.os, h.tape, h.output, h.cold, h.size, h.keep, h.nmono, h.nnew, h.onew⟩

/-- Where the run of a region in any order stands. -/
structure AInv (w0 : World) (N0 : Nat → Prop) (L0 : Lmap) (σ0 : Store) (m n : Nat) (st : Nat → Fr) (dst : Nat → Option Nat) (vs : Nat → V) (ds : Nat → Delta) (S : Nat → Bool) (a : Act) (w : World) (N : Nat → Prop) (L : Lmap) (ts : List V) (σ : Store) : Prop where
  evo : Evo w0 N0 L0 σ0 w N L σ
  rel : SRel w N L σ
  fr : FRel w N L ts a
  df : a.defers = []
  lm : ∀ id, id < m → L id = L0 id
  len : ts.length = (st 0).tmps.length
  slots : ∀ t, ts.getD t .bot = slotAt (st 0) dst vs S n t
  store : ∀ id, σ.get id = getAt (st 0) ds S n id
  new : ∀ id l, L id = some l → id < (st 0).σ.length ∨ ∃ j, j < n ∧ S j = true ∧ id ∈ keys (ds j) ∧ (st j).σ.length ≤ id

theorem clear_spec {tr : List Tr} {free : List (Nat × Nat)} (h : clear tr free = true) {i j : Nat} (hm : (i, j) ∈ free ∨ (j, i) ∈ free) {x y : Tr} (hx : tr[i]? = some x) (hy : tr[j]? = some y) :
    ∀ id ∈ keys y.δ, id ∉ keys x.δ ∧ id ∉ x.foot := by
  unfold clear at h
  rw [List.all_eq_true] at h
  have fin : ∀ {x y : Tr}, y.meets x = false → ∀ id ∈ keys y.δ, id ∉ keys x.δ ∧ id ∉ x.foot := by
    intro x y hm id hid
    obtain ⟨p, hp, rfl⟩ := List.mem_map.1 hid
    unfold Tr.meets at hm
    rw [List.any_eq_false] at hm
    have := hm p hp
    simp only [Bool.or_eq_true, List.contains_iff_mem, not_or] at this
    refine ⟨fun hk => ?_, this.1⟩
    obtain ⟨q, hq, he⟩ := List.mem_map.1 hk
    exact this.2 (List.any_eq_true.2 ⟨q, hq, by simp [he]⟩)
  rcases hm with hm | hm
  · have := h _ hm
    simp only [hx, hy] at this
    split at this
    · rename_i he
      intro id hid
      rw [List.isEmpty_iff.1 he.2] at hid; simp [keys] at hid
    · simp only [Bool.and_eq_true, Bool.not_eq_true'] at this
      exact fin this.2
  · have := h _ hm
    simp only [hx, hy] at this
    split at this
    · rename_i he
      intro id hid
      rw [List.isEmpty_iff.1 he.1] at hid; simp [keys] at hid
    · simp only [Bool.and_eq_true, Bool.not_eq_true'] at this
      exact fin this.1

theorem free_spec {ys : List Y} {x y : Y} (h : x.free ys y = true) : ∀ d, x.dst = some d → d ∉ y.slots ys ∧ y.dst ≠ some d := by
  intro d hd
  unfold Y.free at h
  rw [hd] at h
  simpa using h

theorem slots_spec {ys : List Y} {free : List (Nat × Nat)} (h : slotsOk ys free = true) {i j : Nat} (hm : (i, j) ∈ free ∨ (j, i) ∈ free) {x y : Y} (hx : ys[i]? = some x) (hy : ys[j]? = some y) :
    ∀ d, y.dst = some d → d ∉ x.slots ys ∧ x.dst ≠ some d := by
  unfold slotsOk at h
  rw [Bool.and_eq_true, List.all_eq_true, List.all_eq_true] at h
  rcases hm with hm | hm
  · have := h.2 _ hm
    simp only [hx, hy, Bool.and_eq_true] at this
    exact free_spec this.2
  · have := h.2 _ hm
    simp only [hx, hy, Bool.and_eq_true] at this
    exact free_spec this.1

end Go.Vm
