/- A part of the proofs of the statements BatchTells and BatchNumbers: Vs1, Vs2, Vs3, Vs4, Vs5. Conditions: none of its own. -/
import Derived.Test.YtoaafpebcdfniaaGreatT01
import Derived.Laws.Tables
set_option linter.unusedSimpArgs false
set_option linter.unusedVariables false
set_option linter.unnecessarySimpa false
set_option linter.all false
namespace Go.Vm

/-! ### Operands -/
structure FRel (w : World) (N : Nat → Prop) (L : Lmap) (ts : List V) (a : Act) : Prop where
  size : a.tmps.size = ts.length
  slot : ∀ (i : Nat) v c, ts[i]? = some v → a.tmps[i]? = some c → RS w N L v c

theorem rd_of_val {w : World} {N : Nat → Prop} {v : Value} {x : D} (h : ofVal v = some x) : RD w N x v := by
  unfold ofVal at h
  split at h <;> first | (injection h with h; subst h; constructor) | cases h

theorem one_of_val {v : Value} {x : D} (h : ofVal v = some x) : one v := by
  unfold ofVal at h
  split at h <;> first | rfl | cases h

theorem val_of_rd {w : World} {N : Nat → Prop} {x : D} {v c : Value} (hv : x.val = some v) (h : RD w N x c) : c = v := by
  cases h <;> simp [D.val] at hv <;> first | exact hv | exact hv.symm | skip

theorem one_of_rd {w : World} {N : Nat → Prop} {x : D} {c : Value} (h : RD w N x c) : one c := by cases h <;> rfl

theorem mapM_get {α β : Type} (f : α → Option β) : ∀ (l : List α) (r : List β), l.mapM f = some r → r.length = l.length ∧ ∀ (i : Nat) a b, l[i]? = some a → r[i]? = some b → f a = some b
  | [], r, h => by
    simp at h; subst h; exact ⟨rfl, fun i a b h => by simp at h⟩
  | x :: l, r, h => by
    simp only [List.mapM_cons, Option.pure_def, Option.bind_eq_bind] at h
    cases hx : f x with
    | none => rw [hx] at h; simp at h
    | some y =>
      rw [hx] at h
      cases hl : l.mapM f with
      | none => rw [hl] at h; simp at h
      | some ys =>
        rw [hl] at h; simp at h; subst h
        obtain ⟨h1, h2⟩ := mapM_get f l ys hl
        refine ⟨by simp [h1], fun i a b ha hb => ?_⟩
        cases i with
        | zero => simp at ha hb; subst ha; subst hb; exact hx
        | succ i => simp at ha hb; exact h2 i a b ha hb

theorem rv_leaf {w : World} {N : Nat → Prop} {L : Lmap} {v : Value} {x : V} (h : leafOf v = some x) : RV w N L x v ∧ one v := by
  unfold leafOf at h
  split at h
  · injection h with h; subst h; exact ⟨.nils, rfl⟩
  · cases h1 : ofVal v with
    | none => rw [h1] at h; simp at h
    | some d => rw [h1] at h; simp at h; subst h; exact ⟨.d _ _ (rd_of_val h1), one_of_val h1⟩

theorem vOf_agg (cs : Array Value) : vOf (.agg cs) = (cs.toList.mapM leafOf).map V.agg := rfl

theorem rv_const {w : World} {N : Nat → Prop} {L : Lmap} {v : Value} {x : V} (h : vOf v = some x) : RV w N L x v := by
  unfold vOf at h
  split at h
  · injection h with h; subst h; exact .nils
  · rename_i cs
    have h' : (cs.toList.mapM leafOf).map V.agg = some x := h
    cases h1 : cs.toList.mapM leafOf with
    | none => rw [h1] at h'; simp at h'
    | some l =>
      rw [h1] at h'; simp at h'; subst h'
      obtain ⟨hl, hi⟩ := mapM_get leafOf _ _ h1
      have hl' : cs.size = l.length := by rw [hl]; simp
      refine .agg l cs hl' (fun i c hc => ?_) (fun i v c hv hc => ?_)
      · have : cs.toList[i]? = some c := by simpa using hc
        have hlt : i < l.length := by
          rw [← hl']
          rcases Nat.lt_or_ge i cs.size with h2 | h2
          · exact h2
          · rw [Array.getElem?_eq_none h2] at hc; cases hc
        exact (rv_leaf (w := w) (N := N) (L := L) (hi i c _ this (List.getElem?_eq_getElem hlt))).2
      · exact (rv_leaf (hi i c v (by simpa using hc) hv)).1
  · cases h1 : ofVal v with
    | none => rw [h1] at h; simp at h
    | some d => rw [h1] at h; simp at h; subst h; exact .d _ _ (rd_of_val h1)

theorem ev_rel {w : World} {N : Nat → Prop} {L : Lmap} {ts : List V} {a : Act} (hf : FRel w N L ts a) {x : Operand} {o : O} (h : oOf x = some o) : RS w N L (o.ev ts) (a.eval x) := by
  cases x with
  | tmp t =>
    simp [oOf] at h; subst h
    simp only [O.ev, Act.eval]
    rw [List.getD_eq_getElem?_getD]
    by_cases ht : t < ts.length
    · have h1 : ts[t]? = some ts[t] := List.getElem?_eq_getElem ht
      have ht' : t < a.tmps.size := by rw [hf.size]; exact ht
      have h2 : a.tmps[t]? = some a.tmps[t] := Array.getElem?_eq_getElem ht'
      rw [h1]
      have := hf.slot t _ _ h1 h2
      simpa [Array.getD_eq_getD_getElem?, h2] using this
    · have h1 : ts[t]? = none := List.getElem?_eq_none (Nat.le_of_not_lt ht)
      rw [h1]; exact .inl rfl
  | const v =>
    simp only [oOf] at h
    cases h1 : vOf v with
    | none => rw [h1] at h; simp at h
    | some y => rw [h1] at h; simp at h; subst h; exact .inr (rv_const h1)
  | func f =>
    simp [oOf] at h; subst h
    exact .inr (.clo f [] [] #[] #[] rfl rfl (fun i v c h => by simp at h) (fun i v c h => by simp at h))
  | global g => simp [oOf] at h

/-! ### Cells -/
/-- A list of cells: as many, each what the list says. -/
def CRel (w : World) (N : Nat → Prop) (L : Lmap) (vs : List V) (cs : Array Value) : Prop :=
  cs.size = vs.length ∧ (∀ (i : Nat) c, cs[i]? = some c → one c) ∧ ∀ (i : Nat) v c, vs[i]? = some v → cs[i]? = some c → RV w N L v c

theorem cells_rel {w : World} {N : Nat → Prop} {L : Lmap} {v : V} {c : Value} (h : RV w N L v c) (ht : ∀ vs, v ≠ .tup vs) : CRel w N L v.cells c.cells := by
  cases h with
  | agg cells cs hl h1 h => exact ⟨hl, h1, h⟩
  | tup vs cs hl h => exact absurd rfl (ht vs)
  | d x c h =>
    have h1 := one_of_rd h
    have hc : c.cells = #[c] := by cases c <;> first | rfl | exact absurd h1 (by simp [one, Value.oneCell'])
    rw [hc]
    refine ⟨rfl, fun i c' hi => ?_, fun i v c' hv hi => ?_⟩
    · cases i with
      | zero => simp at hi; subst hi; exact h1
      | succ i => simp at hi
    · cases i with
      | zero => simp [V.cells] at hv hi; subst hv; subst hi; exact .d _ _ h
      | succ i => simp at hi
  | nils => exact ⟨rfl, fun i c hi => by cases i <;> simp [Value.cells] at hi; subst hi; rfl, fun i v c hv hi => by cases i <;> simp [V.cells, Value.cells] at hv hi; subst hv; subst hi; exact .nils⟩
  | arr id off len l a cap hl hc hle ha =>
    exact ⟨rfl, fun i c hi => by cases i <;> simp [Value.cells] at hi; subst hi; rfl, fun i v c hv hi => by cases i <;> simp [V.cells, Value.cells] at hv hi; subst hv; subst hi; exact .arr id off len l a cap hl hc hle ha⟩
  | ptr id i k l hl =>
    exact ⟨rfl, fun j c hi => by cases j <;> simp [Value.cells] at hi; subst hi; rfl, fun j v c hv hi => by cases j <;> simp [V.cells, Value.cells] at hv hi; subst hv; subst hi; exact .ptr id i k l hl⟩
  | dptr cells k b o cs hN hc hr =>
    exact ⟨rfl, fun j c hi => by cases j <;> simp [Value.cells] at hi; subst hi; rfl, fun j v c hv hi => by cases j <;> simp [V.cells, Value.cells] at hv hi; subst hv; subst hi; exact .dptr cells k b o cs hN hc hr⟩
  | clo f first caps a b ha hb h1 h2 =>
    exact ⟨rfl, fun j c hi => by cases j <;> simp [Value.cells] at hi; subst hi; rfl, fun j v c hv hi => by cases j <;> simp [V.cells, Value.cells] at hv hi; subst hv; subst hi; exact .clo f first caps a b ha hb h1 h2⟩
  | bot c h =>
    have hc : c.cells = #[c] := by cases c <;> first | rfl | exact absurd h (by simp [one, Value.oneCell'])
    rw [hc]
    exact ⟨rfl, fun i c' hi => by cases i <;> simp at hi; subst hi; exact h, fun i v c' hv hi => by cases i <;> simp [V.cells] at hv hi; subst hv; subst hi; exact .bot _ h⟩

/-! ### New objects -/
def upd (L : Lmap) (i : Nat) (l : Loc) : Lmap := fun j => if j = i then some l else L j
theorem upd_mono {L : Lmap} {i : Nat} {l : Loc} (h : L i = none) : ∀ id m, L id = some m → upd L i l id = some m := fun id m hm => by
  unfold upd; split
  · rename_i e; subst e; rw [h] at hm; cases hm
  · exact hm

theorem own_put_new {w : World} {N : Nat → Prop} {L : Lmap} {σ : Store} (h : SRel w N L σ) {i : Nat} {l : Loc} {o : Obj} (hi : L i = none) {b : Nat} (hb : Own (upd L i l) (σ.put i (some o)) b) : b = l.blk ∨ Own L σ b := by
  obtain ⟨id, o', l', hg, ho, hl, e⟩ := hb
  rw [get_put] at hg
  unfold upd at hl
  split at hg
  · rename_i e1; rw [if_pos e1] at hl; injection hl with hl; subst hl; exact .inl e.symm
  · rename_i e1; rw [if_neg e1] at hl; exact .inr ⟨id, o', l', hg, ho, hl, e⟩

/-- A new block, owned by a new object. -/
theorem new_good {w : World} {N : Nat → Prop} {L : Lmap} {σ : Store} (h : SRel w N L σ) {i : Nat} (hi : L i = none) {cs : Array Value} {e : TypeId} {o : Obj} {l : Loc} (hl : l.blk = w.heap.size)
    {w' : World} (hw : w' = { w with heap := w.heap.push (.cells cs e (0, 0)), drawn := w'.drawn }) (ho : ORel w' N (upd L i l) i o) :
    Evo w N L σ w' N (upd L i l) (σ.put i (some o)) ∧ SRel w' N (upd L i l) (σ.put i (some o)) := by
  have hheap : w'.heap = w.heap.push (.cells cs e (0, 0)) := by rw [hw]
  have hold : ∀ b, b < w.heap.size → w'.heap[b]? = w.heap[b]? := fun b hb => by
    rw [hheap, Array.getElem?_push, if_neg (by omega)]
  have ev : Evo w N L σ w' N (upd L i l) (σ.put i (some o)) :=
    { os := by rw [hw], tape := by rw [hw], output := by rw [hw]
      cold := fun a => by
        unfold World.frozen?
        rcases Nat.lt_trichotomy a.block w.heap.size with h1 | h1 | h1
        · rw [hold _ h1]
        · rw [hheap, h1]; simp
        · rw [hheap, Array.getElem?_eq_none (by simp; omega), Array.getElem?_eq_none (by omega)]
      size := by rw [hheap]; simp
      keep := fun b hb _ => hold b hb, nmono := fun _ h => h, nnew := fun _ h => .inl h
      onew := fun b hb => by
        rcases own_put_new h hi hb with rfl | h1
        · exact .inl (by omega)
        · exact .inr h1 }
  refine ⟨ev, ?_⟩
  constructor
  · intro id o' hg
    rw [get_put] at hg
    split at hg
    · rename_i e1; subst e1; injection hg with hg; subst hg; exact ho
    · have h1 := h.obj id o' hg
      refine h1.mono (fun _ h => h) (fun b hb => hold b (h.lt b hb)) (upd_mono hi) (fun _ l' hl' => ?_)
      refine hold _ ?_
      cases o' with
      | row s xs => obtain ⟨l2, cells, e2, hl2, _, _, _, hh, _⟩ := h1; rw [hl'] at hl2; injection hl2 with hl2; subst hl2; exact (Array.getElem?_eq_some_iff.1 hh).1
      | box vs => obtain ⟨l2, cells, e2, hl2, _, hh, _⟩ := h1; rw [hl'] at hl2; injection hl2 with hl2; subst hl2; exact (Array.getElem?_eq_some_iff.1 hh).1
      | imm s xs => obtain ⟨l2, hl2, _, _, _, hh, _⟩ := h1; rw [hl'] at hl2; injection hl2 with hl2; subst hl2; exact h.lt _ hh
  · intro b hb hn
    rcases own_put_new h hi hn with rfl | h1
    · have := h.lt _ hb; omega
    · exact h.apart b hb h1
  · intro id id' o1 o2 l1 l2 hg1 hg2 ho1 ho2 hl1 hl2 e
    rw [get_put] at hg1 hg2
    unfold upd at hl1 hl2
    have lt_of : ∀ id o l, σ.get id = some o → L id = some l → o.owned = true → l.blk < w.heap.size := by
      intro id o l hg hl' ho'
      have h1 := h.obj id o hg
      cases o with
      | row s xs => obtain ⟨l2, cells, e2, hl2, _, _, _, hh, _⟩ := h1; rw [hl'] at hl2; injection hl2 with hl2; subst hl2; exact (Array.getElem?_eq_some_iff.1 hh).1
      | box vs => obtain ⟨l2, cells, e2, hl2, _, hh, _⟩ := h1; rw [hl'] at hl2; injection hl2 with hl2; subst hl2; exact (Array.getElem?_eq_some_iff.1 hh).1
      | imm s xs => simp [Obj.owned] at ho'
    split at hg1
    · rename_i e1; rw [if_pos e1] at hl1; injection hl1 with hl1; subst hl1
      split at hg2
      · rename_i e2; rw [e1, e2]
      · rename_i e2; rw [if_neg e2] at hl2
        have := lt_of _ _ _ hg2 hl2 ho2
        omega
    · rename_i e1; rw [if_neg e1] at hl1
      split at hg2
      · rename_i e2; rw [if_pos e2] at hl2; injection hl2 with hl2; subst hl2
        have := lt_of _ _ _ hg1 hl1 ho1
        omega
      · rename_i e2; rw [if_neg e2] at hl2
        exact h.inj id id' o1 o2 l1 l2 hg1 hg2 ho1 ho2 hl1 hl2 e
  · intro b hb
    have := h.lt b hb
    rw [hheap]; simp; omega

end Go.Vm
namespace Go.Vm

/-- What an operation leaves: a value, and a world that fits the store with its delta. -/
structure Left (w : World) (N : Nat → Prop) (L : Lmap) (σ : Store) (nxt : Nat) (v : V) (δ : Delta) (c : Value) (w' : World) (N' : Nat → Prop) (L' : Lmap) : Prop where
  evo : Evo w N L σ w' N' L' (σ.app δ)
  lm : ∀ id l, L id = some l → L' id = some l
  rel : SRel w' N' L' (σ.app δ)
  val : RS w' N' L' v c
  new : ∀ id l, L' id = some l → L id = some l ∨ ∃ p ∈ δ, p.1 = id ∧ nxt ≤ id

/-- An operation's run comes to what is left. -/
def Good (P : Program) (s : Sem Next) (w : World) (N : Nat → Prop) (L : Lmap) (σ : Store) (nxt : Nat) (v : V) (δ : Delta) : Prop :=
  ∃ c w' N' L', (s.run P w = .ok (.value c) w' ∨ (s.run P w = .ok .skip w' ∧ c = undef)) ∧ Left w N L σ nxt v δ c w' N' L'

theorem good_pure {P : Program} {s : Sem Next} {w : World} {N : Nat → Prop} {L : Lmap} {σ : Store} {nxt : Nat} {v : V} {c : Value} (hr : s.run P w = .ok (.value c) w) (hs : SRel w N L σ) (hv : RS w N L v c) :
    Good P s w N L σ nxt v [] :=
  ⟨c, w, N, L, .inl hr, ⟨.refl .., fun _ _ h => h, hs, hv, fun _ _ h => .inl h⟩⟩

theorem pureRun_run {α : Type} {P : Program} {s : Sem α} {a : α} (h : pureRun P s = some a) (w : World) : s.run P w = .ok a w := by
  induction s with
  | pure b => simp [pureRun] at h; subst h; rfl
  | program k ih => exact ih P h
  | mark m k ih => exact ih h
  | _ => simp [pureRun] at h

variable {P : Program} {w : World} {N : Nat → Prop} {L : Lmap} {σ : Store} {nxt : Nat} {ts : List V} {a : Act}

theorem rs_bool {b : Bool} {c : Value} (h : RS w N L (.d (.bool b)) c) : c = .bool b := by
  rcases h with h | h
  · cases h
  · cases h with | d x c h => cases h; rfl
theorem rs_int {k : IntKind} {n : Int} {c : Value} (h : RS w N L (.d (.int k n)) c) : c = .int k n := by
  rcases h with h | h
  · cases h
  · cases h with | d x c h => cases h; rfl
theorem rs_of {v : V} {c : Value} (h : RS w N L v c) (hv : v ≠ .bot) : RV w N L v c := h.resolve_left hv

theorem good_mv {o : Oper} {x : Operand} {y : O} (ho : o.op = .move x ∨ o.op = .assign x) (hx : oOf x = some y) (hs : SRel w N L σ) (hf : FRel w N L ts a) :
    Good P (execOp a.eval o) w N L σ nxt (y.ev ts) [] :=
  good_pure (c := a.eval x) (by rcases ho with h | h <;> simp [execOp, h]) hs (ev_rel hf hx)

theorem good_pick {o : Oper} {c x y : Operand} {c' x' y' : O} {t : Bool} (ho : o.op = .pick c x y) (hc : oOf c = some c') (hx : oOf x = some x') (hy : oOf y = some y') (hs : SRel w N L σ) (hf : FRel w N L ts a)
    (ht : c'.ev ts = .d (.bool t)) : Good P (execOp a.eval o) w N L σ nxt (bif t then x'.ev ts else y'.ev ts) [] := by
  have h1 := ev_rel hf hc
  rw [ht] at h1
  have h2 := rs_bool h1
  refine good_pure (c := if t then a.eval x else a.eval y) (by simp [execOp, ho, h2, asBool]) hs ?_
  cases t
  · exact ev_rel hf hy
  · exact ev_rel hf hx

theorem run_zeroValue {t : TypeId} {i : TypeInfo} {v : Value} (hi : P.info? t = some i) (hz : i.zero = some v) (w : World) : (zeroValue t).run P w = .ok v w := by
  simp [zeroValue, typeInfo, hi, hz]
theorem run_sizeOf {t : TypeId} {i : TypeInfo} (hi : P.info? t = some i) (w : World) : (sizeOf t).run P w = .ok i.size w := by
  simp [sizeOf, typeInfo, hi]
theorem run_newVar (t : TypeId) (v : Value) (w : World) : (newVar t v).run P w = .ok ⟨w.heap.size, 0, none⟩ { w with heap := w.heap.push (.cells v.cells t (0, 0)) } := by
  simp [newVar, newRow]
theorem run_newRow (t : TypeId) (cs : Array Value) (w : World) : (newRow t cs).run P w = .ok ⟨w.heap.size, 0, none⟩ { w with heap := w.heap.push (.cells cs t (0, 0)) } := by
  simp [newRow]

/-- A new variable. -/
theorem left_box {vs : List V} {cs : Array Value} {e : TypeId} (hs : SRel w N L σ) (hn : L nxt = none) (hc : CRel w N L vs cs) :
    Left w N L σ nxt (.ptr nxt 0 0) [(nxt, some (.box vs))] (.pointer (some ⟨w.heap.size, 0, none⟩)) { w with heap := w.heap.push (.cells cs e (0, 0)) } N (upd L nxt ⟨w.heap.size, 0, vs.length, 1⟩) := by
  have hold : ∀ b, N b → (w.heap.push (.cells cs e (0, 0)))[b]? = w.heap[b]? := fun b hb => by
    rw [Array.getElem?_push, if_neg (by have := hs.lt b hb; omega)]
  have hm := upd_mono (l := ⟨w.heap.size, 0, vs.length, 1⟩) hn
  have key := new_good hs hn (cs := cs) (e := e) (o := .box vs) (l := ⟨w.heap.size, 0, vs.length, 1⟩) rfl (w' := { w with heap := w.heap.push (.cells cs e (0, 0)) }) rfl
    ⟨⟨w.heap.size, 0, vs.length, 1⟩, cs, e, by simp [upd], rfl, by simp, hc.1, fun k v hk => by
      have hlt : k < cs.size := by
        rw [hc.1]
        rcases Nat.lt_or_ge k vs.length with h | h
        · exact h
        · rw [List.getElem?_eq_none h] at hk; cases hk
      refine ⟨cs[k], Array.getElem?_eq_getElem hlt, ?_, hc.2.1 k _ (Array.getElem?_eq_getElem hlt)⟩
      exact (hc.2.2 k v _ hk (Array.getElem?_eq_getElem hlt)).mono (fun _ h => h) hold hm⟩
  exact ⟨key.1, hm, key.2, .inr (by
      have := RV.ptr (w := { w with heap := w.heap.push (.cells cs e (0, 0)) }) (N := N) (L := upd L nxt ⟨w.heap.size, 0, vs.length, 1⟩) nxt 0 0 ⟨w.heap.size, 0, vs.length, 1⟩ (by simp [upd])
      simpa using this), fun id l h => by
    unfold upd at h
    split at h
    · rename_i e1; exact .inr ⟨_, List.mem_singleton.2 rfl, e1.symm, by omega⟩
    · exact .inl h⟩

theorem good_new {o : Oper} {e : TypeId} {z : List V} (ho : o.op = .alloc e) (hz : zeroP P e = some z) (hs : SRel w N L σ) (hn : L nxt = none) :
    Good P (execOp a.eval o) w N L σ nxt (.ptr nxt 0 0) [(nxt, some (.box z))] := by
  unfold zeroP at hz
  cases hi : P.info? e with
  | none => rw [hi] at hz; simp at hz
  | some i =>
    rw [hi] at hz
    cases hzv : i.zero with
    | none => simp [hzv] at hz
    | some v =>
      simp [hzv] at hz
      obtain ⟨x, hx, rfl⟩ := hz
      have hrv := rv_const (w := w) (N := N) (L := L) hx
      have hnt : ∀ vs, x ≠ .tup vs := by
        intro vs h; subst h; cases hrv; simp [vOf, ofVal] at hx
      refine ⟨_, _, N, _, .inl ?_, left_box (cs := v.cells) (e := e) hs hn (cells_rel hrv hnt)⟩
      simp [execOp, ho, Instr.alloc, run_zeroValue hi hzv, run_newVar]

theorem good_box {o : Oper} {e : TypeId} {x : Operand} {y : O} (ho : o.op = .box e x) (hx : oOf x = some y) (hs : SRel w N L σ) (hf : FRel w N L ts a) (hn : L nxt = none) (hb : y.ev ts ≠ .bot) (ht : ∀ vs, y.ev ts ≠ .tup vs) :
    Good P (execOp a.eval o) w N L σ nxt (.ptr nxt 0 0) [(nxt, some (.box (y.ev ts).cells))] := by
  have h1 := rs_of (ev_rel hf hx) hb
  refine ⟨_, _, N, _, .inl ?_, left_box (cs := (a.eval x).cells) (e := e) hs hn (cells_rel h1 ht)⟩
  simp [execOp, ho, Instr.box, run_newVar]

end Go.Vm
namespace Go.Vm
variable {P : Program} {w : World} {N : Nat → Prop} {L : Lmap} {σ : Store} {nxt : Nat} {ts : List V} {a : Act}

/-! ### Splicing -/
theorem splice_length {α : Type} (xs : List α) (k : Nat) (ys : List α) (h : k + ys.length ≤ xs.length) : (splice xs k ys).length = xs.length := by
  simp [splice]; omega
theorem splice_get {α : Type} (xs : List α) (k : Nat) (ys : List α) (h : k + ys.length ≤ xs.length) (i : Nat) : (splice xs k ys)[i]? = if k ≤ i ∧ i < k + ys.length then ys[i - k]? else xs[i]? := by
  unfold splice
  have h1 : (xs.take k).length = k := by simp; omega
  by_cases hi : i < k
  · rw [if_neg (by omega), List.append_assoc, List.getElem?_append_left (by omega), List.getElem?_take, if_pos hi]
  · by_cases h2 : i < k + ys.length
    · rw [if_pos (by omega), List.append_assoc, List.getElem?_append_right (by omega), h1, List.getElem?_append_left (by omega)]
    · rw [if_neg (by omega), List.getElem?_append_right (by simp; omega), List.getElem?_drop]
      congr 1
      simp; omega

theorem fold_get : ∀ (l : List Value) (k off : Nat) (cs : Array Value), ((l.zipIdx k).foldl (fun cs (p : Value × Nat) => cs.setIfInBounds (off + p.2) p.1) cs).size = cs.size ∧
    ∀ i, off + k + l.length ≤ cs.size → ((l.zipIdx k).foldl (fun cs (p : Value × Nat) => cs.setIfInBounds (off + p.2) p.1) cs)[i]? = if off + k ≤ i ∧ i < off + k + l.length then l[i - (off + k)]? else cs[i]?
  | [], k, off, cs => ⟨rfl, fun i _ => by rw [if_neg (by simp)]; rfl⟩
  | c :: l, k, off, cs => by
    have ih := fold_get l (k + 1) off (cs.setIfInBounds (off + k) c)
    refine ⟨by simpa using ih.1, fun i h => ?_⟩
    have h2 := ih.2 i (by simp at h ⊢; omega)
    simp only [List.zipIdx_cons, List.foldl_cons]
    rw [h2]
    simp only [List.length_cons] at h ⊢
    by_cases h1 : i = off + k
    · subst h1
      rw [if_neg (by omega), if_pos (by omega), Array.getElem?_setIfInBounds, if_pos rfl, if_pos (by omega)]
      simp
    · by_cases h3 : off + (k + 1) ≤ i ∧ i < off + (k + 1) + l.length
      · rw [if_pos h3, if_pos (by omega), show i - (off + k) = (i - (off + (k + 1))) + 1 by omega, List.getElem?_cons_succ]
      · rw [if_neg h3, if_neg (by omega), Array.getElem?_setIfInBounds, if_neg (by omega)]

theorem arr_fold (v : Array Value) (off : Nat) (cs : Array Value) : v.zipIdx.foldl (fun cs (p : Value × Nat) => cs.setIfInBounds (off + p.2) p.1) cs = (v.toList.zipIdx 0).foldl (fun cs (p : Value × Nat) => cs.setIfInBounds (off + p.2) p.1) cs := by
  rw [← Array.foldl_toList]; simp

theorem crel_get {vs : List V} {cs : Array Value} (h : CRel w N L vs cs) {i : Nat} {v : V} (hv : vs[i]? = some v) : ∃ c, cs[i]? = some c ∧ RV w N L v c ∧ one c := by
  have hlt : i < cs.size := by
    rw [h.1]
    rcases Nat.lt_or_ge i vs.length with h1 | h1
    · exact h1
    · rw [List.getElem?_eq_none h1] at hv; cases hv
  exact ⟨cs[i], Array.getElem?_eq_getElem hlt, h.2.2 i v _ hv (Array.getElem?_eq_getElem hlt), h.2.1 i _ (Array.getElem?_eq_getElem hlt)⟩

theorem crel_splice {vs ys : List V} {cs ds cs' : Array Value} {k : Nat} (h : CRel w N L vs cs) (h' : CRel w N L ys ds) (hk : k + ys.length ≤ vs.length) (hz : cs'.size = cs.size)
    (hg : ∀ i, cs'[i]? = if k ≤ i ∧ i < k + ds.size then ds[i - k]? else cs[i]?) : CRel w N L (splice vs k ys) cs' := by
  refine ⟨by rw [hz, splice_length _ _ _ hk]; exact h.1, fun i c hc => ?_, fun i v c hv hc => ?_⟩
  · rw [hg] at hc
    split at hc
    · exact h'.2.1 _ _ hc
    · exact h.2.1 _ _ hc
  · rw [hg] at hc
    rw [splice_get _ _ _ hk, ← h'.1] at hv
    split at hc
    · rename_i h1; rw [if_pos h1] at hv; exact h'.2.2 _ _ _ hv hc
    · rename_i h1; rw [if_neg h1] at hv; exact h.2.2 _ _ _ hv hc

theorem okV_bot {v : V} (h : okV v = true) : v ≠ .bot := by rintro rfl; simp [okV] at h
theorem okV_tup {v : V} (h : okV v = true) : ∀ vs, v ≠ .tup vs := by rintro vs rfl; simp [okV] at h

theorem cells_of {v : V} {c : Value} (h : RS w N L v c) (ho : okV v = true) : CRel w N L v.cells c.cells := cells_rel (rs_of h (okV_bot ho)) (okV_tup ho)

theorem fill_sim (pl : Nat → Option (Nat × Nat)) : ∀ (mp : List (Nat × Value)) (vp : List (Nat × Nat × V)) (vs vs' : List V) (cs : Array Value), mp.length = vp.length →
    (∀ (i : Nat) p q, mp[i]? = some p → vp[i]? = some q → pl p.1 = some (q.1, q.2.1) ∧ RS w N L q.2.2 p.2) → CRel w N L vs cs → fill vs vp = some vs' →
    ∃ cs', Instr.fill pl cs mp = some cs' ∧ CRel w N L vs' cs'
  | [], vp, vs, vs', cs, hl, hp, hc, hf => by
    cases vp with
    | nil => simp [fill] at hf; subst hf; exact ⟨cs, rfl, hc⟩
    | cons _ _ => simp at hl
  | (i, x) :: mp, vp, vs, vs', cs, hl, hp, hc, hf => by
    cases vp with
    | nil => simp at hl
    | cons q vp =>
      obtain ⟨off, size, v⟩ := q
      obtain ⟨h1, h2⟩ := hp 0 _ _ rfl rfl
      simp only [fill] at hf
      split at hf
      · cases hf
      · rename_i hcond
        have hx : CRel w N L v.cells x.cells := cells_of h2 (by simpa using fun e => hcond (.inr (.inr e)))
        have hsz : x.cells.size = size := by rw [hx.1]; omega
        have hle : off + size ≤ vs.length := by omega
        have hvl : v.cells.length = size := by omega
        simp only at h1
        simp only [Instr.fill, h1]
        rw [if_neg (by simp [hsz]; rw [hc.1]; omega), arr_fold]
        have fg := fold_get x.cells.toList 0 off cs
        exact fill_sim pl mp vp _ vs' _ (by simpa using hl) (fun j p q hp' hq' => hp (j + 1) p q (by simpa using hp') (by simpa using hq'))
          (crel_splice hc hx (by omega) fg.1 (fun j => by
            have := fg.2 j (by simp [hsz]; rw [hc.1]; omega)
            simpa using this)) hf

end Go.Vm
namespace Go.Vm
variable {P : Program} {w : World} {N : Nat → Prop} {L : Lmap} {σ : Store} {nxt : Nat} {ts : List V} {a : Act}

/-! ### Reading -/
theorem add_plain (b o n : Nat) : (⟨b, o, none⟩ : Addr).add n = ⟨b, o + n, none⟩ := by unfold Addr.add; split <;> simp_all

/-- What is read at a pointer: cells of the model's memory. -/
theorem read_rel {n : Nat} {p : V} {c : Value} {vs : List V} (hs : SRel w N L σ) (hp : RS w N L p c) (h : readAt σ n p = some vs) :
    ∃ b o, c = .pointer (some ⟨b, o, none⟩) ∧ vs.length = n ∧ ∃ cs : List Value, cs.length = n ∧ (∀ (j : Nat) v, cs[j]? = some v → w.cell? ⟨b, o + j, none⟩ = some v) ∧ CRel w N L vs cs.toArray := by
  have fin : ∀ (b o : Nat) (vs : List V), vs.length = n → (∀ j v, vs[j]? = some v → ∃ c, w.cell? ⟨b, o + j, none⟩ = some c ∧ RV w N L v c ∧ one c) →
      ∃ cs : List Value, cs.length = n ∧ (∀ (j : Nat) v, cs[j]? = some v → w.cell? ⟨b, o + j, none⟩ = some v) ∧ CRel w N L vs cs.toArray := by
    intro b o vs hl hv
    refine ⟨(List.range n).map fun j => (w.cell? ⟨b, o + j, none⟩).getD undef, by simp, fun j v hj => ?_, ?_⟩
    · simp only [List.getElem?_map] at hj
      by_cases hjn : j < n
      · rw [List.getElem?_range hjn] at hj
        have hjl : j < vs.length := by omega
        obtain ⟨c, hc, _⟩ := hv j _ (List.getElem?_eq_getElem hjl)
        simp [hc] at hj ⊢
        exact hj
      · rw [List.getElem?_eq_none (by simp; omega)] at hj; simp at hj
    · have key : ∀ (j : Nat) c, ((List.range n).map fun j => (w.cell? ⟨b, o + j, none⟩).getD undef)[j]? = some c → ∃ hj : j < vs.length, RV w N L vs[j] c ∧ one c := by
        intro j c hj
        simp only [List.getElem?_map] at hj
        by_cases hjn : j < n
        · rw [List.getElem?_range hjn] at hj
          have hjl : j < vs.length := by omega
          obtain ⟨c', hc, h1, h2⟩ := hv j _ (List.getElem?_eq_getElem hjl)
          simp [hc] at hj
          subst hj
          exact ⟨hjl, h1, h2⟩
        · rw [List.getElem?_eq_none (by simp; omega)] at hj; simp at hj
      refine ⟨by simp [hl], fun j c hj => ?_, fun j v c hv' hj => ?_⟩
      · obtain ⟨_, _, h2⟩ := key j c (by simpa using hj)
        exact h2
      · obtain ⟨h0, h1, _⟩ := key j c (by simpa using hj)
        rw [List.getElem?_eq_getElem h0] at hv'
        injection hv' with hv'
        subst hv'
        exact h1
  cases p with
  | ptr id i k =>
    have h1 := rs_of hp (by simp)
    cases h1 with
    | ptr _ _ _ l hl =>
      simp only [readAt] at h
      cases hg : σ.get id with
      | none => rw [hg] at h; simp at h
      | some ob =>
        rw [hg] at h
        have hor := hs.obj id ob hg
        cases ob with
        | box cs =>
          simp only at h
          split at h
          · rename_i hc
            injection h with h
            subst h
            obtain ⟨l2, cells, e, hl2, hb, hh, hz, hy⟩ := hor
            rw [hl] at hl2; injection hl2 with hl2; subst hl2
            refine ⟨_, _, rfl, by simp; omega, fin _ _ _ (by simp; omega) fun j v hj => ?_⟩
            rw [List.getElem?_take] at hj
            split at hj
            · rw [List.getElem?_drop] at hj
              obtain ⟨c, hc', hr, h1⟩ := hy _ _ hj
              refine ⟨c, ?_, hr, h1⟩
              simp [World.cell?, hh, hb, hc.1]
              rw [← hc']
            · cases hj
          · cases h
        | row s xs =>
          simp only at h
          cases hx : xs[i]? with
          | none => rw [hx] at h; simp at h
          | some x =>
            rw [hx] at h
            simp only at h
            split at h
            · rename_i hc
              injection h with h
              subst h
              obtain ⟨l2, cells, e, hl2, hs', h0, hcap, hh, hz, hlen, hy⟩ := hor
              rw [hl] at hl2; injection hl2 with hl2; subst hl2
              refine ⟨_, _, rfl, by simp; omega, fin _ _ _ (by simp; omega) fun j v hj => ?_⟩
              rw [List.getElem?_map, List.getElem?_take] at hj
              split at hj
              · rw [List.getElem?_drop] at hj
                cases hk : x[k + j]? with
                | none => rw [hk] at hj; simp at hj
                | some y =>
                  rw [hk] at hj; simp at hj; subst hj
                  obtain ⟨c, hc', hr⟩ := hy i x _ _ hx hk
                  refine ⟨c, ?_, .d _ _ hr, one_of_rd hr⟩
                  simp [World.cell?, hh, hs']
                  rw [← hc']; congr 1; omega
              · simp at hj
            · cases h
        | imm s xs =>
          simp only at h
          cases hx : xs[i]? with
          | none => rw [hx] at h; simp at h
          | some x =>
            rw [hx] at h
            simp only at h
            split at h
            · rename_i hc
              injection h with h
              subst h
              obtain ⟨l2, hl2, hs', h0, hcap, hN, hlen, hy⟩ := hor
              rw [hl] at hl2; injection hl2 with hl2; subst hl2
              refine ⟨_, _, rfl, by simp; omega, fin _ _ _ (by simp; omega) fun j v hj => ?_⟩
              rw [List.getElem?_map, List.getElem?_take] at hj
              split at hj
              · rw [List.getElem?_drop] at hj
                cases hk : x[k + j]? with
                | none => rw [hk] at hj; simp at hj
                | some y =>
                  rw [hk] at hj; simp at hj; subst hj
                  obtain ⟨c, hc', hr⟩ := hy i x _ _ hx hk
                  refine ⟨c, ?_, .d _ _ hr, one_of_rd hr⟩
                  rw [← hc', hs']; congr 2; omega
              · simp at hj
            · cases h
  | dptr cells k =>
    have h1 := rs_of hp (by simp)
    cases h1 with
    | dptr _ _ b o cs hN hc hr =>
      simp only [readAt] at h
      split at h
      · rename_i hle
        injection h with h
        subst h
        refine ⟨_, _, rfl, by simp; omega, fin _ _ _ (by simp; omega) fun j v hj => ?_⟩
        rw [List.getElem?_map, List.getElem?_take] at hj
        split at hj
        · rw [List.getElem?_drop] at hj
          cases hk : cells[k + j]? with
          | none => rw [hk] at hj; simp at hj
          | some y =>
            rw [hk] at hj; simp at hj; subst hj
            exact ⟨cs (k + j), by rw [show o + k + j = o + (k + j) by omega]; exact hc _ _ hk, .d _ _ (hr _ _ hk), one_of_rd (hr _ _ hk)⟩
        · simp at hj
      · cases h
  | _ => simp [readAt] at h

theorem aggP_some {t : TypeId} {b : Bool} (h : aggP P t = some b) : ∀ w, (isAgg t).run P w = .ok b w := by
  intro w
  unfold aggP at h
  cases hu : P.underlying t with
  | none => rw [hu] at h; simp at h
  | some d =>
    rw [hu] at h
    cases d <;> simp at h <;> subst h <;> simp [isAgg, run_underlying hu]
theorem szP_some {t : TypeId} {n : Nat} (h : szP P t = some n) : ∀ w, (sizeOf t).run P w = .ok n w := by
  intro w
  unfold szP at h
  cases hi : P.info? t with
  | none => rw [hi] at h; simp at h
  | some i => rw [hi] at h; simp at h; subst h; exact run_sizeOf hi w

theorem run_loadVar' {t : TypeId} {n : Nat} {agg : Bool} (ha : aggP P t = some agg) (hn : szP P t = some n) {b o : Nat} {cs : List Value} (hl : cs.length = n)
    (hc : ∀ (j : Nat) v, cs[j]? = some v → w.cell? ⟨b, o + j, none⟩ = some v) {v : Value} (hv : if agg then v = .agg cs.toArray else cs = [v]) : (loadVar t ⟨b, o, none⟩).run P w = .ok v w := by
  unfold loadVar
  simp only [Sem.run_bind, aggP_some ha, Result.andThen_ok]
  cases agg with
  | true =>
    simp only [if_true] at hv ⊢
    subst hv
    have h2 := run_loadCells_list (P := P) w ⟨b, o, none⟩ cs (fun j v hj => by rw [add_plain]; exact hc j v hj)
    rw [hl] at h2
    simp [szP_some hn, h2]
  | false =>
    simp only [Bool.false_eq_true, if_false] at hv ⊢
    subst hv
    have := hc 0 v rfl
    simp at this
    simp [this]

theorem mk_rel {agg : Bool} {vs : List V} {cs : List Value} {v : V} (hc : CRel w N L vs cs.toArray) (h : mkAgg agg vs = some v) : ∃ c, (if agg then c = .agg cs.toArray else cs = [c]) ∧ RV w N L v c := by
  unfold mkAgg at h
  cases agg with
  | true => simp at h; subst h; exact ⟨_, rfl, .agg vs cs.toArray hc.1 hc.2.1 hc.2.2⟩
  | false =>
    simp at h
    cases vs with
    | nil => simp at h
    | cons x r =>
      cases r with
      | cons _ _ => simp at h
      | nil =>
        simp at h; subst h
        have h1 := hc.1
        cases cs with
        | nil => simp at h1
        | cons c r =>
          cases r with
          | cons _ _ => simp at h1
          | nil => exact ⟨c, rfl, hc.2.2 0 x c rfl rfl⟩

theorem good_ld {o : Oper} {t : TypeId} {x : Operand} {y : O} {agg : Bool} {n : Nat} {vs : List V} {v : V} (ho : o.op = .load t x) (ha : aggP P t = some agg) (hn : szP P t = some n) (hx : oOf x = some y)
    (hs : SRel w N L σ) (hf : FRel w N L ts a) (hr : readAt σ n (y.ev ts) = some vs) (hm : mkAgg agg vs = some v) : Good P (execOp a.eval o) w N L σ nxt v [] := by
  obtain ⟨b, of, hc, hl, cs, hcl, hcc, hcr⟩ := read_rel hs (ev_rel hf hx) hr
  obtain ⟨c, hcv, hrv⟩ := mk_rel hcr hm
  refine good_pure (c := c) ?_ hs (.inr hrv)
  have := run_loadVar' (w := w) ha hn hcl hcc hcv
  simp [execOp, ho, Instr.loadAt, hc, Instr.sureAddr, this]

end Go.Vm
namespace Go.Vm
variable {P : Program} {w : World} {N : Nat → Prop} {L : Lmap} {σ : Store} {nxt : Nat} {ts : List V} {a : Act}

theorem owned_lt (h : SRel w N L σ) {id : Nat} {o : Obj} {l : Loc} (hg : σ.get id = some o) (ho : o.owned = true) (hl : L id = some l) : l.blk < w.heap.size := by
  have h1 := h.obj id o hg
  cases o with
  | row s xs => obtain ⟨l2, cells, e2, hl2, _, _, _, hh, _⟩ := h1; rw [hl] at hl2; injection hl2 with hl2; subst hl2; exact (Array.getElem?_eq_some_iff.1 hh).1
  | box vs => obtain ⟨l2, cells, e2, hl2, _, hh, _⟩ := h1; rw [hl] at hl2; injection hl2 with hl2; subst hl2; exact (Array.getElem?_eq_some_iff.1 hh).1
  | imm s xs => simp [Obj.owned] at ho
theorem obj_loc (h : SRel w N L σ) {id : Nat} {o : Obj} (hg : σ.get id = some o) : ∃ l, L id = some l := by
  have h1 := h.obj id o hg
  cases o with
  | row s xs => obtain ⟨l2, cells, e2, hl2, _⟩ := h1; exact ⟨l2, hl2⟩
  | box vs => obtain ⟨l2, cells, e2, hl2, _⟩ := h1; exact ⟨l2, hl2⟩
  | imm s xs => obtain ⟨l2, hl2, _⟩ := h1; exact ⟨l2, hl2⟩

/-! ### Freezing -/
theorem get_frz (σ : Store) (j : Nat) : ∀ (ids : List Nat) (σ0 : Store), (σ0.app (frz σ ids)).get j = if j ∈ ids then toImm (σ.get j) else σ0.get j
  | [], σ0 => by simp [frz]
  | i :: ids, σ0 => by
    have : frz σ (i :: ids) = (i, toImm (σ.get i)) :: frz σ ids := rfl
    rw [this, app_cons, get_frz σ j ids]
    by_cases h : j ∈ ids
    · simp [h]
    · by_cases h2 : j = i
      · subst h2; simp [h, get_put]
      · simp [h, h2, get_put]

/-- The blocks that are frozen. -/
def Fz (L : Lmap) (σ : Store) (ids : List Nat) (b : Nat) : Prop := ∃ id s xs l, id ∈ ids ∧ σ.get id = some (.row s xs) ∧ L id = some l ∧ l.blk = b

theorem own_frz {ids : List Nat} {b : Nat} (h : Own L (σ.app (frz σ ids)) b) : Own L σ b := by
  obtain ⟨id, o, l, hg, ho, hl, e⟩ := h
  rw [get_frz] at hg
  split at hg
  · cases hc : σ.get id with
    | none => rw [hc] at hg; simp [toImm] at hg
    | some o2 =>
      rw [hc] at hg
      cases o2 <;> simp [toImm] at hg <;> subst hg
      · simp [Obj.owned] at ho
      · exact ⟨id, _, l, hc, rfl, hl, e⟩
      · simp [Obj.owned] at ho
  · exact ⟨id, o, l, hg, ho, hl, e⟩

theorem freeze_good (hs : SRel w N L σ) (ids : List Nat) : Evo w N L σ w (fun b => N b ∨ Fz L σ ids b) L (σ.app (frz σ ids)) ∧ SRel w (fun b => N b ∨ Fz L σ ids b) L (σ.app (frz σ ids)) := by
  refine ⟨⟨rfl, rfl, rfl, fun _ => rfl, Nat.le_refl _, fun _ _ _ => rfl, fun _ h => .inl h, fun b h => ?_, fun b h => .inr (own_frz h)⟩, ?_⟩
  · rcases h with h | ⟨id, s, xs, l, _, hg, hl, e⟩
    · exact .inl h
    · exact .inr (.inr ⟨id, _, l, hg, rfl, hl, e⟩)
  · constructor
    · intro id o hg
      rw [get_frz] at hg
      have mono : ∀ o, σ.get id = some o → ORel w (fun b => N b ∨ Fz L σ ids b) L id o := fun o h => (hs.obj id o h).mono (fun _ h => .inl h) (fun _ _ => rfl) (fun _ _ h => h) (fun _ _ _ => rfl)
      split at hg
      · rename_i hm
        cases hc : σ.get id with
        | none => rw [hc] at hg; simp [toImm] at hg
        | some o2 =>
          rw [hc] at hg
          cases o2 with
          | row s xs =>
            simp [toImm] at hg; subst hg
            obtain ⟨l, cells, e, hl, hs', h0, hcap, hh, hz, hlen, hy⟩ := hs.obj id _ hc
            refine ⟨l, hl, hs', h0, hcap, .inr ⟨id, s, xs, l, hm, hc, hl, rfl⟩, hlen, fun i x k y hi hk => ?_⟩
            obtain ⟨c, hc', hr⟩ := hy i x k y hi hk
            exact ⟨c, by simp [World.cell?, hh]; rw [← hc'], hr.mono (fun _ h => .inl h) (fun _ _ => rfl)⟩
          | box vs => simp [toImm] at hg; subst hg; exact mono _ hc
          | imm s xs => simp [toImm] at hg; subst hg; exact mono _ hc
      · exact mono o hg
    · intro b hb ho
      rcases hb with hb | ⟨id, s, xs, l, hm, hg, hl, e⟩
      · exact hs.apart b hb (own_frz ho)
      · obtain ⟨id2, o2, l2, hg2, ho2, hl2, e2⟩ := ho
        rw [get_frz] at hg2
        split at hg2
        · rename_i hm2
          cases hc : σ.get id2 with
          | none => rw [hc] at hg2; simp [toImm] at hg2
          | some o3 =>
            rw [hc] at hg2
            cases o3 with
            | row s3 xs3 => simp [toImm] at hg2; subst hg2; simp [Obj.owned] at ho2
            | imm s3 xs3 => simp [toImm] at hg2; subst hg2; simp [Obj.owned] at ho2
            | box vs =>
              have := hs.inj id id2 _ _ l l2 hg hc rfl rfl hl hl2 (by omega)
              subst this
              rw [hg] at hc; cases hc
        · rename_i hm2
          have := hs.inj id id2 _ _ l l2 hg hg2 rfl ho2 hl hl2 (by omega)
          subst this
          exact hm2 hm
    · intro id id' o o' l l' hg hg' ho ho' hl hl' e
      rw [get_frz] at hg hg'
      have back : ∀ id o, (if id ∈ ids then toImm (σ.get id) else σ.get id) = some o → o.owned = true → ∃ o2, σ.get id = some o2 ∧ o2.owned = true := by
        intro id o h ho
        split at h
        · cases hc : σ.get id with
          | none => rw [hc] at h; simp [toImm] at h
          | some o2 =>
            rw [hc] at h
            cases o2 <;> simp [toImm] at h <;> subst h
            · simp [Obj.owned] at ho
            · exact ⟨_, rfl, rfl⟩
            · simp [Obj.owned] at ho
        · exact ⟨o, h, ho⟩
      obtain ⟨o2, hg2, ho2⟩ := back _ _ hg ho
      obtain ⟨o3, hg3, ho3⟩ := back _ _ hg' ho'
      exact hs.inj id id' o2 o3 l l' hg2 hg3 ho2 ho3 hl hl' e
    · intro b hb
      rcases hb with hb | ⟨id, s, xs, l, _, hg, hl, e⟩
      · exact hs.lt b hb
      · subst e; exact owned_lt hs hg rfl hl

/-- What a slice's elements are in memory. -/
theorem elems_rel {v : V} {c : Value} {xs : List (List D)} (hs : SRel w N L σ) (hv : RS w N L v c) (h : elems σ v = some xs) :
    ∃ (a : Option Addr) (cap s : Nat) (cs : Nat → Nat → Value), c = .slice a xs.length cap ∧ xs.length ≤ cap ∧ (∀ (i : Nat) (x : List D), xs[i]? = some x → x.length = s) ∧
      (xs ≠ [] → ∃ b o, a = some ⟨b, o, none⟩ ∧ (N b ∨ Fz L σ (frozenIds v) b) ∧ ∀ (i : Nat) (x : List D) (k : Nat) (y : D), xs[i]? = some x → x[k]? = some y → w.cell? ⟨b, o + (i * s + k), none⟩ = some (cs i k)) ∧
      ∀ (i : Nat) (x : List D) (k : Nat) (y : D), xs[i]? = some x → x[k]? = some y → RD w N y (cs i k) := by
  cases v with
  | nils =>
    simp [elems] at h; subst h
    have h1 := rs_of hv (by simp)
    cases h1
    exact ⟨none, 0, 0, fun _ _ => undef, rfl, by simp, fun i x hx => by simp at hx, fun h => absurd rfl h, fun i x k y hx => by simp at hx⟩
  | d x =>
    cases x with
    | lst ys =>
      simp [elems] at h; subst h
      have h1 := rs_of hv (by simp)
      cases h1 with
      | d _ _ h1 =>
        cases h1 with
        | lst _ a cap s cs hcap hlen ha hr =>
          exact ⟨a, cap, s, cs, rfl, hcap, hlen, fun hne => by
            obtain ⟨b, o, e, hb, hc⟩ := ha hne
            exact ⟨b, o, e, .inl hb, hc⟩, hr⟩
    | _ => simp [elems] at h
  | arr id off len =>
    have h1 := rs_of hv (by simp)
    cases h1 with
    | arr _ _ _ l ad cap hl hc hle ha =>
      simp only [elems] at h
      cases hg : σ.get id with
      | none => rw [hg] at h; simp at h
      | some ob =>
        rw [hg] at h
        have hor := hs.obj id ob hg
        have len_of : ∀ zs : List (List D), off + len ≤ zs.length → ((zs.drop off).take len).length = len := by intro zs h; simp; omega
        have get_of : ∀ (zs : List (List D)) (i : Nat) x, ((zs.drop off).take len)[i]? = some x → i < len ∧ zs[off + i]? = some x := by
          intro zs i x h
          rw [List.getElem?_take] at h
          split at h
          · rw [List.getElem?_drop] at h; exact ⟨by assumption, h⟩
          · cases h
        cases ob with
        | row s zs =>
          simp only at h
          split at h
          · rename_i hb
            injection h with h
            subst h
            obtain ⟨l2, cells, e, hl2, hs', h0, hcap, hh, hz, hlen, hy⟩ := hor
            rw [hl] at hl2; injection hl2 with hl2; subst hl2
            refine ⟨ad, cap, s, fun i k => (cells[l.base + ((off + i) * s + k)]?).getD undef, by rw [len_of zs hb], by rw [len_of zs hb]; exact hle, fun i x hx => hlen _ _ (get_of zs i x hx).2, fun hne => ?_, fun i x k y hx hk => ?_⟩
            · have hpos : 0 < cap := by
                have : 0 < len := by
                  rcases Nat.eq_zero_or_pos len with h0 | h0
                  · subst h0; simp at hne
                  · exact h0
                omega
              refine ⟨_, _, ha hpos, .inr ⟨id, s, zs, l, by simp [frozenIds], hg, hl, rfl⟩, fun i x k y hx hk => ?_⟩
              obtain ⟨c, hc', hr⟩ := hy _ x k y (get_of zs i x hx).2 hk
              have e1 : l.base + off * l.s + (i * s + k) = l.base + ((off + i) * s + k) := by rw [hs', Nat.add_mul]; omega
              rw [e1]
              simp [World.cell?, hh, hc']
            · obtain ⟨c, hc', hr⟩ := hy _ x k y (get_of zs i x hx).2 hk
              simp only [hc', Option.getD_some]; exact hr
          · cases h
        | imm s zs =>
          simp only at h
          split at h
          · rename_i hb
            injection h with h
            subst h
            obtain ⟨l2, hl2, hs', h0, hcap, hN, hlen, hy⟩ := hor
            rw [hl] at hl2; injection hl2 with hl2; subst hl2
            refine ⟨ad, cap, s, fun i k => (w.cell? ⟨l.blk, l.base + ((off + i) * s + k), none⟩).getD undef, by rw [len_of zs hb], by rw [len_of zs hb]; exact hle, fun i x hx => hlen _ _ (get_of zs i x hx).2, fun hne => ?_, fun i x k y hx hk => ?_⟩
            · have hpos : 0 < cap := by
                have : 0 < len := by
                  rcases Nat.eq_zero_or_pos len with h0 | h0
                  · subst h0; simp at hne
                  · exact h0
                omega
              refine ⟨_, _, ha hpos, .inl hN, fun i x k y hx hk => ?_⟩
              obtain ⟨c, hc', hr⟩ := hy _ x k y (get_of zs i x hx).2 hk
              have e1 : l.base + off * l.s + (i * s + k) = l.base + ((off + i) * s + k) := by rw [hs', Nat.add_mul]; omega
              rw [e1]
              simp [hc']
            · obtain ⟨c, hc', hr⟩ := hy _ x k y (get_of zs i x hx).2 hk
              simp only [hc', Option.getD_some]; exact hr
          · cases h
        | box vs => simp at h
  | _ => simp [elems] at h

/-- A frozen cell. -/
theorem freeze_rel {v : V} {c : Value} {x : D} {ids : List Nat} (hs : SRel w N L σ) (hv : RS w N L v c) (h : freezeCell σ v = some x) (hi : ∀ id off len, v = .arr id off len → id ∈ ids) : RD w (fun b => N b ∨ Fz L σ ids b) x c := by
  have lst : ∀ xs, elems σ v = some xs → RD w (fun b => N b ∨ Fz L σ ids b) (.lst xs) c := by
    intro xs hx
    obtain ⟨a, cap, s, cs, rfl, hcap, hlen, ha, hr⟩ := elems_rel hs hv hx
    refine .lst xs a cap s cs hcap hlen (fun hne => ?_) (fun i x k y hx hk => (hr i x k y hx hk).mono (fun _ h => .inl h) (fun _ _ => rfl))
    obtain ⟨b, o, e, hb, hc⟩ := ha hne
    refine ⟨b, o, e, hb.imp id ?_, hc⟩
    rintro ⟨id, s, xs, l, hm, hg, hl, e⟩
    refine ⟨id, s, xs, l, ?_, hg, hl, e⟩
    cases v with
    | arr id2 off len => simp [frozenIds] at hm; subst hm; exact hi _ _ _ rfl
    | agg cells => simp [elems] at hx
    | _ => simp [frozenIds] at hm
  cases v with
  | d y =>
    simp [freezeCell] at h; subst h
    have h1 := rs_of hv (by simp)
    cases h1 with | d _ _ h1 => exact h1.mono (fun _ h => .inl h) (fun _ _ => rfl)
  | nils => simp [freezeCell, elems] at h; subst h; exact lst _ rfl
  | arr id off len =>
    simp only [freezeCell] at h
    cases he : elems σ (.arr id off len) with
    | none => rw [he] at h; simp at h
    | some xs => rw [he] at h; simp at h; subst h; exact lst _ he
  | _ => simp [freezeCell, elems] at h

end Go.Vm
