/- A part of the proofs of the statements BatchTells and BatchNumbers: C3g, C3r, C3, C4, C5, C6, C7, C8, Fl1, Fl2, Fl3, Fl4, Fl5. Conditions: none of its own. -/
import Derived.Test.YtoaafpebcdfniaaGreatT08
import Derived.Test.YtoaafpebcdfniaaGreatT10
import Derived.Test.YtoaafpebcdfniaaGreatT01
import Derived.KernelRfl
import Derived.Test.YtoaafpebcdfniaaGreatProg
set_option linter.unusedSimpArgs false
set_option linter.unusedVariables false
set_option linter.unnecessarySimpa false
set_option linter.all false
namespace Go.Vm
theorem addIds_sub : ∀ (l seen : List Nat), (∀ i ∈ l, i ∈ seen) → addIds seen l = seen
  | [], seen, _ => rfl
  | i :: r, seen, h => by
    rw [addIds, if_pos (by simpa using h i (by simp))]
    exact addIds_sub r seen fun j hj => h j (by simp [hj])
theorem reach_fix (σ : Store) (seen : List Nat) (h : ∀ i ∈ seen.flatMap (fun i => match σ.get i with | some o => o.ids | none => []), i ∈ seen) : ∀ n, reach σ n seen = seen
  | 0 => rfl
  | n + 1 => by
    have := addIds_sub _ _ h
    unfold reach
    dsimp only
    split
    · rfl
    · rename_i hn; exact absurd (congrArg List.length this) hn

@[simp] theorem reach_nil (σ : Store) (n : Nat) : reach σ n [] = [] := reach_fix _ _ (by simp) _
@[simp] theorem reach_fix' (σ : Store) (seen : List Nat) (n : Nat) (h : ∀ i ∈ seen.flatMap (fun i => match σ.get i with | some o => o.ids | none => []), i ∈ seen) : reach σ n seen = seen := reach_fix _ _ h _
@[simp] theorem gc_nil (vs : List V) : gc 0 vs [] = (V.ren.renL (fun _ => none) vs, []) := by
  have h1 : live [] (V.ids.idsL vs) = [] := by
    unfold live; rw [List.filter_eq_nil_iff]; intro a _; simp
  have h2 : reach [] 64 (addIds (List.range 0) (live [] (V.ids.idsL vs))) = [] := by
    rw [h1]; exact reach_fix _ _ (by simp [addIds]) _
  unfold gc
  simp only [h2]
  simp [pack]
@[simp] theorem idsL_d (l : List D) : V.ids.idsL (l.map V.d) = [] := by induction l with | nil => rfl | cons x r ih => simp [V.ids.idsL, ih]
@[simp] theorem renL_d (f : Nat → Option Nat) (l : List D) : V.ren.renL f (l.map V.d) = l.map V.d := by induction l with | nil => rfl | cons x r ih => simp [V.ren.renL, V.ren, ih]
theorem gc_box' (vs : List V) (cells : List V) (h1 : V.ids.idsL cells = []) (h2 : ∀ f, V.ren.renL f cells = cells) : gc 1 vs [some (.box cells)] = (V.ren.renL (fun j => if j = 0 then some 0 else none) vs, [some (.box cells)]) := by
  have e1 : ∀ l, (∀ i ∈ live [some (.box cells)] l, i ∈ [0]) := by
    intro l i hi
    unfold live at hi
    rw [List.mem_filter] at hi
    cases i with
    | zero => simp
    | succ i => simp at hi
  have e2 : addIds (List.range 1) (live [some (.box cells)] (V.ids.idsL vs)) = [0] := addIds_sub _ _ (e1 _)
  have e3 : reach [some (.box cells)] 64 [0] = [0] := reach_fix _ _ (by simp [h1]) _
  unfold gc
  simp only [e2, e3]
  simp [pack, h2]
  congr 1; funext j; simp only [eq_comm]
@[simp] theorem gc_box (vs : List V) (cells : List D) : gc 1 vs [some (.box (cells.map V.d))] = (V.ren.renL (fun j => if j = 0 then some 0 else none) vs, [some (.box (cells.map V.d))]) :=
  gc_box' vs _ (idsL_d _) fun f => renL_d f _
@[simp] theorem gc_box1 (vs : List V) (a : D) : gc 1 vs [some (.box [.d a])] = (V.ren.renL (fun j => if j = 0 then some 0 else none) vs, [some (.box [.d a])]) := gc_box vs [a]
@[simp] theorem gc_box2 (vs : List V) (a b : D) : gc 1 vs [some (.box [.d a, .d b])] = (V.ren.renL (fun j => if j = 0 then some 0 else none) vs, [some (.box [.d a, .d b])]) := gc_box vs [a, b]
@[simp] theorem gc_box3 (vs : List V) (a b c : D) : gc 1 vs [some (.box [.d a, .d b, .d c])] = (V.ren.renL (fun j => if j = 0 then some 0 else none) vs, [some (.box [.d a, .d b, .d c])]) := gc_box vs [a, b, c]
theorem live_mem {σ : Store} {l : List Nat} {i : Nat} (h : i ∈ live σ l) : i ∈ l := by unfold live at h; exact (List.mem_filter.mp h).1
@[simp] theorem gc_dead (vs : List V) (σ : Store) (h : V.ids.idsL vs = []) : gc 0 vs σ = (V.ren.renL (fun _ => none) vs, []) := by
  have h2 : reach σ 64 (addIds (List.range 0) (live σ (V.ids.idsL vs))) = [] := by
    rw [h]; exact reach_fix _ _ (by simp [addIds, live]) _
  unfold gc
  simp only [h2]
  simp [pack]
theorem gc_keep' (vs : List V) (cells : List V) (σ : Store) (hv : ∀ i ∈ V.ids.idsL vs, i = 0) (h1 : V.ids.idsL cells = []) (h2 : ∀ f, V.ren.renL f cells = cells) : gc 1 vs (some (.box cells) :: σ) = (V.ren.renL (fun j => if j = 0 then some 0 else none) vs, [some (.box cells)]) := by
  have e2 : addIds (List.range 1) (live (some (.box cells) :: σ) (V.ids.idsL vs)) = [0] := addIds_sub _ _ fun i hi => by simp [hv i (live_mem hi)]
  have e3 : reach (some (.box cells) :: σ) 64 [0] = [0] := reach_fix _ _ (by simp [h1]) _
  unfold gc
  simp only [e2, e3]
  simp [pack, h2]
  congr 1; funext j; simp only [eq_comm]
@[simp] theorem gc_keep (vs : List V) (cells : List D) (σ : Store) (hv : ∀ i ∈ V.ids.idsL vs, i = 0) : gc 1 vs (some (.box (cells.map V.d)) :: σ) = (V.ren.renL (fun j => if j = 0 then some 0 else none) vs, [some (.box (cells.map V.d))]) :=
  gc_keep' vs _ σ hv (idsL_d _) fun f => renL_d f _
@[simp] theorem nat_lt0 (i : Nat) : ((i : Int) < 0) = False := by simp
@[simp] theorem nat_ge0 (i : Nat) : (0 ≤ (i : Int)) = True := by simp
theorem exB {P : Program} {Γ : Env} {R : FuncId → List Bool} {m : Nat} {c c' : C} (h : c = c') (fr : Fr) : exec P Γ R m c fr = exec P Γ R m c' fr := by rw [h]
/-- Operations that change nothing in the store. -/
def opsP (P : Program) (Γ : Env) (R : FuncId → List Bool) (all : List Y) : List Y → Fr → Option Fr
  | [], s => some s
  | y :: r, s => match wanted s.tmps all y.g with
    | some true => match opV P Γ R s.tmps s.σ s.σ.length y.x with
      | some (v, []) => opsP P Γ R all r ⟨putO s.tmps y.dst v, s.σ⟩
      | _ => none
    | some false => opsP P Γ R all r ⟨putO s.tmps y.dst (.tup []), s.σ⟩
    | none => none
theorem opsP_T (P : Program) (Γ : Env) (R : FuncId → List Bool) (all : List Y) : ∀ (ys : List Y) (s s' : Fr), opsP P Γ R all ys s = some s' → ∃ tr, opsT P Γ R all ys s = some (s', tr) ∧ tr.length = ys.length ∧ ∀ t ∈ tr, t.δ = []
  | [], s, s', h => by
    injection h with h; subst h
    exact ⟨[], rfl, rfl, fun t h => by simp at h⟩
  | y :: r, s, s', h => by
    unfold opsP at h
    unfold opsT
    split at h
    · rename_i hw
      rw [hw]
      split at h
      · rename_i v hv
        obtain ⟨tr, h1, h2, h3⟩ := opsP_T P Γ R all r _ _ h
        simp only [hv, Store.app, List.foldl_nil] at h1 ⊢
        refine ⟨_ :: tr, by rw [h1]; rfl, by simp [h2], fun t ht => ?_⟩
        rcases List.mem_cons.mp ht with rfl | ht
        · rfl
        · exact h3 t ht
      · cases h
    · rename_i hw
      rw [hw]
      obtain ⟨tr, h1, h2, h3⟩ := opsP_T P Γ R all r _ _ h
      refine ⟨_ :: tr, by rw [h1]; rfl, by simp [h2], fun t ht => ?_⟩
      rcases List.mem_cons.mp ht with rfl | ht
      · rfl
      · exact h3 t ht
    · cases h
def anyX (P : Program) (Γ : Env) (R : FuncId → List Bool) (ys : List Y) (free : List (Nat × Nat)) (s : Fr) : Option (Ex × Fr) := match opsT P Γ R ys ys s with
    | some (s', tr) => if clear tr free = true then some (.norm, s') else none
    | none => none
def inside (n : Nat) (free : List (Nat × Nat)) : Bool := free.all fun p => decide (p.1 < n) && decide (p.2 < n)
theorem clear_pure (tr : List Tr) (h : ∀ t ∈ tr, t.δ = []) (free : List (Nat × Nat)) (hf : inside tr.length free = true) : clear tr free = true := by
  unfold clear
  unfold inside at hf
  rw [List.all_eq_true] at hf ⊢
  intro p hp
  have := hf p hp
  simp only [Bool.and_eq_true, decide_eq_true_eq] at this
  rw [List.getElem?_eq_getElem this.1, List.getElem?_eq_getElem this.2]
  simp [h _ (List.getElem_mem this.1), h _ (List.getElem_mem this.2)]
theorem exec_any (P : Program) (Γ : Env) (R : FuncId → List Bool) (m : Nat) (ys : List Y) (free : List (Nat × Nat)) (s : Fr) (hin : inside ys.length free = true) : exec P Γ R m (.any ys free) s = match opsP P Γ R ys ys s with
    | some s' => some (.norm, s')
    | none => anyX P Γ R ys free s := by
  cases h : opsP P Γ R ys ys s with
  | none => simp only [exec, anyX]; rfl
  | some s' =>
    obtain ⟨tr, h1, h2, h3⟩ := opsP_T P Γ R ys ys s s' h
    simp only [exec, h1]
    rw [if_pos (clear_pure tr h3 free (by rw [h2]; exact hin))]

attribute [simp] exec.eq_1 exec.eq_2 exec.eq_4 exec.eq_6 exec.eq_7 exec.eq_8 exec.eq_9
attribute [simp] exec_any inside
@[simp] theorem exec_cond (P : Program) (Γ : Env) (R : FuncId → List Bool) (m : Nat) (c : O) (a b : C) (s : Fr) : exec P Γ R m (.cond c a b) s = match c.ev s.tmps with
    | .d (.bool true) => exec P Γ R m a s
    | .d (.bool false) => exec P Γ R m b s
    | _ => none := by
  rw [exec.eq_5]
  generalize c.ev s.tmps = v
  cases v with
  | d x => cases x with
    | bool t => cases t <;> rfl
    | _ => rfl
  | _ => rfl
attribute [simp] opsP.eq_1 opsP.eq_2
@[simp] theorem inside_nil (n : Nat) : inside n [] = true := rfl
end Go.Vm
namespace Go.Vm
section
variable {α : Type} (a b c d e f g h : α) (r : List α) (v : α)
@[simp] theorem get0 : (a :: r)[0]? = some a := rfl
@[simp] theorem get1 : (a :: b :: r)[1]? = some b := rfl
@[simp] theorem get2 : (a :: b :: c :: r)[2]? = some c := rfl
@[simp] theorem get3 : (a :: b :: c :: d :: r)[3]? = some d := rfl
@[simp] theorem get4 : (a :: b :: c :: d :: e :: r)[4]? = some e := rfl
@[simp] theorem get5 : (a :: b :: c :: d :: e :: f :: r)[5]? = some f := rfl
@[simp] theorem get6 : (a :: b :: c :: d :: e :: f :: g :: r)[6]? = some g := rfl
@[simp] theorem get7 : (a :: b :: c :: d :: e :: f :: g :: h :: r)[7]? = some h := rfl
@[simp] theorem set0 : (a :: r).set 0 v = v :: r := rfl
@[simp] theorem set1 : (a :: b :: r).set 1 v = a :: v :: r := rfl
@[simp] theorem set2 : (a :: b :: c :: r).set 2 v = a :: b :: v :: r := rfl
@[simp] theorem set3 : (a :: b :: c :: d :: r).set 3 v = a :: b :: c :: v :: r := rfl
@[simp] theorem set4 : (a :: b :: c :: d :: e :: r).set 4 v = a :: b :: c :: d :: v :: r := rfl
@[simp] theorem set5 : (a :: b :: c :: d :: e :: f :: r).set 5 v = a :: b :: c :: d :: e :: v :: r := rfl
@[simp] theorem set6 : (a :: b :: c :: d :: e :: f :: g :: r).set 6 v = a :: b :: c :: d :: e :: f :: v :: r := rfl
@[simp] theorem set7 : (a :: b :: c :: d :: e :: f :: g :: h :: r).set 7 v = a :: b :: c :: d :: e :: f :: g :: v :: r := rfl
end
section
variable {α : Type} (a b c d e f g h : α) (r : List α) (n : Nat) (v : α)
@[simp] theorem get8 : (a :: b :: c :: d :: e :: f :: g :: h :: r)[n + 8]? = r[n]? := rfl
@[simp] theorem set8 : (a :: b :: c :: d :: e :: f :: g :: h :: r).set (n + 8) v = a :: b :: c :: d :: e :: f :: g :: h :: r.set n v := rfl
end
end Go.Vm
namespace Go.Vm
def V.plain : V → Bool
  | .d _ => true
  | .agg cells => cells.all fun | .d _ => true | _ => false
  | .clo _ [] [] => true
  | _ => false
theorem plain_ids : ∀ {v : V}, v.plain = true → v.ids = [] ∧ frozenIds v = [] ∧ (∀ σ, freezeV σ v = v) ∧ ∀ f, v.ren f = v
  | .d x, _ => ⟨rfl, rfl, fun _ => rfl, fun _ => rfl⟩
  | .clo _ [] [], _ => ⟨rfl, rfl, fun _ => rfl, fun _ => rfl⟩
  | .agg cells, h => by
    have h : ∀ c ∈ cells, ∃ x, c = .d x := by
      intro c hc
      have := List.all_eq_true.mp h c hc
      cases c with
      | d x => exact ⟨x, rfl⟩
      | _ => simp at this
    obtain ⟨xs, rfl⟩ : ∃ xs : List D, cells = xs.map V.d := by
      rename_i h0
      clear h0
      induction cells with
      | nil => exact ⟨[], rfl⟩
      | cons c r ih =>
        obtain ⟨x, rfl⟩ := h c (by simp)
        obtain ⟨xs, rfl⟩ := ih fun c hc => h c (by simp [hc])
        exact ⟨x :: xs, rfl⟩
    refine ⟨by simp [V.ids], by simp [frozenIds, List.filterMap_eq_nil_iff], fun σ => ?_, fun f => by simp [V.ren]⟩
    simp [freezeV, freezeCell, Function.comp_def]
def callBack (v : V) (σ' : Store) (nxt : Nat) : Option (V × Delta) :=
  some (v.ren (fun j => some (nxt + j)), σ'.zipIdx.map fun (o, j) => (nxt + j, o.map (Obj.ren fun j => some (nxt + j))))
@[simp] theorem callBack_nil (v : V) (nxt : Nat) : callBack v [] nxt = some (v.ren (fun j => some (nxt + j)), []) := rfl
theorem allPlain_spec : ∀ {args : List V}, args.all V.plain = true → V.ids.idsL args = [] ∧ ∀ f, V.ren.renL f args = args
  | [], _ => ⟨rfl, fun _ => rfl⟩
  | v :: r, h => by
    simp only [List.all_cons, Bool.and_eq_true] at h
    obtain ⟨a, _, _, b⟩ := plain_ids h.1
    obtain ⟨c, e⟩ := allPlain_spec h.2
    exact ⟨by simp [V.ids.idsL, a, c], fun f => by simp [V.ren.renL, b, e]⟩
theorem callX_plain (Γ : Env) (refs : List Bool) (f : FuncId) (args : List V) (σ : Store) (nxt : Nat) (h : args.all V.plain = true) :
    callX Γ refs f args σ nxt = (Γ f args []).bind fun p => callBack p.1 p.2 nxt := by
  have hp : ∀ v ∈ args, v.plain = true := List.all_eq_true.mp h
  obtain ⟨hi, hr⟩ := allPlain_spec h
  have h1 : frzArgs refs args = [] := by
    unfold frzArgs
    rw [List.flatMap_eq_nil_iff]
    rintro ⟨v, i⟩ hv
    exact (plain_ids (hp v (List.fst_mem_of_mem_zipIdx (List.mem_filter.mp hv |>.1)))).2.1
  have h2 : passArgs σ refs args = args := by
    unfold passArgs
    have : ∀ p ∈ args.zipIdx, (fun (p : V × Nat) => if refs.getD p.2 false then p.1 else freezeV σ p.1) p = p.1 := by
      rintro ⟨v, i⟩ hv
      simp only [(plain_ids (hp v (List.fst_mem_of_mem_zipIdx hv))).2.2.1, ite_self]
    rw [List.map_congr_left this, List.zipIdx_map_fst]
  have h3 : callIds σ args = [] := by
    unfold callIds
    rw [hi]
    exact reach_fix _ _ (by simp [live, addIds]) _
  unfold callX
  simp only [h1, h2, h3, hr]
  simp only [List.any_nil, Bool.or_self, Bool.false_eq_true, if_false, pack, List.map_nil]
  cases Γ f args [] with
  | none => rfl
  | some p =>
    obtain ⟨v, σ'⟩ := p
    simp only [Option.bind_some, callBack, List.length_nil, Nat.not_lt_zero, if_false, Nat.sub_zero, Option.some.injEq, Prod.mk.injEq, true_and]
    simp [frz]
attribute [simp] callX_plain V.plain
end Go.Vm
namespace Go.Vm.B
theorem S_2 : refsOf T 2 = [] := rfl
theorem S_3 : refsOf T 3 = [] := rfl
theorem S_4 : refsOf T 4 = [] := rfl
theorem S_5 : refsOf T 5 = [] := rfl
theorem S_6 : refsOf T 6 = [] := rfl
theorem S_7 : refsOf T 7 = [false, false] := rfl
theorem S_8 : refsOf T 8 = [] := rfl
theorem S_9 : refsOf T 9 = [] := rfl
theorem S_10 : refsOf T 10 = [] := rfl
theorem S_11 : refsOf T 11 = [true, false] := rfl
theorem S_12 : refsOf T 12 = [] := rfl
theorem S_13 : refsOf T 13 = [] := rfl
theorem S_14 : refsOf T 14 = [] := rfl
theorem S_15 : refsOf T 15 = [] := rfl
theorem S_16 : refsOf T 16 = [] := rfl
theorem S_17 : refsOf T 17 = [] := rfl
theorem S_18 : refsOf T 18 = [] := rfl
theorem S_19 : refsOf T 19 = [true, false] := rfl
theorem S_20 : refsOf T 20 = [] := rfl
theorem S_21 : refsOf T 21 = [true] := rfl
theorem S_22 : refsOf T 22 = [] := rfl
theorem S_23 : refsOf T 23 = [] := rfl
theorem S_24 : refsOf T 24 = [] := rfl
theorem S_25 : refsOf T 25 = [] := rfl
theorem S_26 : refsOf T 26 = [] := rfl
theorem S_27 : refsOf T 27 = [] := rfl
theorem S_28 : refsOf T 28 = [] := rfl
theorem S_29 : refsOf T 29 = [] := rfl
theorem S_30 : refsOf T 30 = [] := rfl
theorem S_31 : refsOf T 31 = [] := rfl
theorem S_32 : refsOf T 32 = [true] := rfl
theorem S_33 : refsOf T 33 = [true, false] := rfl
theorem S_34 : refsOf T 34 = [true] := rfl
theorem S_35 : refsOf T 35 = [true] := rfl
theorem S_36 : refsOf T 36 = [] := rfl
theorem S_37 : refsOf T 37 = [] := rfl
theorem S_38 : refsOf T 38 = [] := rfl
theorem S_39 : refsOf T 39 = [] := rfl
theorem S_40 : refsOf T 40 = [] := rfl
theorem S_41 : refsOf T 41 = [] := rfl
theorem S_42 : refsOf T 42 = [] := rfl
theorem S_43 : refsOf T 43 = [] := rfl
theorem S_44 : refsOf T 44 = [] := rfl
theorem S_45 : refsOf T 45 = [] := rfl
theorem S_46 : refsOf T 46 = [] := rfl
theorem S_47 : refsOf T 47 = [] := rfl
theorem S_48 : refsOf T 48 = [] := rfl
theorem S_49 : refsOf T 49 = [] := rfl
theorem S_50 : refsOf T 50 = [] := rfl
theorem S_51 : refsOf T 51 = [] := rfl
theorem S_52 : refsOf T 52 = [] := rfl
theorem S_53 : refsOf T 53 = [] := rfl
theorem S_54 : refsOf T 54 = [] := rfl
theorem S_55 : refsOf T 55 = [] := rfl
theorem S_56 : refsOf T 56 = [] := rfl
theorem S_57 : refsOf T 57 = [] := rfl
theorem S_58 : refsOf T 58 = [] := rfl
theorem S_59 : refsOf T 59 = [] := rfl
theorem S_60 : refsOf T 60 = [] := rfl
theorem S_61 : refsOf T 61 = [] := rfl
theorem S_62 : refsOf T 62 = [] := rfl
theorem S_63 : refsOf T 63 = [true, false, false, false] := rfl
theorem S_64 : refsOf T 64 = [] := rfl
theorem S_65 : refsOf T 65 = [] := rfl
theorem S_66 : refsOf T 66 = [] := rfl
theorem S_67 : refsOf T 67 = [true] := rfl
theorem S_68 : refsOf T 68 = [false] := rfl
theorem S_69 : refsOf T 69 = [] := rfl
theorem S_70 : refsOf T 70 = [] := rfl
theorem S_71 : refsOf T 71 = [] := rfl
theorem S_72 : refsOf T 72 = [] := rfl
theorem S_73 : refsOf T 73 = [] := rfl
theorem S_74 : refsOf T 74 = [] := rfl
theorem S_75 : refsOf T 75 = [] := rfl
theorem S_76 : refsOf T 76 = [] := rfl
theorem S_77 : refsOf T 77 = [] := rfl
theorem S_78 : refsOf T 78 = [] := rfl
theorem S_79 : refsOf T 79 = [] := rfl
theorem S_80 : refsOf T 80 = [] := rfl
theorem S_81 : refsOf T 81 = [] := rfl
theorem S_82 : refsOf T 82 = [] := rfl
theorem S_83 : refsOf T 83 = [] := rfl
theorem S_84 : refsOf T 84 = [] := rfl
theorem S_85 : refsOf T 85 = [] := rfl
theorem S_86 : refsOf T 86 = [true, false, false] := rfl
theorem S_87 : refsOf T 87 = [true, false, false] := rfl
theorem S_88 : refsOf T 88 = [true, false, false] := rfl
theorem S_89 : refsOf T 89 = [true, false, false] := rfl
theorem S_90 : refsOf T 90 = [true, false, false] := rfl
theorem S_91 : refsOf T 91 = [true, false, false] := rfl
theorem S_92 : refsOf T 92 = [] := rfl
theorem S_93 : refsOf T 93 = [true, false, false, false] := rfl
theorem S_94 : refsOf T 94 = [true, false, false, false] := rfl
theorem S_95 : refsOf T 95 = [] := rfl
theorem S_96 : refsOf T 96 = [] := rfl
theorem S_97 : refsOf T 97 = [] := rfl
theorem S_98 : refsOf T 98 = [] := rfl
theorem S_99 : refsOf T 99 = [true] := rfl
theorem S_100 : refsOf T 100 = [true, false] := rfl
theorem S_101 : refsOf T 101 = [] := rfl
theorem S_102 : refsOf T 102 = [] := rfl
theorem S_103 : refsOf T 103 = [] := rfl
theorem S_104 : refsOf T 104 = [true, false] := rfl
theorem S_105 : refsOf T 105 = [] := rfl
theorem S_106 : refsOf T 106 = [] := rfl
theorem S_107 : refsOf T 107 = [] := rfl
theorem S_108 : refsOf T 108 = [] := rfl
theorem S_109 : refsOf T 109 = [] := rfl
theorem S_110 : refsOf T 110 = [] := rfl
theorem S_111 : refsOf T 111 = [] := rfl
theorem S_112 : refsOf T 112 = [] := rfl
theorem S_113 : refsOf T 113 = [] := rfl
theorem S_114 : refsOf T 114 = [true, false, false, false] := rfl
theorem S_115 : refsOf T 115 = [] := rfl
theorem S_116 : refsOf T 116 = [] := rfl
theorem S_117 : refsOf T 117 = [] := rfl
theorem S_118 : refsOf T 118 = [] := rfl
theorem S_119 : refsOf T 119 = [] := rfl
theorem S_120 : refsOf T 120 = [] := rfl
theorem S_121 : refsOf T 121 = [] := rfl
theorem S_122 : refsOf T 122 = [] := rfl
theorem S_123 : refsOf T 123 = [true, false, false] := rfl
theorem S_124 : refsOf T 124 = [] := rfl
theorem S_125 : refsOf T 125 = [] := rfl
theorem S_126 : refsOf T 126 = [] := rfl
theorem S_127 : refsOf T 127 = [] := rfl
theorem S_128 : refsOf T 128 = [] := rfl
theorem S_129 : refsOf T 129 = [] := rfl
theorem S_130 : refsOf T 130 = [] := rfl
theorem S_131 : refsOf T 131 = [] := rfl
theorem S_132 : refsOf T 132 = [] := rfl
theorem S_133 : refsOf T 133 = [] := rfl
theorem S_134 : refsOf T 134 = [] := rfl
theorem S_135 : refsOf T 135 = [true, false, false, false] := rfl
theorem S_136 : refsOf T 136 = [true, false, false, false, false] := rfl
theorem S_138 : refsOf T 138 = [] := rfl
theorem S_139 : refsOf T 139 = [true, false, false, false, false] := rfl
theorem S_140 : refsOf T 140 = [] := rfl
theorem S_141 : refsOf T 141 = [] := rfl
theorem S_144 : refsOf T 144 = [true, false, false, false, false] := rfl
end Go.Vm.B
namespace Go.Vm.B
/-! Values and rows. -/
structure Val where
  k : Int
  n : Int
  s : ByteArray
def Val.c (v : Val) : List D := [.int .i64 v.k, .int .i64 v.n, .str v.s]
def Val.v (v : Val) : V := .agg [.d (.int .i64 v.k), .d (.int .i64 v.n), .d (.str v.s)]
abbrev nilS : ByteArray := ⟨#[]⟩
def Val.right (v : Val) : Bool := if v.k = 1 then decide (v.s = nilS) else if v.k = 2 then decide (v.n = 0) && decide ((v.s.size : Int) ≤ 40) else false
abbrev Row := List Val
def Row.c (r : Row) : List (List D) := r.map Val.c
def Row.right (r : Row) : Bool := decide (0 < r.length) && decide (r.length ≤ 6) && r.all Val.right
theorem valRight_run (P : Program) (E : Env) (d : Nat) (v : Val) : run P E T (d + 1) 84 [v.v] [] = some (.d (.bool v.right), []) := by
  rw [run_succ _ _ _ _ _ _ _ _ T_84]
  by_cases h1 : v.k = 1
  · simp -implicitDefEqProofs [v84, Val.v, Val.right, h1]
  · by_cases h2 : v.k = 2
    · by_cases h3 : v.n = 0
      · simp -implicitDefEqProofs [v84, Val.v, Val.right, h1, h2, h3]
      · simp -implicitDefEqProofs [v84, Val.v, Val.right, h1, h2, h3]
    · simp -implicitDefEqProofs [v84, Val.v, Val.right, h1, h2]

theorem refRight_run (P : Program) (E : Env) (d : Nat) (v : Val) : run P E T (d + 1) 48 [v.v] [] = some (.d (.bool v.right), []) := by
  rw [run_succ _ _ _ _ _ _ _ _ T_48]
  by_cases h1 : v.k = 1
  · by_cases h3 : v.s = nilS
    · simp -implicitDefEqProofs [v48, Val.v, Val.right, h1, h3]
    · simp -implicitDefEqProofs [v48, Val.v, Val.right, h1, h3]
  · by_cases h2 : v.k = 2
    · by_cases h3 : v.n = 0
      · simp -implicitDefEqProofs [v48, Val.v, Val.right, h1, h2, h3]
      · simp -implicitDefEqProofs [v48, Val.v, Val.right, h1, h2, h3]
    · simp -implicitDefEqProofs [v48, Val.v, Val.right, h1, h2]

theorem r121_run (P : Program) (E : Env) (d : Nat) (v : Val) : run P E T (d + 2) 121 [v.v] [] = some (.d (.bool !v.right), []) := by
  rw [run_succ _ _ _ _ _ _ _ _ T_121]
  have h := valRight_run P E d v
  simp only [Val.v] at h ⊢
  simp -implicitDefEqProofs [v121, S_84, h]
end Go.Vm.B
namespace Go.Vm.B
/-! slices.IndexFunc -/
def ixB (s : Nat) : C := (.seq (.reg [⟨some 9, none, .bin .lss 3 (.t 8) (.t 7)⟩]) (.seq (.cond (.t 9) .skip (.exit 0)) (.seq (.blk 1 (.seq (.reg [⟨some 10, none, .mv (.t 8)⟩, ⟨some 5, none, .mv (.t 10)⟩]) (.seq (.reg [⟨some 11, none, .mv (.t 1)⟩, ⟨some 12, none, .mv (.t 0)⟩, ⟨some 13, none, .mv (.t 5)⟩, ⟨some 14, none, .ixs s (.t 12) (.t 13)⟩, ⟨some 15, none, .ld true s (.t 14)⟩, ⟨some 16, none, .callv (.t 11) [(.t 15)]⟩]) (.cond (.t 16) (.seq (.reg [⟨some 17, none, .mv (.t 5)⟩, ⟨some 4, none, .mv (.t 17)⟩]) .ret) .skip)))) (.reg [⟨some 18, none, .bin .add 3 (.t 8) (.k (.d (.int .i64 1)))⟩, ⟨some 8, none, .mv (.t 18)⟩]))))
def ixF (s : Nat) : F := ⟨19, 2, [], [], [.inl 4],
  (.seq (.reg [⟨some 4, none, .mv (.k (.d (.int .i64 0)))⟩]) (.seq (.seq (.reg [⟨some 6, none, .mv (.t 0)⟩, ⟨some 7, none, .len (.t 6)⟩, ⟨some 8, none, .mv (.k (.d (.int .i64 0)))⟩]) (.blk 0 (.loop 387 16 (ixB s)))) (.seq (.reg [⟨some 4, none, .mv (.k (.d (.int .i64 (-1))))⟩]) .ret)))⟩
theorem ix65 : v65 = ixF 3 := rfl
theorem ix83 : v83 = ixF 2 := rfl
theorem ix111 : v111 = ixF 2 := rfl
theorem ix130 : v130 = ixF 2 := rfl
theorem ix133 : v133 = ixF 3 := rfl

/-- The place of the first that is told, from a place on. -/
def ixFrom (p : List D → Bool) : List (List D) → Nat → Int
  | [], _ => -1
  | x :: r, i => if p x then (i : Int) else ixFrom p r (i + 1)

def ixFr (a c : V) (n i : Nat) (σ : Store) : Fr := ⟨[a, c, .bot, .bot, .bot, .bot, .bot, .d (.int .i64 n), .d (.int .i64 i), .bot, .bot, .bot, .bot, .bot, .bot, .bot, .bot, .bot, .bot], σ⟩
def ixEnd (v : V) (σ : Store) : Fr := ⟨[.bot, .bot, .bot, .bot, v, .bot, .bot, .bot, .bot, .bot, .bot, .bot, .bot, .bot, .bot, .bot, .bot, .bot, .bot], σ⟩

theorem ix_roundsA (P : Program) (Γ : Env) (R : FuncId → List Bool) (s : Nat) (g : FuncId) (p : List D → Bool) (xs : List (List D)) (hs : ∀ x ∈ xs, x.length = s) (hl : xs.length < 9223372036854775807)
    (hg : ∀ x ∈ xs, callX Γ (R g) g [.agg (x.map V.d)] [] 0 = some (.d (.bool (p x)), [])) (h2 : s ≠ 1 := by decide) :
    ∀ (m i f : Nat), m = xs.length - i → i ≤ xs.length → m < f →
    rounds (exec P Γ R 0 (ixB s)) (forget 0 387) (forget 0 16) f (ixFr (.d (.lst xs)) (.clo g [] []) xs.length i []) =
      (if ixFrom p (xs.drop i) i = -1 then some (.exit 0, ixEnd (.bot) []) else some (.ret, ixEnd (.d (.int .i64 (ixFrom p (xs.drop i) i))) [])) := by
  intro m
  induction m with
  | zero =>
    intro i f hm hi hf
    obtain ⟨f, rfl⟩ : ∃ f', f = f' + 1 := ⟨f - 1, by omega⟩
    have : i = xs.length := by omega
    subst this
    rw [rounds]
    simp -implicitDefEqProofs [exB (ixB.eq_1 s), ixFr, ixEnd, ixFrom]
  | succ m ih =>
    intro i f hm hi hf
    obtain ⟨f, rfl⟩ : ∃ f', f = f' + 1 := ⟨f - 1, by omega⟩
    have hlt : i < xs.length := by omega
    rw [rounds]
    have hx : xs[i]? = some xs[i] := List.getElem?_eq_getElem hlt
    have hsx := hs _ (List.getElem_mem hlt)
    have hgx := hg _ (List.getElem_mem hlt)
    rw [List.drop_eq_getElem_cons hlt]
    have htk : List.take s xs[i] = xs[i] := List.take_of_length_le (by omega)
    cases hp : p xs[i] with
    | true =>
      rw [hp] at hgx
      simp -implicitDefEqProofs [-callX_plain, exB (ixB.eq_1 s), ixFr, ixEnd, ixFrom, hp, hlt, hx, hsx, htk, hgx]
    | false =>
      rw [hp] at hgx
      have := ih (i + 1) f (by omega) (by omega) (by omega)
      have hw : IntKind.i64.wrap ((i : Int) + 1) = ((i + 1 : Nat) : Int) := by rw [wrap_small (by omega) (by omega)]; simp
      simp only [ixFr] at this ⊢
      simp -implicitDefEqProofs [-callX_plain, exB (ixB.eq_1 s), ixFrom, hp, hlt, hx, hsx, htk, hgx, hw]
      exact this
theorem ix_roundsB (P : Program) (Γ : Env) (R : FuncId → List Bool) (s : Nat) (g : FuncId) (p : List D → Bool) (xs : List (List D)) (cells : List D) (hs : ∀ x ∈ xs, x.length = s) (hl : xs.length < 9223372036854775807)
    (hg : ∀ x ∈ xs, callX Γ (R g) g [.agg (x.map V.d), .ptr 0 0 0] [some (.box (cells.map V.d))] 1 = some (.d (.bool (p x)), [(0, some (.box (cells.map V.d)))])) (h2 : s ≠ 1 := by decide) :
    ∀ (m i f : Nat), m = xs.length - i → i ≤ xs.length → m < f →
    rounds (exec P Γ R 1 (ixB s)) (forget 1 387) (forget 1 16) f (ixFr (.d (.lst xs)) (.clo g [] [.ptr 0 0 0]) xs.length i [some (.box (cells.map V.d))]) =
      (if ixFrom p (xs.drop i) i = -1 then some (.exit 0, ixEnd (.bot) [some (.box (cells.map V.d))]) else some (.ret, ixEnd (.d (.int .i64 (ixFrom p (xs.drop i) i))) [some (.box (cells.map V.d))])) := by
  intro m
  induction m with
  | zero =>
    intro i f hm hi hf
    obtain ⟨f, rfl⟩ : ∃ f', f = f' + 1 := ⟨f - 1, by omega⟩
    have : i = xs.length := by omega
    subst this
    rw [rounds]
    simp -implicitDefEqProofs [exB (ixB.eq_1 s), ixFr, ixEnd, ixFrom]
  | succ m ih =>
    intro i f hm hi hf
    obtain ⟨f, rfl⟩ : ∃ f', f = f' + 1 := ⟨f - 1, by omega⟩
    have hlt : i < xs.length := by omega
    rw [rounds]
    have hx : xs[i]? = some xs[i] := List.getElem?_eq_getElem hlt
    have hsx := hs _ (List.getElem_mem hlt)
    have hgx := hg _ (List.getElem_mem hlt)
    rw [List.drop_eq_getElem_cons hlt]
    have htk : List.take s xs[i] = xs[i] := List.take_of_length_le (by omega)
    cases hp : p xs[i] with
    | true =>
      rw [hp] at hgx
      simp -implicitDefEqProofs [-callX_plain, exB (ixB.eq_1 s), ixFr, ixEnd, ixFrom, hp, hlt, hx, hsx, htk, hgx]
    | false =>
      rw [hp] at hgx
      have := ih (i + 1) f (by omega) (by omega) (by omega)
      have hw : IntKind.i64.wrap ((i : Int) + 1) = ((i + 1 : Nat) : Int) := by rw [wrap_small (by omega) (by omega)]; simp
      simp only [ixFr] at this ⊢
      simp -implicitDefEqProofs [-callX_plain, exB (ixB.eq_1 s), ixFrom, hp, hlt, hx, hsx, htk, hgx, hw]
      exact this

theorem ixA_run (P : Program) (E : Env) (d : Nat) {N : FuncId} {s : Nat} (hN : T N = some (ixF s)) (g : FuncId) (p : List D → Bool) (xs : List (List D)) (hs : ∀ x ∈ xs, x.length = s) (hl : xs.length < 4611686018427387904)
    (hg : ∀ x ∈ xs, callX (run P E T d) (refsOf T g) g [.agg (x.map V.d)] [] 0 = some (.d (.bool (p x)), [])) (h2 : s ≠ 1) :
    run P E T (d + 1) N [.d (.lst xs), .clo g [] []] [] = some (.d (.int .i64 (ixFrom p xs 0)), []) := by
  rw [run_succ _ _ _ _ _ _ _ _ hN]
  have h := ix_roundsA P (run P E T d) (refsOf T) s g p xs hs (by omega) hg h2 _ 0 LOOPS rfl (by omega) (by unfold LOOPS; omega)
  simp only [ixFr, List.drop_zero] at h
  have h0 : ((0 : Nat) : Int) = 0 := rfl
  rw [h0] at h
  by_cases hp : ixFrom p xs 0 = -1
  · rw [if_pos hp] at h
    simp -implicitDefEqProofs [ixF, h, ixEnd, hp]
  · rw [if_neg hp] at h
    simp -implicitDefEqProofs [ixF, h, ixEnd, hp]
theorem ixB_run (P : Program) (E : Env) (d : Nat) {N : FuncId} {s : Nat} (hN : T N = some (ixF s)) (g : FuncId) (p : List D → Bool) (xs : List (List D)) (cells : List D) (hs : ∀ x ∈ xs, x.length = s) (hl : xs.length < 4611686018427387904)
    (hg : ∀ x ∈ xs, callX (run P E T d) (refsOf T g) g [.agg (x.map V.d), .ptr 0 0 0] [some (.box (cells.map V.d))] 1 = some (.d (.bool (p x)), [(0, some (.box (cells.map V.d)))])) (h2 : s ≠ 1) :
    run P E T (d + 1) N [.d (.lst xs), .clo g [] [.ptr 0 0 0]] [some (.box (cells.map V.d))] = some (.d (.int .i64 (ixFrom p xs 0)), [some (.box (cells.map V.d))]) := by
  rw [run_succ _ _ _ _ _ _ _ _ hN]
  have h := ix_roundsB P (run P E T d) (refsOf T) s g p xs cells hs (by omega) hg h2 _ 0 LOOPS rfl (by omega) (by unfold LOOPS; omega)
  simp only [ixFr, List.drop_zero] at h
  have h0 : ((0 : Nat) : Int) = 0 := rfl
  rw [h0] at h
  by_cases hp : ixFrom p xs 0 = -1
  · rw [if_pos hp] at h
    simp -implicitDefEqProofs [ixF, h, ixEnd, hp]
  · rw [if_neg hp] at h
    simp -implicitDefEqProofs [ixF, h, ixEnd, hp]
end Go.Vm.B
namespace Go.Vm.B
/-! Rows: right, less, compare -/
theorem c_len (v : Val) : v.c.length = 3 := rfl
theorem c_map (v : Val) : v.c.map V.d = [.d (.int .i64 v.k), .d (.int .i64 v.n), .d (.str v.s)] := rfl
theorem Row.c_len (r : Row) : r.c.length = r.length := by simp [Row.c]
theorem Row.c_get {r : Row} {i : Nat} (h : i < r.length) : r.c[i]? = some (r[i]).c := by simp [Row.c, h]
@[simp] theorem Row.c_getElem (r : Row) (i : Nat) (h : i < r.c.length) : r.c[i] = (r[i]'(by rwa [Row.c_len] at h)).c := by simp [Row.c]
theorem row_len3 (r : Row) : ∀ x ∈ r.c, x.length = 3 := by
  intro x hx
  simp only [Row.c, List.mem_map] at hx
  obtain ⟨v, _, rfl⟩ := hx; rfl
def dval : List D → Val
  | [.int _ k, .int _ n, .str s] => ⟨k, n, s⟩
  | _ => ⟨0, 0, nilS⟩
theorem dval_c (v : Val) : dval v.c = v := rfl
theorem ixFrom_any {α : Type} (c : α → List D) (q : List D → Bool) (p : α → Bool) (h : ∀ x, q (c x) = p x) : ∀ (r : List α) (i : Nat), decide (0 ≤ ixFrom q (r.map c) i) = r.any p
  | [], i => by simp [ixFrom]
  | v :: r, i => by
    have := ixFrom_any c q p h r (i + 1)
    rw [List.map_cons, ixFrom, List.any_cons]
    by_cases hp : p v = true
    · rw [if_pos (by rw [h]; exact hp)]; simp [hp]
    · rw [if_neg (by rw [h]; exact hp), this]; simp [hp]

theorem rowRight_run (P : Program) (E : Env) (d : Nat) (r : Row) (hl : r.length < 4611686018427387904) : run P E T (d + 5) 97 [.d (.lst r.c)] [] = some (.d (.bool r.right), []) := by
  have h121 : ∀ x ∈ r.c, callX (run P E T (d + 2)) (refsOf T 121) 121 [.agg (x.map V.d)] [] 0 = some (.d (.bool !(dval x).right), []) := by
    intro x hx
    simp only [Row.c, List.mem_map] at hx
    obtain ⟨v, _, rfl⟩ := hx
    have := r121_run P E d v
    simp only [Val.v] at this
    simp -implicitDefEqProofs [Val.c, S_121, this, dval]
  have h133 := ixA_run P E (d + 2) (N := 133) (s := 3) (by rw [T_133, ix133]) 121 (fun x => !(dval x).right) r.c (row_len3 r) (by rw [Row.c_len]; exact hl) h121 (by decide)
  have hany := ixFrom_any Val.c (fun x => !(dval x).right) (fun v => !v.right) (fun v => by rw [dval_c]) r 0
  rw [show r.map Val.c = r.c from rfl] at hany
  have h120 : run P E T (d + 4) 120 [.d (.lst r.c), .clo 121 [] []] [] = some (.d (.bool (r.any fun v => !v.right)), []) := by
    rw [run_succ _ _ _ _ _ _ _ _ T_120]
    simp -implicitDefEqProofs [v120, S_133, h133, hany]
  rw [run_succ _ _ _ _ _ _ _ _ T_97]
  have hall : (r.any fun v => !v.right) = !r.all Val.right := by rw [List.all_eq_not_any_not]; simp
  rw [hall] at h120
  by_cases h1 : 0 < r.length
  · by_cases h2 : r.length ≤ 6
    · have h2' : ((r.length : Int) ≤ 6) := by omega
      simp -implicitDefEqProofs [v97, S_120, h120, Row.right, h1, h2, h2', Row.c_len]
    · have h2' : ¬ ((r.length : Int) ≤ 6) := by omega
      simp -implicitDefEqProofs [v97, S_120, h120, Row.right, h1, h2, h2', Row.c_len]
  · simp -implicitDefEqProofs [v97, S_120, h120, Row.right, h1, Row.c_len]

def rr5 (a : V) (i : Nat) : Fr := ⟨[a, .bot, .bot, .d (.int .i64 i), .bot, .bot, .bot, .bot, .bot, .bot, .bot, .bot, .bot, .bot, .bot, .bot, .bot, .bot, .bot, .bot, .bot, .bot, .bot, .bot], []⟩
def rr5e (a b : V) : Fr := ⟨[a, .bot, b, .bot, .bot, .bot, .bot, .bot, .bot, .bot, .bot, .bot, .bot, .bot, .bot, .bot, .bot, .bot, .bot, .bot, .bot, .bot, .bot, .bot], []⟩
theorem refRow_rounds (P : Program) (E : Env) (d : Nat) (r : Row) (hl : r.length < 4611686018427387904) : ∀ (m i f : Nat), m = r.length - i → i ≤ r.length → m < f →
    rounds (exec P (run P E T (d + 1)) (refsOf T) 0 v26_0) (forget 0 9) (forget 0 5) f (rr5 (.d (.lst r.c)) i) =
      (if (r.drop i).all Val.right then some (.exit 0, rr5e (.d (.lst r.c)) .bot) else some (.ret, rr5e (.d (.lst r.c)) (.d (.bool false)))) := by
  intro m
  induction m with
  | zero =>
    intro i f hm hi hf
    obtain ⟨f, rfl⟩ : ∃ f', f = f' + 1 := ⟨f - 1, by omega⟩
    have : i = r.length := by omega
    subst this
    rw [rounds]
    simp -implicitDefEqProofs [exB v26_0.eq_1, rr5, rr5e, Row.c_len]
  | succ m ih =>
    intro i f hm hi hf
    obtain ⟨f, rfl⟩ : ∃ f', f = f' + 1 := ⟨f - 1, by omega⟩
    have hlt : i < r.length := by omega
    rw [rounds]
    have hx := Row.c_get hlt
    have hgx := refRight_run P E d r[i]
    simp only [Val.v] at hgx
    rw [List.drop_eq_getElem_cons hlt]
    cases hp : (r[i]).right with
    | false =>
      rw [hp] at hgx
      rw [if_neg (by simp only [List.all_cons, hp, Bool.false_and]; exact Bool.false_ne_true)]
      simp -implicitDefEqProofs [exB v26_0.eq_1, rr5, rr5e, Row.c_len, hp, hlt, hx, Val.c, hgx, S_48]
    | true =>
      rw [hp] at hgx
      have hw : IntKind.i64.wrap ((i : Int) + 1) = (i : Int) + 1 := wrap_small (by omega) (by omega)
      have ha : ((r[i] :: r.drop (i + 1)).all Val.right) = (r.drop (i + 1)).all Val.right := by simp only [List.all_cons, hp, Bool.true_and]
      rw [ha, ← ih (i + 1) f (by omega) (by omega) (by omega)]
      simp -implicitDefEqProofs [exB v26_0.eq_1, rr5, Row.c_len, hp, hlt, hx, Val.c, hgx, S_48, hw]
theorem refRow_run (P : Program) (E : Env) (d : Nat) (r : Row) (hl : r.length < 4611686018427387904) : run P E T (d + 2) 26 [.d (.lst r.c)] [] = some (.d (.bool r.right), []) := by
  rw [run_succ _ _ _ _ _ _ _ _ T_26]
  have h := refRow_rounds P E d r hl _ 0 LOOPS rfl (by omega) (by unfold LOOPS; omega)
  have h0 : ((0 : Nat) : Int) = 0 := rfl
  simp only [rr5, List.drop_zero] at h
  rw [h0] at h
  by_cases hall : r.all Val.right = true
  · rw [if_pos hall] at h
    by_cases h1 : 0 < r.length
    · have h1' : (1 : Int) ≤ r.length := by omega
      by_cases h2 : r.length ≤ 6
      · have h2' : ((r.length : Int) ≤ 6) := by omega
        simp -implicitDefEqProofs [v26, h, rr5e, Row.c_len, Row.right, hall, h1, h2, h1', h2']
      · have h2' : ¬ ((r.length : Int) ≤ 6) := by omega
        simp -implicitDefEqProofs [v26, h, rr5e, Row.c_len, Row.right, hall, h1, h2, h1', h2']
    · have h1' : ¬ (1 : Int) ≤ r.length := by omega
      simp -implicitDefEqProofs [v26, h, rr5e, Row.c_len, Row.right, hall, h1, h1']
  · rw [if_neg hall] at h
    simp -implicitDefEqProofs [v26, h, rr5e, Row.c_len, Row.right, hall]
end Go.Vm.B
namespace Go.Vm.B
def Val.less (a b : Val) : Bool := a.right && b.right && (if a.k = b.k then (if a.k = 1 then decide (a.n < b.n) else Op.bytesLess a.s.toList b.s.toList) else decide (a.k = 1))
def Val.cmp (a b : Val) : Int := if a.less b then -1 else if b.less a then 1 else 0
def Row.cmp : Row → Row → Int
  | [], [] => 0
  | [], _ :: _ => -1
  | _ :: _, [] => 1
  | a :: r, b :: t => if a.cmp b = 0 then Row.cmp r t else a.cmp b
def Row.lt : Row → Row → Bool
  | _, [] => false
  | [], _ :: _ => true
  | a :: r, b :: t => if a.less b then true else if b.less a then false else Row.lt r t
theorem valLess_run (P : Program) (E : Env) (d : Nat) (a b : Val) : run P E T (d + 2) 126 [a.v, b.v] [] = some (.d (.bool (a.less b)), []) := by
  rw [run_succ _ _ _ _ _ _ _ _ T_126]
  have ha := valRight_run P E d a
  have hb := valRight_run P E d b
  simp only [Val.v] at ha hb
  cases h1 : a.right with
  | false => rw [h1] at ha; simp -implicitDefEqProofs [v126, S_84, Val.v, ha, Val.less, h1]
  | true =>
    rw [h1] at ha
    cases h2 : b.right with
    | false => rw [h2] at hb; simp -implicitDefEqProofs [v126, S_84, Val.v, ha, hb, Val.less, h1, h2]
    | true =>
      rw [h2] at hb
      by_cases h3 : a.k = b.k
      · rw [h3] at ha
        by_cases h4 : b.k = 1
        · rw [h4] at ha hb; simp -implicitDefEqProofs [v126, S_84, Val.v, ha, hb, Val.less, h1, h2, h3, h4]
        · simp -implicitDefEqProofs [v126, S_84, Val.v, ha, hb, Val.less, h1, h2, h3, h4]
      · simp -implicitDefEqProofs [v126, S_84, Val.v, ha, hb, Val.less, h1, h2, h3]
theorem refLess_run (P : Program) (E : Env) (d : Nat) (a b : Val) : run P E T (d + 2) 49 [a.v, b.v] [] = some (.d (.bool (a.less b)), []) := by
  rw [run_succ _ _ _ _ _ _ _ _ T_49]
  have ha := refRight_run P E d a
  have hb := refRight_run P E d b
  simp only [Val.v] at ha hb
  cases h1 : a.right with
  | false => rw [h1] at ha; simp -implicitDefEqProofs [v49, S_48, Val.v, ha, Val.less, h1]
  | true =>
    rw [h1] at ha
    cases h2 : b.right with
    | false => rw [h2] at hb; simp -implicitDefEqProofs [v49, S_48, Val.v, ha, hb, Val.less, h1, h2]
    | true =>
      rw [h2] at hb
      by_cases h3 : a.k = b.k
      · rw [h3] at ha
        by_cases h4 : b.k = 1
        · rw [h4] at ha hb; simp -implicitDefEqProofs [v49, S_48, Val.v, ha, hb, Val.less, h1, h2, h3, h4]
        · simp -implicitDefEqProofs [v49, S_48, Val.v, ha, hb, Val.less, h1, h2, h3, h4]
      · simp -implicitDefEqProofs [v49, S_48, Val.v, ha, hb, Val.less, h1, h2, h3]
theorem cmp_run (P : Program) (E : Env) (d : Nat) (a b : Val) : run P E T (d + 3) 125 [a.v, b.v] [] = some (.d (.int .i64 (a.cmp b)), []) := by
  rw [run_succ _ _ _ _ _ _ _ _ T_125]
  have ha := valLess_run P E d a b
  have hb := valLess_run P E d b a
  simp only [Val.v] at ha hb
  cases h1 : a.less b with
  | true => rw [h1] at ha; simp -implicitDefEqProofs [v125, S_126, Val.v, ha, Val.cmp, h1]
  | false =>
    rw [h1] at ha
    cases h2 : b.less a with
    | true => rw [h2] at hb; simp -implicitDefEqProofs [v125, S_126, Val.v, ha, hb, Val.cmp, h1, h2]
    | false => rw [h2] at hb; simp -implicitDefEqProofs [v125, S_126, Val.v, ha, hb, Val.cmp, h1, h2]
end Go.Vm.B
namespace Go.Vm.B
def Row.cmpL : Row → Row → Option Int
  | [], _ => none
  | _ :: _, [] => some 1
  | a :: r, b :: t => if a.cmp b = 0 then Row.cmpL r t else some (a.cmp b)
theorem Row.cmp_eq : ∀ (a b : Row), Row.cmp a b = match Row.cmpL a b with | some n => n | none => if a.length < b.length then -1 else 0
  | [], [] => rfl
  | [], _ :: _ => by simp [Row.cmp, Row.cmpL]
  | _ :: _, [] => rfl
  | a :: r, b :: t => by
    rw [Row.cmp, Row.cmpL]
    by_cases h : a.cmp b = 0
    · rw [if_pos h, if_pos h, Row.cmp_eq r t]; simp
    · rw [if_neg h, if_neg h]
def fr124 (a b : V) (n i : Nat) : Fr := ⟨[a, b, .clo 125 [] [], .bot, .bot, .bot, .bot, .bot, .bot, .bot, .bot, a, .d (.int .i64 n), .d (.int .i64 i), .bot, .bot, .bot, .bot, .bot, .bot, .bot, .bot, .bot, .bot, .bot, .bot, .bot, .bot, .bot, .bot, .bot, .bot, .bot, .bot, .bot, .bot, .bot, .bot, .bot], []⟩
def fe124 (a b c : V) : Fr := ⟨[a, b, .bot, .bot, .bot, .bot, c, .bot, .bot, .bot, .bot, .bot, .bot, .bot, .bot, .bot, .bot, .bot, .bot, .bot, .bot, .bot, .bot, .bot, .bot, .bot, .bot, .bot, .bot, .bot, .bot, .bot, .bot, .bot, .bot, .bot, .bot, .bot, .bot], []⟩
theorem rounds124 (P : Program) (E : Env) (d : Nat) (a b : Row) (ha : a.length < 4611686018427387904) (hb : b.length < 4611686018427387904) : ∀ (m i f : Nat), m = a.length - i → i ≤ a.length → m < f →
    rounds (exec P (run P E T (d + 3)) (refsOf T) 0 v124_0) (forget 0 14343) (forget 0 67) f (fr124 (.d (.lst a.c)) (.d (.lst b.c)) a.length i) =
      match Row.cmpL (a.drop i) (b.drop i) with | none => some (.exit 0, fe124 (.d (.lst a.c)) (.d (.lst b.c)) .bot) | some n => some (.ret, fe124 (.d (.lst a.c)) (.d (.lst b.c)) (.d (.int .i64 n))) := by
  intro m
  induction m with
  | zero =>
    intro i f hm hi hf
    obtain ⟨f, rfl⟩ : ∃ f', f = f' + 1 := ⟨f - 1, by omega⟩
    have : i = a.length := by omega
    subst this
    rw [rounds, List.drop_length, Row.cmpL]
    simp -implicitDefEqProofs [exB v124_0.eq_1, fr124, fe124, Row.c_len]
  | succ m ih =>
    intro i f hm hi hf
    obtain ⟨f, rfl⟩ : ∃ f', f = f' + 1 := ⟨f - 1, by omega⟩
    have hlt : i < a.length := by omega
    rw [rounds]
    have hx := Row.c_get hlt
    rw [List.drop_eq_getElem_cons hlt]
    by_cases hb2 : i < b.length
    · have hy := Row.c_get hb2
      have hc := cmp_run P E d a[i] b[i]
      simp only [Val.v] at hc
      have hnb : ¬ ((b.length : Int) ≤ i) := by omega
      rw [List.drop_eq_getElem_cons hb2, Row.cmpL]
      by_cases h0 : (a[i]).cmp b[i] = 0
      · have hw : IntKind.i64.wrap ((i : Int) + 1) = (i : Int) + 1 := wrap_small (by omega) (by omega)
        rw [h0] at hc
        rw [if_pos h0, ← ih (i + 1) f (by omega) (by omega) (by omega)]
        simp -implicitDefEqProofs [exB v124_0.eq_1, fr124, Row.c_len, hlt, hb2, hx, hy, Val.c, hc, S_125, hw, hnb]
      · rw [if_neg h0]
        simp -implicitDefEqProofs [exB v124_0.eq_1, fr124, fe124, Row.c_len, hlt, hb2, hx, hy, Val.c, hc, S_125, h0, hnb]
    · have hnb : ((b.length : Int) ≤ i) := by omega
      have hd : b.drop i = [] := List.drop_eq_nil_of_le (by omega)
      rw [hd, Row.cmpL]
      simp -implicitDefEqProofs [exB v124_0.eq_1, fr124, fe124, Row.c_len, hlt, hx, Val.c, hnb]
theorem cmpFunc_run (P : Program) (E : Env) (d : Nat) (a b : Row) (ha : a.length < 4611686018427387904) (hb : b.length < 4611686018427387904) :
    run P E T (d + 4) 124 [.d (.lst a.c), .d (.lst b.c), .clo 125 [] []] [] = some (.d (.int .i64 (Row.cmp a b)), []) := by
  rw [run_succ _ _ _ _ _ _ _ _ T_124]
  have h := rounds124 P E d a b ha hb _ 0 LOOPS rfl (by omega) (by unfold LOOPS; omega)
  have h0 : ((0 : Nat) : Int) = 0 := rfl
  simp only [fr124, List.drop_zero] at h
  rw [h0] at h
  rw [Row.cmp_eq]
  cases hc : Row.cmpL a b with
  | some n =>
    rw [hc] at h
    simp -implicitDefEqProofs [v124, Row.c_len, h, fe124]
  | none =>
    rw [hc] at h
    by_cases hl : a.length < b.length
    · simp -implicitDefEqProofs [v124, Row.c_len, h, fe124, hl]
    · simp -implicitDefEqProofs [v124, Row.c_len, h, fe124, hl]
theorem compare_run (P : Program) (E : Env) (d : Nat) (a b : Row) (ha : a.length < 4611686018427387904) (hb : b.length < 4611686018427387904) :
    run P E T (d + 5) 102 [.d (.lst a.c), .d (.lst b.c)] [] = some (.d (.int .i64 (Row.cmp a b)), []) := by
  rw [run_succ _ _ _ _ _ _ _ _ T_102]
  simp -implicitDefEqProofs [v102, cmpFunc_run P E d a b ha hb, S_124]
theorem rowLess_run (P : Program) (E : Env) (d : Nat) (a b : Row) (ha : a.length < 4611686018427387904) (hb : b.length < 4611686018427387904) :
    run P E T (d + 6) 106 [.d (.lst a.c), .d (.lst b.c)] [] = some (.d (.bool (a.right && b.right && decide (Row.cmp a b < 0))), []) := by
  rw [run_succ _ _ _ _ _ _ _ _ T_106]
  have h1 := rowRight_run P E d a ha
  have h2 := rowRight_run P E d b hb
  cases e1 : a.right with
  | false => rw [e1] at h1; simp -implicitDefEqProofs [v106, h1, S_97]
  | true =>
    rw [e1] at h1
    cases e2 : b.right with
    | false => rw [e2] at h2; simp -implicitDefEqProofs [v106, h1, h2, S_97]
    | true => rw [e2] at h2; simp -implicitDefEqProofs [v106, h1, h2, S_97, S_102, compare_run P E d a b ha hb]
theorem rowSame_run (P : Program) (E : Env) (d : Nat) (a b : Row) (ha : a.length < 4611686018427387904) (hb : b.length < 4611686018427387904) :
    run P E T (d + 6) 85 [.d (.lst a.c), .d (.lst b.c)] [] = some (.d (.bool (a.right && b.right && decide (Row.cmp a b = 0))), []) := by
  rw [run_succ _ _ _ _ _ _ _ _ T_85]
  have h1 := rowRight_run P E d a ha
  have h2 := rowRight_run P E d b hb
  cases e1 : a.right with
  | false => rw [e1] at h1; simp -implicitDefEqProofs [v85, h1, S_97]
  | true =>
    rw [e1] at h1
    cases e2 : b.right with
    | false => rw [e2] at h2; simp -implicitDefEqProofs [v85, h1, h2, S_97]
    | true => rw [e2] at h2; simp -implicitDefEqProofs [v85, h1, h2, S_97, S_102, compare_run P E d a b ha hb]
end Go.Vm.B
namespace Go.Vm.B
def Row.ltL : Row → Row → Option Bool
  | [], _ => none
  | _ :: _, [] => none
  | a :: r, b :: t => if a.less b then some true else if b.less a then some false else Row.ltL r t
theorem Row.lt_eq : ∀ (a b : Row), Row.lt a b = match Row.ltL a b with | some n => n | none => decide (a.length < b.length)
  | [], [] => rfl
  | [], _ :: _ => by simp [Row.lt, Row.ltL]
  | _ :: _, [] => by simp [Row.lt, Row.ltL]
  | a :: r, b :: t => by
    rw [Row.lt, Row.ltL]
    by_cases h : a.less b
    · rw [if_pos h, if_pos h]
    · rw [if_neg h, if_neg h]
      by_cases h' : b.less a
      · rw [if_pos h', if_pos h']
      · rw [if_neg h', if_neg h', Row.lt_eq r t]; simp
theorem Row.lt_cmp : ∀ (a b : Row), Row.lt a b = decide (Row.cmp a b < 0)
  | [], [] => rfl
  | [], _ :: _ => rfl
  | _ :: _, [] => rfl
  | a :: r, b :: t => by
    rw [Row.lt, Row.cmp, Val.cmp]
    by_cases h : a.less b
    · simp [h]
    · by_cases h' : b.less a
      · simp [h, h']
      · simp [h, h', Row.lt_cmp r t]
def fr27 (a b : V) (i : Nat) : Fr := ⟨[a, b, .bot, .bot, .bot, .d (.int .i64 i), .bot, .bot, .bot, .bot, .bot, .bot, .bot, .bot, .bot, .bot, .bot, .bot, .bot, .bot, .bot, .bot, .bot, .bot, .bot, .bot, .bot, .bot, .bot, .bot, .bot, .bot, .bot, .bot, .bot, .bot, .bot, .bot, .bot, .bot, .bot, .bot, .bot, .bot, .bot, .bot, .bot, .bot, .bot], []⟩
def fe27 (a b c : V) : Fr := ⟨[a, b, .bot, .bot, c, .bot, .bot, .bot, .bot, .bot, .bot, .bot, .bot, .bot, .bot, .bot, .bot, .bot, .bot, .bot, .bot, .bot, .bot, .bot, .bot, .bot, .bot, .bot, .bot, .bot, .bot, .bot, .bot, .bot, .bot, .bot, .bot, .bot, .bot, .bot, .bot, .bot, .bot, .bot, .bot, .bot, .bot, .bot, .bot], []⟩
theorem in27 : inside 9 [(0, 1), (0, 4), (1, 4), (2, 4), (3, 4), (0, 5), (1, 5), (2, 5), (3, 5), (4, 5), (0, 6), (1, 6), (2, 6), (3, 6), (0, 7), (1, 7), (2, 7), (3, 7)] = true := rfl
set_option maxHeartbeats 4000000 in
theorem rounds27 (P : Program) (E : Env) (d : Nat) (a b : Row) (ha : a.length < 4611686018427387904) (hb : b.length < 4611686018427387904) : ∀ (m i f : Nat), m = a.length - i → i ≤ a.length → m < f →
    rounds (exec P (run P E T (d + 2)) (refsOf T) 0 v27_0) (forget 0 35) (forget 0 19) f (fr27 (.d (.lst a.c)) (.d (.lst b.c)) i) =
      match Row.ltL (a.drop i) (b.drop i) with | none => some (.exit 0, fe27 (.d (.lst a.c)) (.d (.lst b.c)) .bot) | some n => some (.ret, fe27 (.d (.lst a.c)) (.d (.lst b.c)) (.d (.bool n))) := by
  intro m
  induction m with
  | zero =>
    intro i f hm hi hf
    obtain ⟨f, rfl⟩ : ∃ f', f = f' + 1 := ⟨f - 1, by omega⟩
    have : i = a.length := by omega
    subst this
    rw [rounds, List.drop_length, Row.ltL]
    simp -implicitDefEqProofs [exB v27_0.eq_1, fr27, fe27, Row.c_len, in27]
  | succ m ih =>
    intro i f hm hi hf
    obtain ⟨f, rfl⟩ : ∃ f', f = f' + 1 := ⟨f - 1, by omega⟩
    have hlt : i < a.length := by omega
    rw [rounds]
    have hx := Row.c_get hlt
    rw [List.drop_eq_getElem_cons hlt]
    by_cases hb2 : i < b.length
    · have hy := Row.c_get hb2
      have hc := refLess_run P E d a[i] b[i]
      have hc' := refLess_run P E d b[i] a[i]
      simp only [Val.v] at hc hc'
      rw [List.drop_eq_getElem_cons hb2, Row.ltL]
      cases h0 : (a[i]).less b[i] with
      | true =>
        rw [h0] at hc
        rw [if_pos rfl]
        simp -implicitDefEqProofs [exB v27_0.eq_1, fr27, fe27, Row.c_len, hlt, hb2, hx, hy, Val.c, hc, hc', S_49, in27]
      | false =>
        rw [h0] at hc
        rw [if_neg Bool.false_ne_true]
        cases h1 : (b[i]).less a[i] with
        | true =>
          rw [h1] at hc'
          rw [if_pos rfl]
          simp -implicitDefEqProofs [exB v27_0.eq_1, fr27, fe27, Row.c_len, hlt, hb2, hx, hy, Val.c, hc, hc', S_49, in27]
        | false =>
          rw [h1] at hc'
          have hw : IntKind.i64.wrap ((i : Int) + 1) = (i : Int) + 1 := wrap_small (by omega) (by omega)
          rw [if_neg Bool.false_ne_true, ← ih (i + 1) f (by omega) (by omega) (by omega)]
          simp -implicitDefEqProofs [exB v27_0.eq_1, fr27, Row.c_len, hlt, hb2, hx, hy, Val.c, hc, hc', S_49, hw, in27]
    · have hd : b.drop i = [] := List.drop_eq_nil_of_le (by omega)
      rw [hd, Row.ltL]
      simp -implicitDefEqProofs [exB v27_0.eq_1, fr27, fe27, Row.c_len, hlt, hb2, hx, Val.c, in27]
theorem refRowLess_run (P : Program) (E : Env) (d : Nat) (a b : Row) (ha : a.length < 4611686018427387904) (hb : b.length < 4611686018427387904) :
    run P E T (d + 3) 27 [.d (.lst a.c), .d (.lst b.c)] [] = some (.d (.bool (a.right && b.right && decide (Row.cmp a b < 0))), []) := by
  rw [run_succ _ _ _ _ _ _ _ _ T_27]
  have h1 := refRow_run P E d a ha
  have h2 := refRow_run P E d b hb
  cases e1 : a.right with
  | false => rw [e1] at h1; simp -implicitDefEqProofs [v27, h1, S_26]
  | true =>
    rw [e1] at h1
    cases e2 : b.right with
    | false => rw [e2] at h2; simp -implicitDefEqProofs [v27, h1, h2, S_26]
    | true =>
      rw [e2] at h2
      have h := rounds27 P E d a b ha hb _ 0 LOOPS rfl (by omega) (by unfold LOOPS; omega)
      have h0 : ((0 : Nat) : Int) = 0 := rfl
      simp only [fr27, List.drop_zero] at h
      rw [h0] at h
      rw [← Row.lt_cmp, Row.lt_eq]
      cases hc : Row.ltL a b with
      | some n =>
        rw [hc] at h
        simp -implicitDefEqProofs [v27, Row.c_len, h, fe27, h1, h2, S_26]
      | none =>
        rw [hc] at h
        simp -implicitDefEqProofs [v27, Row.c_len, h, fe27, h1, h2, S_26]
end Go.Vm.B
namespace Go.Vm
open Go.Fl
theorem binD_fl (P : Program) (op : BinOp) (ty : TypeId) (a b : Nat) (r : Bool) (h : Op.floatCmp op .f64 (fl a) (fl b) = pure (.bool r)) (hop : op = .eql ∨ op = .neq ∨ op = .lss ∨ op = .leq ∨ op = .gtr ∨ op = .geq) :
    binD P op ty (.d (.float .f64 (fl a))) (.d (.float .f64 (fl b))) = some (.d (.bool r)) := by
  rcases hop with rfl | rfl | rfl | rfl | rfl | rfl <;> simp [binD, binOp, h, pureRun, ofVal, pure]

theorem cmp_fl {a b : Nat} (ha : a < 2 ^ 53) (hb : b < 2 ^ 53) : FloatKind.f64.format.order (fl a) (fl b) = some (compare a b) := order_fl ha hb

theorem fl_leq {P : Program} {ty : TypeId} {a b : Nat} (ha : a < 2 ^ 53) (hb : b < 2 ^ 53) : binD P .leq ty (.d (.float .f64 (fl a))) (.d (.float .f64 (fl b))) = some (.d (.bool (decide (a ≤ b)))) := by
  refine binD_fl P _ ty a b _ ?_ (by simp)
  simp only [Op.floatCmp, cmp_fl ha hb]
  congr 2
  rw [Bool.eq_iff_iff]
  simp [Nat.compare_eq_lt, Nat.compare_eq_eq, Nat.le_iff_lt_or_eq]
theorem fl_geq {P : Program} {ty : TypeId} {a b : Nat} (ha : a < 2 ^ 53) (hb : b < 2 ^ 53) : binD P .geq ty (.d (.float .f64 (fl a))) (.d (.float .f64 (fl b))) = some (.d (.bool (decide (b ≤ a)))) := by
  refine binD_fl P _ ty a b _ ?_ (by simp)
  simp only [Op.floatCmp, cmp_fl ha hb]
  congr 2
  rw [Bool.eq_iff_iff]
  simp only [Bool.or_eq_true, beq_iff_eq, Option.some.injEq, Nat.compare_eq_gt, Nat.compare_eq_eq, decide_eq_true_eq]
  clear ha hb
  omega
theorem fl_eql {P : Program} {ty : TypeId} {a b : Nat} (ha : a < 2 ^ 53) (hb : b < 2 ^ 53) : binD P .eql ty (.d (.float .f64 (fl a))) (.d (.float .f64 (fl b))) = some (.d (.bool (decide (a = b)))) := by
  refine binD_fl P _ ty a b _ ?_ (by simp)
  simp only [Op.floatCmp, cmp_fl ha hb]
  congr 2
  rw [Bool.eq_iff_iff]
  simp [Nat.compare_eq_eq]
theorem fl_neq {P : Program} {ty : TypeId} {a b : Nat} (ha : a < 2 ^ 53) (hb : b < 2 ^ 53) : binD P .neq ty (.d (.float .f64 (fl a))) (.d (.float .f64 (fl b))) = some (.d (.bool (!decide (a = b)))) := by
  refine binD_fl P _ ty a b _ ?_ (by simp)
  simp only [Op.floatCmp, cmp_fl ha hb]
  congr 2
  rw [Bool.eq_iff_iff]
  simp [Nat.compare_eq_eq]
end Go.Vm
namespace Go.Vm
open Go.Fl
theorem pureRun_bind {α β : Type} (P : Program) (x : Sem α) (f : α → Sem β) : pureRun P (x >>= f) = (pureRun P x).bind fun a => pureRun P (f a) := by
  show pureRun P (Sem.bind x f) = _
  induction x with
  | pure a => rfl
  | program k ih => simp only [Sem.bind, pureRun, ih]
  | mark e k ih => simp only [Sem.bind, pureRun, ih]
  | _ => rfl
end Go.Vm
namespace Go.Vm
open Go.Fl Go.Proofs
theorem find137 : Extern.find Tryz.f137 = some (Extern.MathFloor.toIntegral "math.archTrunc" .zero) := by kernel_rfl
theorem findNext137 : (Extern.findNext Tryz.f137).isNone = true := by kernel_rfl
theorem name137 : (Tryz.f137.name == "runtime.NumGoroutine") = false := by kernel_rfl
theorem body137 : Tryz.f137.body.isNone = true := by kernel_rfl
theorem toIntegral_num {x : Nat} {s : Bool} {m : Nat} {i : Int} (h : FloatKind.f64.decode x = .number s m i) :
    Extern.MathFloor.toIntegral "math.archTrunc" .zero #[.float .f64 x] = pure (.float .f64 (FloatKind.f64.encode ((Ieee.Datum.number s m i).integral .zero))) := by
  rw [← h]
  delta Extern.MathFloor.toIntegral
  show (match FloatKind.f64.decode x with | .nan s t => _ | d => _) = _
  rw [h]
theorem callFunc137 {args : Array Value} {v : Value} (h : pureRun Tryz.prog (Extern.MathFloor.toIntegral "math.archTrunc" .zero args) = some v) : pureRun Tryz.prog (callFunc 137 args) = some (.value v) := by
  unfold callFunc
  have h1 : pureRun Tryz.prog program = some Tryz.prog := rfl
  have h2 : Extern.findNext Tryz.f137 = none := Option.isNone_iff_eq_none.1 findNext137
  simp only [pureRun_bind, h1, Option.bind_some, Tryz.func137]
  rw [if_neg (by rw [name137]; decide), if_pos body137]
  simp only [pureRun_bind]
  have h3 : pureRun Tryz.prog (mark (.extern 137)) = some () := rfl
  simp only [h3, Option.bind_some, h2, find137, pureRun_bind, h]
  rfl
end Go.Vm
namespace Go.Vm
open Go.Fl Go.Proofs
theorem scal_trunc {ts : List V} {n t ty : Nat} (h : ts.getD t .bot = .d (.float .f64 (fl n))) (hn : n < 2 ^ 53) :
    scal Tryz.prog ts (.call { callee := .value (.func 137), args := #[(.tmp t)], argTypes := #[71] }) ty = some (.d (.float .f64 (fl n))) := by
  have key : pureRun Tryz.prog (callFunc 137 #[.float .f64 (fl n)]) = some (.value (.float .f64 (fl n))) := by
    apply callFunc137
    obtain ⟨m, i, h1, -⟩ := read_any hn
    have hi := integral_fl hn
    rw [h1] at hi
    rw [toIntegral_num (s := false) (m := m) (i := -(i : Int)) h1, hi]
    rfl
  have e0 : evOpd ts (.tmp t) = some (.float .f64 (fl n)) := by
    show (ts.getD t .bot).val = _
    rw [h]; rfl
  have e1 : evOpd ts (.func 137) = some (.func (.func 137) #[] #[]) := rfl
  have ho : (Op.call { callee := .value (.func 137), args := #[(.tmp t)], argTypes := #[71] }).operands.all (fun x => (evOpd ts x).isSome) = true := by
    simp [Op.operands, Call.operands, e0, e1]
  unfold scal
  rw [if_pos ho]
  have he : (evOpd ts (.tmp t)).getD undef = .float .f64 (fl n) := by rw [e0]; rfl
  have hrun : pureRun Tryz.prog (execOp (fun x => (evOpd ts x).getD undef) { dst := none, op := .call { callee := .value (.func 137), args := #[(.tmp t)], argTypes := #[71] }, type := ty, pos := "", after := #[], guard := none }) = some (.value (.float .f64 (fl n))) := by
    simp only [execOp, resolve, pureRun_bind]
    have h2 : (evOpd ts (.func 137)).getD undef = .func (.func 137) #[] #[] := rfl
    simp only [h2, Deferred.ofValue, pure, pureRun, Option.bind_some, invoke]
    simpa [he] using key
  rw [hrun]
  rfl
end Go.Vm
namespace Go.Vm
open Go.Fl Go.Proofs
variable {P : Program}
theorem pureRun_underlying {t : TypeId} {d : TypeDesc} (h : P.underlying t = some d) : pureRun P (underlying t) = some d := by
  unfold underlying
  simp only [pureRun_bind]
  show (Option.some P).bind _ = _
  simp [h, pureRun, pure]
theorem scal_i2f {ts : List V} {n t ty : Nat} {s d : TypeId} (h : ts.getD t .bot = .d (.int .i64 (n : Int))) (hs : P.underlying s = some (.int .i64)) (hd : P.underlying d = some (.float .f64)) :
    scal P ts (.convert s d (.tmp t)) ty = some (.d (.float .f64 (fl n))) := by
  have e0 : evOpd ts (.tmp t) = some (.int .i64 (n : Int)) := by
    show (ts.getD t .bot).val = _
    rw [h]; rfl
  unfold scal
  rw [if_pos (by simp [Op.operands, e0])]
  have hrun : pureRun P (execOp (fun x => (evOpd ts x).getD undef) { dst := none, op := .convert s d (.tmp t), type := ty, pos := "", after := #[], guard := none }) = some (.value (.float .f64 (fl n))) := by
    simp only [execOp, pureRun_bind, convert, e0, Option.getD_some, pureRun_underlying hs, pureRun_underlying hd, Option.bind_some, Conv.intToFloat, nearest_fl]
    rfl
  rw [hrun]
  rfl
theorem scal_f2i {ts : List V} {n t ty : Nat} {s d : TypeId} (h : ts.getD t .bot = .d (.float .f64 (fl n))) (hn : n < 2 ^ 53) (hs : P.underlying s = some (.float .f64)) (hd : P.underlying d = some (.int .i64)) :
    scal P ts (.convert s d (.tmp t)) ty = some (.d (.int .i64 (n : Int))) := by
  have e0 : evOpd ts (.tmp t) = some (.float .f64 (fl n)) := by
    show (ts.getD t .bot).val = _
    rw [h]; rfl
  unfold scal
  rw [if_pos (by simp [Op.operands, e0])]
  have hti : (FloatKind.f64.decode (fl n)).toInt .zero = some (n : Int) := toInt_fl hn
  have hb : IntKind.i64.min ≤ (n : Int) ∧ (n : Int) ≤ IntKind.i64.max := by
    have e1 : IntKind.i64.min = -9223372036854775808 := rfl
    have e2 : IntKind.i64.max = 9223372036854775807 := rfl
    rw [e1, e2]; omega
  have hrun : pureRun P (execOp (fun x => (evOpd ts x).getD undef) { dst := none, op := .convert s d (.tmp t), type := ty, pos := "", after := #[], guard := none }) = some (.value (.int .i64 (n : Int))) := by
    simp only [execOp, pureRun_bind, convert, e0, Option.getD_some, pureRun_underlying hs, pureRun_underlying hd, Option.bind_some, Conv.floatToInt, hti]
    rw [if_pos hb]
    rfl
  rw [hrun]
  rfl
end Go.Vm
