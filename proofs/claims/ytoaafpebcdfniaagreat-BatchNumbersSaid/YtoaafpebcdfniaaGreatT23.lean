/- A part of the proofs of the statements BatchTells and BatchNumbers: C68, R1, R2, R3, R4, K0, K1, K2, K3, K4, K5, K6, K7, K8, K9, K10, KZ. Conditions: none of its own. -/
import Derived.Test.YtoaafpebcdfniaaGreatT22
import Derived.Test.YtoaafpebcdfniaaGreatT08
import Derived.Below
import Derived.ChangeArms
import Derived.ChangeSame
import Derived.SizedLaws
import Derived.Deep.Strs
import Derived.DataReads
import Derived.Test.YtoaafpebcdfniaaGreatRows
import Derived.KernelRfl
import Derived.Test.YtoaafpebcdfniaaGreatT10
import Derived.Test.YtoaafpebcdfniaaGreatProg
set_option linter.unusedSimpArgs false
set_option linter.unusedVariables false
set_option linter.unnecessarySimpa false
set_option linter.all false
set_option maxRecDepth 100000
namespace Go.Vm.B
open Go.Fl
attribute [local irreducible] IntKind.wrap Go.Fl.fl tnD
variable {P : Program} {E : Env}
def bc (l : List Bool) : List (List D) := l.map fun b => [.bool b]
theorem bc_len (l : List Bool) : (bc l).length = l.length := by simp [bc]
theorem bc_get {l : List Bool} {i : Nat} (h : i < l.length) : (bc l)[i]? = some [.bool l[i]] := by simp [bc, h]
@[simp] theorem bc_getElem (l : List Bool) (i : Nat) (h : i < (bc l).length) : (bc l)[i] = [.bool (l[i]'(by rwa [bc_len] at h))] := by simp [bc]
def selC (cs : List Chg) (tm : List Bool) : Nat → Chg → Chg := fun i c => if tm[i]? = some true then tame c else c
def selL (cs : List Chg) (tm : List Bool) : Nat → List Chg
  | 0 => []
  | i + 1 => match cs[i]? with
    | some c => selL cs tm i ++ [if tm[i]? = some true then tame c else c]
    | none => selL cs tm i
theorem selL_len (cs : List Chg) (tm : List Bool) : ∀ i, i ≤ cs.length → (selL cs tm i).length = i
  | 0, _ => rfl
  | i + 1, h => by
    rw [selL, List.getElem?_eq_getElem (by omega : i < cs.length)]
    simp [selL_len cs tm i (by omega)]
theorem selL_mem (cs : List Chg) (tm : List Bool) (p : Chg → Prop) (h1 : ∀ c ∈ cs, p c) (h2 : ∀ c ∈ cs, p (tame c)) : ∀ i, ∀ c ∈ selL cs tm i, p c
  | 0, c, h => by simp [selL] at h
  | i + 1, c, h => by
    rw [selL] at h
    split at h
    · rename_i x hx
      rcases List.mem_append.mp h with h | h
      · exact selL_mem cs tm p h1 h2 i c h
      · rw [List.mem_singleton] at h
        subst h
        split
        · exact h2 _ (List.mem_of_getElem? hx)
        · exact h1 _ (List.mem_of_getElem? hx)
    · exact selL_mem cs tm p h1 h2 i c h
def fr4 (b : V) (k : Int) (cs : List Chg) (tm : List Bool) (i : Nat) (out : List (List D)) : Fr := ⟨[.bot, b, .bot, .d (.lst (bc tm)), .bot, .bot, .bot, .bot, .bot, .d (.int .i64 k), ouV 0 out, .d (.lst (chsc cs)), .d (.int .i64 (i : Nat)), .bot, .bot, .bot, .bot, .bot, .bot, .bot, .bot, .bot, .bot, .bot, .bot, .bot, .bot, .bot, .bot, .bot, .bot, .bot, .bot, .bot, .bot, .bot, .bot, .bot, .bot, .bot, .bot, .bot, .bot, .bot, .bot, .bot, .bot, .bot, .bot, .bot, .bot, .bot, .bot, .bot, .bot, .bot, .bot, .bot, .bot, .bot, .bot, .bot], if out = [] then [] else [some (.row 3 out)]⟩
def fe4 (b : V) (k : Int) (out : List (List D)) : Fr := ⟨[.bot, b, .bot, .bot, .bot, .bot, .bot, .bot, .bot, .d (.int .i64 k), ouV 0 out, .bot, .bot, .bot, .bot, .bot, .bot, .bot, .bot, .bot, .bot, .bot, .bot, .bot, .bot, .bot, .bot, .bot, .bot, .bot, .bot, .bot, .bot, .bot, .bot, .bot, .bot, .bot, .bot, .bot, .bot, .bot, .bot, .bot, .bot, .bot, .bot, .bot, .bot, .bot, .bot, .bot, .bot, .bot, .bot, .bot, .bot, .bot, .bot, .bot, .bot, .bot], if out = [] then [] else [some (.row 3 out)]⟩
set_option maxHeartbeats 16000000 in
theorem rounds4 (P : Program) (E : Env) (d : Nat) (b : D) (k : Int) (cs : List Chg) (hcs : cs.length ≤ 1000) (tm : List Bool) : ∀ (m i f : Nat) (out : List (List D)), m = cs.length - i → i ≤ cs.length → m < f → out = chsc (selL cs tm i) →
    rounds (exec P (run P E T (d + 2)) (refsOf T) 0 v4_0) (forget 0 7690) (forget 0 1794) f (fr4 (.d b) k cs tm i out) = some (.exit 0, fe4 (.d b) k (chsc (selL cs tm cs.length))) := by
  intro m
  induction m with
  | zero =>
    intro i f out hm hi hf ho
    obtain ⟨f, rfl⟩ : ∃ f', f = f' + 1 := ⟨f - 1, by omega⟩
    have : i = cs.length := by omega
    subst this
    rw [rounds, ← ho]
    by_cases hn : out = []
    · simp -implicitDefEqProofs [exB v4_0.eq_1, fr4, fe4, ouV, chsc_len, hn, callX, callIds, frzArgs, passArgs, List.range_succ, List.idxOf?_cons, -forget, mask4ta, mask4tb]
    · simp -implicitDefEqProofs [exB v4_0.eq_1, fr4, fe4, ouV, chsc_len, hn, callX, callIds, frzArgs, passArgs, List.range_succ, List.idxOf?_cons, -forget, mask4ta, mask4tb]
  | succ m ih =>
    intro i f out hm hi hf ho
    obtain ⟨f, rfl⟩ : ∃ f', f = f' + 1 := ⟨f - 1, by omega⟩
    have hlt : i < cs.length := by omega
    have hI : (i : Int) < cs.length := by omega
    have hx := chsc_get hlt
    have hw : IntKind.i64.wrap ((i : Int) + 1) = (i : Int) + 1 := wrap_small (by omega) (by omega)
    have hol : out.length = i := by rw [ho, chsc_len, selL_len cs tm i (by omega)]
    have hb1 : out.length + 1 ≤ 4294967296 := by omega
    have hsn : chsc (selL cs tm (i + 1)) = out ++ [chc (if tm[i]? = some true then tame cs[i] else cs[i])] := by
      rw [selL, List.getElem?_eq_getElem hlt, ho]; simp [chsc]
    have h15 := tame_run P E d cs[i]
    rw [← ih (i + 1) f _ (by omega) (by omega) (by omega) hsn.symm, rounds]
    clear ih ho hsn
    generalize hce : cs[i] = c at *
    generalize htc : tame c = q at *
    obtain ⟨ct, cr, cm⟩ := c
    obtain ⟨qt, qr, qm⟩ := q
    simp only at h15
    by_cases htl : i < tm.length
    · have htI : (i : Int) < tm.length := by omega
      have htg := bc_get htl
      rw [List.getElem?_eq_getElem htl]
      generalize hte : tm[i] = t at *
      cases t with
      | true =>
        rw [if_pos rfl]
        by_cases ho : out = []
        · subst ho
          simp -implicitDefEqProofs [exB v4_0.eq_1, fr4, ouV, chsc_len, bc_len, hI, hlt, hx, hce, chc, hw, htl, htI, htg, hte, h15, S_15, callX, callIds, frzArgs, passArgs, List.range_succ, List.idxOf?_cons, -forget, mask4ta, mask4tb]
        · simp -implicitDefEqProofs [exB v4_0.eq_1, fr4, ouV, chsc_len, bc_len, hI, hlt, hx, hce, chc, hw, ho, hb1, htl, htI, htg, hte, h15, S_15, callX, callIds, frzArgs, passArgs, List.range_succ, List.idxOf?_cons, -forget, mask4ta, mask4tb]
      | false =>
        rw [if_neg (by decide)]
        by_cases ho : out = []
        · subst ho
          simp -implicitDefEqProofs [exB v4_0.eq_1, fr4, ouV, chsc_len, bc_len, hI, hlt, hx, hce, chc, hw, htl, htI, htg, hte, S_15, callX, callIds, frzArgs, passArgs, List.range_succ, List.idxOf?_cons, -forget, mask4ta, mask4tb]
        · simp -implicitDefEqProofs [exB v4_0.eq_1, fr4, ouV, chsc_len, bc_len, hI, hlt, hx, hce, chc, hw, ho, hb1, htl, htI, htg, hte, S_15, callX, callIds, frzArgs, passArgs, List.range_succ, List.idxOf?_cons, -forget, mask4ta, mask4tb]
    · have htI : ¬ (i : Int) < tm.length := by omega
      rw [List.getElem?_eq_none (by omega), if_neg (by decide)]
      by_cases ho : out = []
      · subst ho
        simp -implicitDefEqProofs [exB v4_0.eq_1, fr4, ouV, chsc_len, bc_len, hI, hlt, hx, hce, chc, hw, htl, htI, S_15, callX, callIds, frzArgs, passArgs, List.range_succ, List.idxOf?_cons, -forget, mask4ta, mask4tb]
      · simp -implicitDefEqProofs [exB v4_0.eq_1, fr4, ouV, chsc_len, bc_len, hI, hlt, hx, hce, chc, hw, ho, hb1, htl, htI, S_15, callX, callIds, frzArgs, passArgs, List.range_succ, List.idxOf?_cons, -forget, mask4ta, mask4tb]
theorem tame_row (c : Chg) : (tame c).r.length ≤ 1000 := by
  unfold tame; split <;> simp
theorem few_row (c : Chg) : (fewC c).r.length ≤ 1000 := by
  unfold fewC fewR; simp; omega
set_option maxHeartbeats 16000000 in
theorem batchTells_run (g : Good P E) (cp : Cmp P) (d : Nat) (n : Int) (before cs : List Chg) (tm : List Bool) (hr : ∀ c ∈ cs.take 9, c.r.length ≤ 4398046511104) :
    run P E T (d + 108) 4 [.d (.int .i64 n), .d (.lst (chsc before)), .d (.lst (chsc cs)), .d (.lst (bc tm))] [] = some (.d (.bool true), []) := by
  rw [run_succ _ _ _ _ _ _ _ _ T_4]
  have hrem := binD_rem (P := P) 3 n 66 (by omega)
  have hk : n.tmod 66 ≤ 100 := by have := Int.tmod_lt_of_pos n (show (0 : Int) < 66 by omega); omega
  generalize n.tmod 66 = k at *
  have h14 : run P E T (d + 107) 14 [.d (.lst (chsc cs)), .d (.int .i64 9)] [] = some (.d (.lst (chsc ((cs.take 9).map fewC))), []) := few_run P E (d + 105) cs hr
  have hfl : ((cs.take 9).map fewC).length ≤ 9 := by rw [List.length_map, List.length_take]; omega
  have hfr : ∀ c ∈ (cs.take 9).map fewC, c.r.length ≤ 1000 := fun c hc => by
    obtain ⟨x, _, rfl⟩ := List.mem_map.mp hc; exact few_row x
  generalize (cs.take 9).map fewC = fs at *
  have hA : rounds (exec P (run P E T (d + 107)) (refsOf T) 0 v4_0) (forget 0 7690) (forget 0 1794) LOOPS (fr4 (.d (.lst (chsc before))) k fs tm 0 []) = some (.exit 0, fe4 (.d (.lst (chsc before))) k (chsc (selL fs tm fs.length))) := rounds4 P E (d + 105) (.lst (chsc before)) k fs (by omega) tm fs.length 0 LOOPS [] (by omega) (by omega) (by unfold LOOPS; omega) rfl
  have hll := selL_len fs tm fs.length (Nat.le_refl _)
  have hlr := selL_mem fs tm (fun c => c.r.length ≤ 1000) hfr (fun c _ => tame_row c) fs.length
  generalize selL fs tm fs.length = L at *
  have h7 : run P E T (d + 107) 7 [.d (.int .i64 k), .d (.lst (chsc before))] [] = some (.arr 0 0 2, [some (.row 3 [tabc (tabU k before), tabc (tabT before)])]) := tables_run g (d + 101) k hk before
  have h11 := both_run g cp d (tabU k before) (tabT before) ((tabs_st k hk before).mono (by omega)) L (by omega) hlr (right31 g k hk before) (right39 g k hk before)
  have h13 := known_run g d
  simp only [fr4, fe4, ouV, if_pos] at hA
  rw [show ((0 : Nat) : Int) = 0 from rfl] at hA
  generalize [tabc (tabU k before), tabc (tabT before)] = o at *
  generalize applyR (tabU k before) (tabT before) L = R at *
  by_cases hn : chsc L = []
  · simp only [hn, if_pos] at hA h11
    simp -implicitDefEqProofs [v4, hrem, h14, hA, h7, h11, h13, S_14, S_7, S_11, S_13, callX, callIds, frzArgs, passArgs, List.range_succ, List.idxOf?_cons, -forget, mask4ta, mask4tb]
  · simp only [hn, if_false] at hA
    simp -implicitDefEqProofs [v4, hrem, h14, hA, h7, h11, h13, S_14, S_7, S_11, S_13, callX, callIds, frzArgs, passArgs, List.range_succ, List.idxOf?_cons, -forget, mask4ta, mask4tb]
end Go.Vm.B
namespace Go.Vm
open Go.RowKit
variable {P : Program}
/-- A sentence on data: what the machine says of its arguments, the program says. -/
theorem open_calls {E : Env} (hE : SoundEnv P E) (hm : P.follows .mixedOrders = true) {T : FuncId → Option F} (hT : ∀ f F, T f = some F → ∃ fn, P.funcs[f]? = some fn ∧ Comp P fn F) {n : Nat} {f : FuncId} {xs : List D} {σ' : Store} {b : Bool}
    (hr : run P E T n f (xs.map V.d) [] = some (.d (.bool b), σ')) (w : World) (cargs : Array Value) (hl : cargs.size = xs.length) (ha : ∀ (i : Nat) x c, xs[i]? = some x → cargs[i]? = some c → RD w (fun b => b < w.heap.size) x c) :
    Calls P f cargs w fun e w' => e = .returned (.bool b) ∧ Below w.heap.size w w' ∧ ∀ a, w'.frozen? a = w.frozen? a := by
  obtain ⟨-, -, hs⟩ := run_sound hE hm hT n f _ [] _ _ hr
  have h0 : SRel w (fun b => b < w.heap.size) (fun _ => none) [] := by
    refine ⟨fun id o hg => ?_, fun b _ ⟨id, o, l, hg, _⟩ => ?_, fun id id' o o' l l' hg => ?_, fun b h => h⟩ <;> simp [Store.get] at hg
  refine (hs w (fun b => b < w.heap.size) (fun _ => none) cargs h0 (by intro id l h; cases h) (by rw [List.length_map]; exact hl) (by
    intro i v c hv hc
    rw [List.getElem?_map] at hv
    cases hx : xs[i]? with
    | none => rw [hx] at hv; cases hv
    | some x =>
      rw [hx] at hv
      injection hv with hv
      subst hv
      exact .inr (.d _ _ (ha i x c hx hc)))).mono ?_
  rintro e w' ⟨c, N', L', rfl, hev, -, -, -, hrs⟩
  have hc := hrs.resolve_left (by simp)
  refine ⟨?_, ⟨hev.os, hev.tape, hev.output, hev.size, fun i hi => hev.keep i hi (fun ⟨id, o, l, hg, _⟩ => by simp [Store.get] at hg)⟩, hev.cold⟩
  cases hc with | d _ _ hd => cases hd; rfl
theorem list_of {α : Type} {p : Nat → α → Prop} : ∀ (n : Nat), (∀ i, i < n → ∃ y, p i y) → ∃ l : List α, l.length = n ∧ ∀ i y, l[i]? = some y → p i y
  | 0, _ => ⟨[], rfl, fun i y h => by simp at h⟩
  | n + 1, h => by
    obtain ⟨l, h1, h2⟩ := list_of n fun i hi => h i (by omega)
    obtain ⟨y, hy⟩ := h n (by omega)
    refine ⟨l ++ [y], by simp [h1], fun i z hz => ?_⟩
    rcases Nat.lt_or_ge i l.length with hi | hi
    · rw [List.getElem?_append_left hi] at hz; exact h2 i z hz
    · rw [List.getElem?_append_right hi] at hz
      have : i - l.length = 0 := by
        rcases Nat.eq_zero_or_pos (i - l.length) with h0 | h0
        · exact h0
        · rw [List.getElem?_eq_none (by simp; omega)] at hz; cases hz
      rw [this] at hz
      injection hz with hz
      rw [← hz, show i = n by omega]; exact hy
def NB (w : World) (b : Nat) : Prop := b < w.heap.size
def RDs (w : World) (ds : List D) (cs : List Value) : Prop := cs.length = ds.length ∧ ∀ (k : Nat) d c, ds[k]? = some d → cs[k]? = some c → RD w (fun b => b < w.heap.size) d c
section
variable {H : Type} {enc : TypeId × Value → H} {w : World} {base : Nat} {spare : Nat → Bool} {held : Bool} {fuel : Nat} {t e : TypeId} {cs : List Value} {x : DataW H × List MemPlace}
theorem cell_lt {a : Addr} {v : Value} (h : w.cell? a = some v) : a.block < w.heap.size := by
  rcases Nat.lt_or_ge a.block w.heap.size with h1 | h1
  · exact h1
  · unfold World.cell? at h
    rw [Array.getElem?_eq_none h1] at h; cases h
theorem add_at {b o n : Nat} : (⟨b, o, none⟩ : Addr).add n = ⟨b, o + n, none⟩ := by
  unfold Addr.add; split
  · rename_i h; subst h; rfl
  · rfl
theorem open_lst {α : Type} (f : α → List D) (q : α → Prop) {s : Nat} (ht : P.underlying t = some (.slice e)) (hs : P.cellsOf e = s) (h0 : 0 < s)
    (hα : ∀ fuel cs x, DataW.trod enc P w base spare held fuel e cs = some x → ∃ y : α, (f y).length = s ∧ RDs w (f y) cs ∧ ((x.1.weights P e).all (· ≤ reachBytes) = true → q y))
    (h : DataW.trod enc P w base spare held fuel t cs = some x) : ∃ (l : List α) (c : Value), cs = [c] ∧ RD w (fun b => b < w.heap.size) (.lst (l.map f)) c ∧ ((x.1.weights P t).all (· ≤ reachBytes) = true → (∀ y ∈ l, q y) ∧ l.length * P.bytesOf e ≤ reachBytes) := by
  rcases DataW.trod_slice ht h with ⟨rfl, rfl⟩ | ⟨a, len, cap, elems, rest, n, -, rfl, rfl, hbase, hl, hcap, helen, hel, -, -⟩
  · refine ⟨[], _, rfl, ?_, fun _ => ⟨fun y hy => by simp at hy, by simp⟩⟩
    exact RD.lst [] none 0 s (fun _ _ => undef) (Nat.le_refl _) (fun i x hx => by simp at hx) (fun hne => absurd rfl hne) (fun i x k y hx => by simp at hx)
  · subst hs
    obtain ⟨l, l1, l2⟩ := list_of (α := α) (p := fun i y => ∃ csi z, w.cells? base (a.add (i * P.cellsOf e)) (P.cellsOf e) = some csi ∧ elems[i]? = some z ∧ (f y).length = P.cellsOf e ∧ RDs w (f y) csi ∧ ((z.1.weights P e).all (· ≤ reachBytes) = true → q y)) len fun i hi => by
      have h1 := hel i hi
      rw [List.getElem?_eq_getElem (by omega : i < elems.length)] at h1 ⊢
      obtain ⟨csi, c1, c2⟩ := Option.bind_eq_some_iff.mp h1
      obtain ⟨y, y1, y2, y3⟩ := hα _ _ _ c2
      exact ⟨y, csi, _, c1, rfl, y1, y2, y3⟩
    refine ⟨l, _, rfl, ?_, fun hw => ⟨fun y hy => ?_, ?_⟩⟩
    · have hsp : l ≠ [] → a = ⟨a.block, a.off, none⟩ ∧ a.block < w.heap.size := fun hne => by
        have hlen : 0 < l.length := List.length_pos_iff.mpr hne
        obtain ⟨csi, z, c1, -, -, -, -⟩ := l2 0 _ (List.getElem?_eq_getElem hlen)
        obtain ⟨-, hcl, hcc⟩ := World.cells?_some c1
        have hc0 := hcc 0 h0
        have e1 : (a.add (0 * P.cellsOf e)).add 0 = a := by simp [Addr.add]
        rw [e1, List.getElem?_eq_getElem (by omega)] at hc0
        have hs := World.cell?_spot hc0
        refine ⟨?_, cell_lt hc0⟩
        cases a; simp only at hs; subst hs; rfl
      have hll : (l.map f).length = len := by rw [List.length_map]; exact l1
      have key := RD.lst (w := w) (N := fun b => b < w.heap.size) (l.map f) (some a) cap (P.cellsOf e) (fun i k => (w.cell? ⟨a.block, a.off + (i * P.cellsOf e + k), none⟩).getD undef) (by omega)
        (fun i x hx => by
          rw [List.getElem?_map] at hx
          cases hy : l[i]? with
          | none => rw [hy] at hx; cases hx
          | some y =>
            rw [hy] at hx; injection hx with hx; subst hx
            obtain ⟨_, _, _, _, y1, _, _⟩ := l2 i y hy
            exact y1) (fun hne => ?_) (fun i x k y hx hk => ?_)
      · rw [hll] at key; exact key
      · have hne' : l ≠ [] := fun e => hne (by rw [e]; rfl)
        obtain ⟨hae, hab⟩ := hsp hne'
        refine ⟨a.block, a.off, by rw [← hae], hab, fun i x k y hx hk => ?_⟩
        rw [List.getElem?_map] at hx
        cases hy : l[i]? with
        | none => rw [hy] at hx; cases hx
        | some u =>
          rw [hy] at hx; injection hx with hx; subst hx
          obtain ⟨csi, z, c1, -, y1, -, -⟩ := l2 i u hy
          obtain ⟨-, hcl, hcc⟩ := World.cells?_some c1
          have hkl : k < P.cellsOf e := by
            have := (List.getElem?_eq_some_iff.mp hk).1
            omega
          have h1 := hcc k hkl
          rw [hae, add_at, add_at, List.getElem?_eq_getElem (by omega)] at h1
          rw [show a.off + (i * P.cellsOf e + k) = a.off + i * P.cellsOf e + k by omega, h1]; rfl
      · rw [List.getElem?_map] at hx
        cases hy : l[i]? with
        | none => rw [hy] at hx; cases hx
        | some u =>
          rw [hy] at hx; injection hx with hx; subst hx
          obtain ⟨csi, z, c1, -, y1, y2, -⟩ := l2 i u hy
          obtain ⟨-, hcl, hcc⟩ := World.cells?_some c1
          have hkl : k < P.cellsOf e := by
            have := (List.getElem?_eq_some_iff.mp hk).1
            omega
          have h1 := hcc k hkl
          have hne' : l ≠ [] := by intro e; rw [e] at hy; simp at hy
          rw [(hsp hne').1, add_at, add_at, List.getElem?_eq_getElem (by omega)] at h1
          rw [show a.off + (i * P.cellsOf e + k) = a.off + i * P.cellsOf e + k by omega, h1]
          exact y2.2 k y _ hk (List.getElem?_eq_getElem (by omega))
    · obtain ⟨i, hi⟩ := List.getElem?_of_mem hy
      obtain ⟨csi, z, -, hz, -, -, y3⟩ := l2 i y hi
      refine y3 ?_
      rw [List.all_eq_true] at hw ⊢
      intro m hm
      refine hw m ?_
      simp only [DataW.weights, ht]
      refine List.mem_cons_of_mem _ (List.mem_append_left _ ?_)
      have hall : ∀ (zs : List (DataW H)) (i : Nat) (z : DataW H), zs[i]? = some z → ∀ m ∈ z.weights P e, m ∈ DataW.weightsAll P e zs := by
        intro zs
        induction zs with
        | nil => intro i z hz; simp at hz
        | cons u r ih =>
          intro i z hz m hm
          simp only [DataW.weightsAll, List.mem_append]
          cases i with
          | zero => simp at hz; subst hz; exact Or.inl hm
          | succ i => exact Or.inr (ih i z (by simpa using hz) m hm)
      exact hall _ i z.1 (by rw [List.getElem?_map, hz]; rfl) m hm
    · rw [List.all_eq_true] at hw
      have := hw ((elems.length + rest.length) * P.bytesOf e) (by simp [DataW.weights, ht])
      have h2 : (elems.length + rest.length) * P.bytesOf e ≤ reachBytes := by simpa using this
      exact Nat.le_trans (Nat.mul_le_mul_right _ (by omega)) h2
end
end Go.Vm
namespace Go.Vm.B
open Go.Proofs Go.RowKit Go.Deep
section
variable {H : Type} {enc : TypeId × Value → H} {w : World} {base : Nat} {spare : Nat → Bool} {held : Bool} {fuel : Nat} {cs : List Value} {x : DataW H × List MemPlace}
theorem cells2 : Tryz.prog.cellsOf 2 = 1 := by kernel_rfl
theorem cells3 : Tryz.prog.cellsOf 3 = 1 := by kernel_rfl
theorem cells4 : Tryz.prog.cellsOf 4 = 1 := by kernel_rfl
theorem cells9 : Tryz.prog.cellsOf 9 = 1 := by kernel_rfl
theorem cells23 : Tryz.prog.cellsOf 23 = 1 := by kernel_rfl
theorem cells25 : Tryz.prog.cellsOf 25 = 3 := by kernel_rfl
theorem cells32 : Tryz.prog.cellsOf 32 = 3 := by kernel_rfl
theorem bytes32 : Tryz.prog.bytesOf 32 = 32 := by kernel_rfl
theorem under23 : Tryz.prog.underlying 23 = some (.slice 32) := Tryz.underlying23
theorem take1 {cs : List Value} {k : Nat} {v : Value} (h : (cs.drop k).take 1 = [v]) : cs[k]? = some v := by
  have := congrArg (fun l => l[0]?) h
  simpa using this
theorem open_val (h : DataW.trod enc Tryz.prog w base spare held fuel 32 cs = some x) : ∃ y : Val, y.c.length = 3 ∧ RDs w y.c cs ∧ ((x.1.weights Tryz.prog 32).all (· ≤ reachBytes) = true → True) := by
  obtain ⟨y0, y1, y2, n, rfl, hl, h0, h1, h2⟩ := trod_struct3 Tryz.underlying32 h
  obtain ⟨a, e0, -, -⟩ := DataW.trod_int Tryz.underlying3 h0
  obtain ⟨b, e1, -, -⟩ := DataW.trod_int Tryz.underlying2 h1
  obtain ⟨s, e2, -, -⟩ := DataW.trod_string Tryz.underlying9 h2
  simp only [cells3, cells2, cells9] at e0 e1 e2
  have f0 := take1 e0
  have f1 := take1 e1
  have f2 := take1 e2
  rw [cells32] at hl
  refine ⟨⟨a, b, s⟩, rfl, ⟨by rw [hl]; rfl, fun k d c hd hc => ?_⟩, fun _ => trivial⟩
  match k, hd with
  | 0, hd => rw [f0] at hc; injection hc with hc; subst hc; injection hd with hd; subst hd; exact .int _ _
  | 1, hd => rw [f1] at hc; injection hc with hc; subst hc; injection hd with hd; subst hd; exact .int _ _
  | 2, hd => rw [f2] at hc; injection hc with hc; subst hc; injection hd with hd; subst hd; exact .str _
  | k + 3, hd => simp [Val.c] at hd
theorem open_row (h : DataW.trod enc Tryz.prog w base spare held fuel 23 cs = some x) : ∃ (l : Row) (c : Value), cs = [c] ∧ RD w (fun b => b < w.heap.size) (.lst l.c) c ∧ ((x.1.weights Tryz.prog 23).all (· ≤ reachBytes) = true → l.length * 32 ≤ reachBytes) := by
  obtain ⟨l, c, h1, h2, h3⟩ := open_lst Val.c (fun _ => True) under23 cells32 (by decide) (fun _ _ _ h => open_val h) h
  exact ⟨l, c, h1, h2, fun hw => by have := (h3 hw).2; rwa [bytes32] at this⟩
def rowFits (c : Chg) : Prop := c.r.length * 32 ≤ reachBytes
theorem open_chg (h : DataW.trod enc Tryz.prog w base spare held fuel 25 cs = some x) : ∃ y : Chg, (chc y).length = 3 ∧ RDs w (chc y) cs ∧ ((x.1.weights Tryz.prog 25).all (· ≤ reachBytes) = true → rowFits y) := by
  obtain ⟨y0, y1, y2, n, rfl, hl, h0, h1, h2⟩ := trod_struct3 Tryz.underlying25 h
  obtain ⟨s, e0, -, -⟩ := DataW.trod_string Tryz.underlying9 h0
  obtain ⟨r, v, e1, hr, hw⟩ := open_row h1
  obtain ⟨b, e2, -⟩ := DataW.trod_bool Tryz.underlying4 h2
  simp only [cells4, cells9, cells23] at e0 e1 e2
  have f0 := take1 e0
  have f1 := take1 e1
  have f2 := take1 e2
  rw [cells25] at hl
  refine ⟨⟨s, r, b⟩, rfl, ⟨by rw [hl]; rfl, fun k d c hd hc => ?_⟩, fun hall => hw ?_⟩
  · match k, hd with
    | 0, hd => rw [f0] at hc; injection hc with hc; subst hc; injection hd with hd; subst hd; exact .str _
    | 1, hd => rw [f1] at hc; injection hc with hc; subst hc; injection hd with hd; subst hd; exact hr
    | 2, hd => rw [f2] at hc; injection hc with hc; subst hc; injection hd with hd; subst hd; exact .bool _
    | k + 3, hd => simp [chc] at hd
  · rw [List.all_eq_true] at hall ⊢
    intro m hm
    refine hall m ?_
    simp only [DataW.weights, Tryz.underlying25, List.map_cons, List.map_nil, DataW.weightsEach, List.mem_append]
    exact .inr (.inl hm)
theorem open_chgs (h : DataW.trod enc Tryz.prog w base spare held fuel 30 cs = some x) : ∃ (l : List Chg) (c : Value), cs = [c] ∧ RD w (fun b => b < w.heap.size) (.lst (chsc l)) c ∧ ((x.1.weights Tryz.prog 30).all (· ≤ reachBytes) = true → ∀ y ∈ l, rowFits y) := by
  obtain ⟨l, c, h1, h2, h3⟩ := open_lst chc rowFits Tryz.underlying30 cells25 (by decide) (fun _ _ _ h => open_chg h) h
  exact ⟨l, c, h1, h2, fun hw => (h3 hw).1⟩
theorem open_tms (h : DataW.trod enc Tryz.prog w base spare held fuel 47 cs = some x) : ∃ (l : List Bool) (c : Value), cs = [c] ∧ RD w (fun b => b < w.heap.size) (.lst (bc l)) c := by
  obtain ⟨l, c, h1, h2, h3⟩ := open_lst (fun b : Bool => [D.bool b]) (fun _ => True) Tryz.underlying47 cells4 (by decide) (fun fuel cs x h => by
    obtain ⟨b, rfl, -⟩ := DataW.trod_bool Tryz.underlying4 h
    refine ⟨b, rfl, ⟨rfl, fun k d c hd hc => ?_⟩, fun _ => trivial⟩
    match k, hd, hc with
    | 0, hd, hc => injection hc with hc; subst hc; injection hd with hd; subst hd; exact .bool _
    | k + 1, hd, hc => simp at hd) h
  exact ⟨l, c, h1, h2⟩
end
end Go.Vm.B
namespace Go.Vm.B
open Go.Proofs Go.Vm Go.Fl
theorem good_tryz : Good Tryz.prog E0 where
  i := Tryz.underlying2
  f := Tryz.underlying71
  tr d n hn := trunc_run Tryz.prog (fun ts ty n hn h => scal_trunc h hn) d n hn
theorem pr_program {α : Type} {P : Program} (f : Program → Sem α) : pureRun P (program >>= f) = pureRun P (f P) := by
  rw [pureRun_bind]; rfl
theorem guard32 : Tryz.prog.eqGuardType Tryz.prog.depth 32 = false := by kernel_rfl
theorem guard74 : Tryz.prog.eqGuardType Tryz.prog.depth 74 = false := by kernel_rfl
theorem stood32 : Tryz.prog.stoodInHeld 32 = false := by kernel_rfl
theorem stood74 : Tryz.prog.stoodInHeld 74 = false := by kernel_rfl
theorem eq_int (d : Nat) (t : TypeId) (h : Tryz.prog.underlying t = some (.int .i64)) (a : Int) : pureRun Tryz.prog (Op.equalIn (d + 1) t (.int .i64 a) (.int .i64 a)) = some true := by
  unfold Op.equalIn
  rw [pureRun_bind, pureRun_underlying h]
  simp [pureRun, pure]
theorem eq_str (d : Nat) (s : ByteArray) : pureRun Tryz.prog (Op.equalIn (d + 1) 9 (.string s) (.string s)) = some true := by
  unfold Op.equalIn
  rw [pureRun_bind, pureRun_underlying Tryz.underlying9]
  have hs : (s == s) = true := by
    first | exact beq_self_eq_true s | (exact decide_eq_true rfl) | (show (s.data == s.data) = true; exact beq_self_eq_true s.data)
  simp [pureRun, pure, hs]
theorem agg2 : pureRun Tryz.prog (isAgg 2) = some false := by kernel_rfl
theorem agg3 : pureRun Tryz.prog (isAgg 3) = some false := by kernel_rfl
theorem agg9 : pureRun Tryz.prog (isAgg 9) = some false := by kernel_rfl
theorem part_of {t : TypeId} (h : pureRun Tryz.prog (isAgg t) = some false) (cs : Array Value) (off : Nat) (v : Value) (hv : cs[off]? = some v) : pureRun Tryz.prog (part t cs off) = some v := by
  unfold part
  rw [pureRun_bind, h]
  simp [hv, pureRun, pure]
theorem pr_pure {α : Type} (a : α) : pureRun Tryz.prog (pure a) = some a := rfl
theorem eq_val (d : Nat) (v : Val) : pureRun Tryz.prog (Op.equalIn (d + 2) 32 (.agg #[.int .i64 v.k, .int .i64 v.n, .string v.s]) (.agg #[.int .i64 v.k, .int .i64 v.n, .string v.s])) = some true := by
  have p0 := part_of agg3 #[.int .i64 v.k, .int .i64 v.n, .string v.s] 0 (.int .i64 v.k) rfl
  have p1 := part_of agg2 #[.int .i64 v.k, .int .i64 v.n, .string v.s] 1 (.int .i64 v.n) rfl
  have p2 := part_of agg9 #[.int .i64 v.k, .int .i64 v.n, .string v.s] 2 (.string v.s) rfl
  have e0 := eq_int d 3 Tryz.underlying3 v.k
  have e1 := eq_int d 2 Tryz.underlying2 v.n
  have e2 := eq_str d v.s
  unfold Op.equalIn
  rw [pureRun_bind, pureRun_underlying Tryz.underlying32]
  simp only [Option.bind_some]
  rw [pr_program, stood32]
  simp [pureRun_bind, pr_pure, p0, p1, p2, e0, e1, e2]
theorem eq_col (d : Nat) (v : Col) : pureRun Tryz.prog (Op.equalIn (d + 2) 74 (.agg #[.string v.1, .int .i64 v.2]) (.agg #[.string v.1, .int .i64 v.2])) = some true := by
  have p0 := part_of agg9 #[.string v.1, .int .i64 v.2] 0 (.string v.1) rfl
  have p1 := part_of agg3 #[.string v.1, .int .i64 v.2] 1 (.int .i64 v.2) rfl
  have e0 := eq_str d v.1
  have e1 := eq_int d 3 Tryz.underlying3 v.2
  unfold Op.equalIn
  rw [pureRun_bind, pureRun_underlying Tryz.underlying74]
  simp only [Option.bind_some]
  rw [pr_program, stood74]
  simp [pureRun_bind, pr_pure, p0, p1, e0, e1]
theorem scal_neq {t : TypeId} {c : Array Value} (hg : Tryz.prog.eqGuardType Tryz.prog.depth t = false) (he : pureRun Tryz.prog (Op.equal t (.agg c) (.agg c)) = some true) :
    pureRun Tryz.prog (do eqGuard .neq t (.tmp 0) (.tmp 1) (.agg c) (.agg c); binOp .neq t (.agg c) (.agg c)) = some (.bool false) := by
  rw [pureRun_bind]
  have h1 : pureRun Tryz.prog (eqGuard .neq t (.tmp 0) (.tmp 1) (.agg c) (.agg c)) = some () := by
    unfold eqGuard
    simp only [Bool.not_true, Bool.false_eq_true, if_false]
    rw [pr_program, pr_program, hg]
    rfl
  rw [h1]
  simp only [Option.bind_some]
  unfold binOp
  dsimp only
  rw [pureRun_bind, he]
  rfl
end Go.Vm.B
namespace Go.Vm.B
open Go.Proofs Go.Vm Go.Fl
theorem scal2_neq {t : TypeId} {cs : List V} {c : Array Value} (hc : V.val (.agg cs) = some (.agg c)) (hg : Tryz.prog.eqGuardType Tryz.prog.depth t = false) (he : pureRun Tryz.prog (Op.equal t (.agg c) (.agg c)) = some true) (t' ty : TypeId) :
    scal2 Tryz.prog (.binOp .neq t (.tmp 0) (.tmp 1) t') ty (.agg cs) (.agg cs) = some (.d (.bool false)) := by
  have e0 : evOpd [.agg cs, .agg cs] (.tmp 0) = some (.agg c) := hc
  have e1 : evOpd [.agg cs, .agg cs] (.tmp 1) = some (.agg c) := hc
  have hd : pureRun Tryz.prog (execOp (fun x => (evOpd [.agg cs, .agg cs] x).getD undef) { dst := none, op := .binOp .neq t (.tmp 0) (.tmp 1) t', type := ty, pos := "", after := #[], guard := none }) = some (.value (.bool false)) := by
    have := scal_neq hg he
    simp only [execOp]
    rw [pureRun_bind]
    simp only [e0, e1, Option.getD_some]
    rw [this]
    rfl
  unfold scal2 scal
  rw [if_pos (by simp [Op.operands, e0, e1]), hd]
  rfl
theorem cmp_tryz : Cmp Tryz.prog where
  c32 v := scal2_neq (c := #[.int .i64 v.k, .int .i64 v.n, .string v.s]) rfl guard32 (eq_val 9998 v) 32 4
  c74 v := scal2_neq (c := #[.string v.1, .int .i64 v.2]) rfl guard74 (eq_col 9998 v) 74 4
theorem mixed_tryz : Tryz.prog.follows .mixedOrders = true := by kernel_rfl
theorem sound0 : SoundEnv Tryz.prog E0 := by
  intro f args σ v σ' h
  simp [E0] at h
end Go.Vm.B
namespace Go.Vm.B
open Go.Proofs
theorem comp_of {P : Program} {fn : Func} {F : F} (h1 : (fn.name == "runtime.NumGoroutine") = false) (h2 : fn.body.bind (compCM P) = some F.body.strip) (h3 : fn.results.toList.mapM (compRes P) = some F.results) (h4 : fn.ntmps = F.ntmps) : Comp P fn F := by
  refine ⟨h1, ?_, h3, h4⟩
  cases hb : fn.body with
  | none => rw [hb] at h2; cases h2
  | some c => rw [hb] at h2; exact ⟨c, rfl, (compC_eq P c).trans h2⟩
theorem cond_or {α : Type} {b : Bool} {x y : Option α} {z : α} (h : (bif b then x else y) = some z) : x = some z ∨ y = some z := by
  cases b
  · exact Or.inr h
  · exact Or.inl h
def CompAt (f : FuncId) (F : F) : Prop := ∃ fn, Tryz.prog.funcs[f]? = some fn ∧ Comp Tryz.prog fn F
theorem leaf_of {f n : FuncId} {X G : F} {fn : Func} (hf : Tryz.prog.funcs[n]? = some fn) (hc : Comp Tryz.prog fn G) (h : (bif Nat.beq f n then some G else none) = some X) : CompAt f X := by
  cases hb : Nat.beq f n with
  | false => rw [hb] at h; cases h
  | true =>
    rw [hb] at h
    injection h with h
    subst h
    rw [Nat.eq_of_beq_eq_true hb]
    exact ⟨fn, hf, hc⟩
end Go.Vm.B
namespace Go.Vm.B
open Go.Proofs
theorem comp_2 : Comp Tryz.prog Tryz.f2 v2 := comp_of (by kernel_rfl) (by kernel_rfl) (by kernel_rfl) (by kernel_rfl)
theorem comp_3 : Comp Tryz.prog Tryz.f3 v3 := comp_of (by kernel_rfl) (by kernel_rfl) (by kernel_rfl) (by kernel_rfl)
theorem comp_4 : Comp Tryz.prog Tryz.f4 v4 := comp_of (by kernel_rfl) (by kernel_rfl) (by kernel_rfl) (by kernel_rfl)
theorem comp_5 : Comp Tryz.prog Tryz.f5 v5 := comp_of (by kernel_rfl) (by kernel_rfl) (by kernel_rfl) (by kernel_rfl)
theorem comp_6 : Comp Tryz.prog Tryz.f6 v6 := comp_of (by kernel_rfl) (by kernel_rfl) (by kernel_rfl) (by kernel_rfl)
theorem comp_7 : Comp Tryz.prog Tryz.f7 v7 := comp_of (by kernel_rfl) (by kernel_rfl) (by kernel_rfl) (by kernel_rfl)
theorem comp_8 : Comp Tryz.prog Tryz.f8 v8 := comp_of (by kernel_rfl) (by kernel_rfl) (by kernel_rfl) (by kernel_rfl)
theorem comp_9 : Comp Tryz.prog Tryz.f9 v9 := comp_of (by kernel_rfl) (by kernel_rfl) (by kernel_rfl) (by kernel_rfl)
theorem comp_10 : Comp Tryz.prog Tryz.f10 v10 := comp_of (by kernel_rfl) (by kernel_rfl) (by kernel_rfl) (by kernel_rfl)
theorem comp_11 : Comp Tryz.prog Tryz.f11 v11 := comp_of (by kernel_rfl) (by kernel_rfl) (by kernel_rfl) (by kernel_rfl)
end Go.Vm.B
namespace Go.Vm.B
open Go.Proofs
theorem comp_12 : Comp Tryz.prog Tryz.f12 v12 := comp_of (by kernel_rfl) (by kernel_rfl) (by kernel_rfl) (by kernel_rfl)
theorem comp_13 : Comp Tryz.prog Tryz.f13 v13 := comp_of (by kernel_rfl) (by kernel_rfl) (by kernel_rfl) (by kernel_rfl)
theorem comp_14 : Comp Tryz.prog Tryz.f14 v14 := comp_of (by kernel_rfl) (by kernel_rfl) (by kernel_rfl) (by kernel_rfl)
theorem comp_15 : Comp Tryz.prog Tryz.f15 v15 := comp_of (by kernel_rfl) (by kernel_rfl) (by kernel_rfl) (by kernel_rfl)
theorem comp_16 : Comp Tryz.prog Tryz.f16 v16 := comp_of (by kernel_rfl) (by kernel_rfl) (by kernel_rfl) (by kernel_rfl)
theorem comp_17 : Comp Tryz.prog Tryz.f17 v17 := comp_of (by kernel_rfl) (by kernel_rfl) (by kernel_rfl) (by kernel_rfl)
theorem comp_18 : Comp Tryz.prog Tryz.f18 v18 := comp_of (by kernel_rfl) (by kernel_rfl) (by kernel_rfl) (by kernel_rfl)
theorem comp_19 : Comp Tryz.prog Tryz.f19 v19 := comp_of (by kernel_rfl) (by kernel_rfl) (by kernel_rfl) (by kernel_rfl)
theorem comp_20 : Comp Tryz.prog Tryz.f20 v20 := comp_of (by kernel_rfl) (by kernel_rfl) (by kernel_rfl) (by kernel_rfl)
end Go.Vm.B
namespace Go.Vm.B
open Go.Proofs
theorem comp_21 : Comp Tryz.prog Tryz.f21 v21 := comp_of (by kernel_rfl) (by kernel_rfl) (by kernel_rfl) (by kernel_rfl)
theorem comp_22 : Comp Tryz.prog Tryz.f22 v22 := comp_of (by kernel_rfl) (by kernel_rfl) (by kernel_rfl) (by kernel_rfl)
theorem comp_23 : Comp Tryz.prog Tryz.f23 v23 := comp_of (by kernel_rfl) (by kernel_rfl) (by kernel_rfl) (by kernel_rfl)
theorem comp_24 : Comp Tryz.prog Tryz.f24 v24 := comp_of (by kernel_rfl) (by kernel_rfl) (by kernel_rfl) (by kernel_rfl)
theorem comp_25 : Comp Tryz.prog Tryz.f25 v25 := comp_of (by kernel_rfl) (by kernel_rfl) (by kernel_rfl) (by kernel_rfl)
theorem comp_26 : Comp Tryz.prog Tryz.f26 v26 := comp_of (by kernel_rfl) (by kernel_rfl) (by kernel_rfl) (by kernel_rfl)
theorem comp_27 : Comp Tryz.prog Tryz.f27 v27 := comp_of (by kernel_rfl) (by kernel_rfl) (by kernel_rfl) (by kernel_rfl)
theorem comp_28 : Comp Tryz.prog Tryz.f28 v28 := comp_of (by kernel_rfl) (by kernel_rfl) (by kernel_rfl) (by kernel_rfl)
theorem comp_29 : Comp Tryz.prog Tryz.f29 v29 := comp_of (by kernel_rfl) (by kernel_rfl) (by kernel_rfl) (by kernel_rfl)
theorem comp_30 : Comp Tryz.prog Tryz.f30 v30 := comp_of (by kernel_rfl) (by kernel_rfl) (by kernel_rfl) (by kernel_rfl)
theorem comp_31 : Comp Tryz.prog Tryz.f31 v31 := comp_of (by kernel_rfl) (by kernel_rfl) (by kernel_rfl) (by kernel_rfl)
theorem comp_32 : Comp Tryz.prog Tryz.f32 v32 := comp_of (by kernel_rfl) (by kernel_rfl) (by kernel_rfl) (by kernel_rfl)
theorem comp_33 : Comp Tryz.prog Tryz.f33 v33 := comp_of (by kernel_rfl) (by kernel_rfl) (by kernel_rfl) (by kernel_rfl)
theorem comp_34 : Comp Tryz.prog Tryz.f34 v34 := comp_of (by kernel_rfl) (by kernel_rfl) (by kernel_rfl) (by kernel_rfl)
theorem comp_35 : Comp Tryz.prog Tryz.f35 v35 := comp_of (by kernel_rfl) (by kernel_rfl) (by kernel_rfl) (by kernel_rfl)
theorem comp_36 : Comp Tryz.prog Tryz.f36 v36 := comp_of (by kernel_rfl) (by kernel_rfl) (by kernel_rfl) (by kernel_rfl)
end Go.Vm.B
namespace Go.Vm.B
open Go.Proofs
theorem comp_37 : Comp Tryz.prog Tryz.f37 v37 := comp_of (by kernel_rfl) (by kernel_rfl) (by kernel_rfl) (by kernel_rfl)
theorem comp_38 : Comp Tryz.prog Tryz.f38 v38 := comp_of (by kernel_rfl) (by kernel_rfl) (by kernel_rfl) (by kernel_rfl)
theorem comp_39 : Comp Tryz.prog Tryz.f39 v39 := comp_of (by kernel_rfl) (by kernel_rfl) (by kernel_rfl) (by kernel_rfl)
theorem comp_40 : Comp Tryz.prog Tryz.f40 v40 := comp_of (by kernel_rfl) (by kernel_rfl) (by kernel_rfl) (by kernel_rfl)
theorem comp_41 : Comp Tryz.prog Tryz.f41 v41 := comp_of (by kernel_rfl) (by kernel_rfl) (by kernel_rfl) (by kernel_rfl)
theorem comp_42 : Comp Tryz.prog Tryz.f42 v42 := comp_of (by kernel_rfl) (by kernel_rfl) (by kernel_rfl) (by kernel_rfl)
theorem comp_43 : Comp Tryz.prog Tryz.f43 v43 := comp_of (by kernel_rfl) (by kernel_rfl) (by kernel_rfl) (by kernel_rfl)
theorem comp_44 : Comp Tryz.prog Tryz.f44 v44 := comp_of (by kernel_rfl) (by kernel_rfl) (by kernel_rfl) (by kernel_rfl)
theorem comp_45 : Comp Tryz.prog Tryz.f45 v45 := comp_of (by kernel_rfl) (by kernel_rfl) (by kernel_rfl) (by kernel_rfl)
theorem comp_46 : Comp Tryz.prog Tryz.f46 v46 := comp_of (by kernel_rfl) (by kernel_rfl) (by kernel_rfl) (by kernel_rfl)
theorem comp_47 : Comp Tryz.prog Tryz.f47 v47 := comp_of (by kernel_rfl) (by kernel_rfl) (by kernel_rfl) (by kernel_rfl)
theorem comp_48 : Comp Tryz.prog Tryz.f48 v48 := comp_of (by kernel_rfl) (by kernel_rfl) (by kernel_rfl) (by kernel_rfl)
theorem comp_49 : Comp Tryz.prog Tryz.f49 v49 := comp_of (by kernel_rfl) (by kernel_rfl) (by kernel_rfl) (by kernel_rfl)
theorem comp_50 : Comp Tryz.prog Tryz.f50 v50 := comp_of (by kernel_rfl) (by kernel_rfl) (by kernel_rfl) (by kernel_rfl)
theorem comp_51 : Comp Tryz.prog Tryz.f51 v51 := comp_of (by kernel_rfl) (by kernel_rfl) (by kernel_rfl) (by kernel_rfl)
theorem comp_52 : Comp Tryz.prog Tryz.f52 v52 := comp_of (by kernel_rfl) (by kernel_rfl) (by kernel_rfl) (by kernel_rfl)
theorem comp_53 : Comp Tryz.prog Tryz.f53 v53 := comp_of (by kernel_rfl) (by kernel_rfl) (by kernel_rfl) (by kernel_rfl)
theorem comp_54 : Comp Tryz.prog Tryz.f54 v54 := comp_of (by kernel_rfl) (by kernel_rfl) (by kernel_rfl) (by kernel_rfl)
theorem comp_55 : Comp Tryz.prog Tryz.f55 v55 := comp_of (by kernel_rfl) (by kernel_rfl) (by kernel_rfl) (by kernel_rfl)
theorem comp_56 : Comp Tryz.prog Tryz.f56 v56 := comp_of (by kernel_rfl) (by kernel_rfl) (by kernel_rfl) (by kernel_rfl)
theorem comp_57 : Comp Tryz.prog Tryz.f57 v57 := comp_of (by kernel_rfl) (by kernel_rfl) (by kernel_rfl) (by kernel_rfl)
end Go.Vm.B
namespace Go.Vm.B
open Go.Proofs
theorem comp_58 : Comp Tryz.prog Tryz.f58 v58 := comp_of (by kernel_rfl) (by kernel_rfl) (by kernel_rfl) (by kernel_rfl)
theorem comp_59 : Comp Tryz.prog Tryz.f59 v59 := comp_of (by kernel_rfl) (by kernel_rfl) (by kernel_rfl) (by kernel_rfl)
theorem comp_60 : Comp Tryz.prog Tryz.f60 v60 := comp_of (by kernel_rfl) (by kernel_rfl) (by kernel_rfl) (by kernel_rfl)
theorem comp_61 : Comp Tryz.prog Tryz.f61 v61 := comp_of (by kernel_rfl) (by kernel_rfl) (by kernel_rfl) (by kernel_rfl)
theorem comp_62 : Comp Tryz.prog Tryz.f62 v62 := comp_of (by kernel_rfl) (by kernel_rfl) (by kernel_rfl) (by kernel_rfl)
theorem comp_63 : Comp Tryz.prog Tryz.f63 v63 := comp_of (by kernel_rfl) (by kernel_rfl) (by kernel_rfl) (by kernel_rfl)
theorem comp_64 : Comp Tryz.prog Tryz.f64 v64 := comp_of (by kernel_rfl) (by kernel_rfl) (by kernel_rfl) (by kernel_rfl)
theorem comp_65 : Comp Tryz.prog Tryz.f65 v65 := comp_of (by kernel_rfl) (by kernel_rfl) (by kernel_rfl) (by kernel_rfl)
theorem comp_66 : Comp Tryz.prog Tryz.f66 v66 := comp_of (by kernel_rfl) (by kernel_rfl) (by kernel_rfl) (by kernel_rfl)
theorem comp_67 : Comp Tryz.prog Tryz.f67 v67 := comp_of (by kernel_rfl) (by kernel_rfl) (by kernel_rfl) (by kernel_rfl)
theorem comp_68 : Comp Tryz.prog Tryz.f68 v68 := comp_of (by kernel_rfl) (by kernel_rfl) (by kernel_rfl) (by kernel_rfl)
theorem comp_69 : Comp Tryz.prog Tryz.f69 v69 := comp_of (by kernel_rfl) (by kernel_rfl) (by kernel_rfl) (by kernel_rfl)
theorem comp_70 : Comp Tryz.prog Tryz.f70 v70 := comp_of (by kernel_rfl) (by kernel_rfl) (by kernel_rfl) (by kernel_rfl)
theorem comp_71 : Comp Tryz.prog Tryz.f71 v71 := comp_of (by kernel_rfl) (by kernel_rfl) (by kernel_rfl) (by kernel_rfl)
theorem comp_72 : Comp Tryz.prog Tryz.f72 v72 := comp_of (by kernel_rfl) (by kernel_rfl) (by kernel_rfl) (by kernel_rfl)
theorem comp_73 : Comp Tryz.prog Tryz.f73 v73 := comp_of (by kernel_rfl) (by kernel_rfl) (by kernel_rfl) (by kernel_rfl)
theorem comp_74 : Comp Tryz.prog Tryz.f74 v74 := comp_of (by kernel_rfl) (by kernel_rfl) (by kernel_rfl) (by kernel_rfl)
end Go.Vm.B
namespace Go.Vm.B
open Go.Proofs
theorem comp_75 : Comp Tryz.prog Tryz.f75 v75 := comp_of (by kernel_rfl) (by kernel_rfl) (by kernel_rfl) (by kernel_rfl)
theorem comp_76 : Comp Tryz.prog Tryz.f76 v76 := comp_of (by kernel_rfl) (by kernel_rfl) (by kernel_rfl) (by kernel_rfl)
theorem comp_77 : Comp Tryz.prog Tryz.f77 v77 := comp_of (by kernel_rfl) (by kernel_rfl) (by kernel_rfl) (by kernel_rfl)
theorem comp_78 : Comp Tryz.prog Tryz.f78 v78 := comp_of (by kernel_rfl) (by kernel_rfl) (by kernel_rfl) (by kernel_rfl)
theorem comp_79 : Comp Tryz.prog Tryz.f79 v79 := comp_of (by kernel_rfl) (by kernel_rfl) (by kernel_rfl) (by kernel_rfl)
theorem comp_80 : Comp Tryz.prog Tryz.f80 v80 := comp_of (by kernel_rfl) (by kernel_rfl) (by kernel_rfl) (by kernel_rfl)
theorem comp_81 : Comp Tryz.prog Tryz.f81 v81 := comp_of (by kernel_rfl) (by kernel_rfl) (by kernel_rfl) (by kernel_rfl)
theorem comp_82 : Comp Tryz.prog Tryz.f82 v82 := comp_of (by kernel_rfl) (by kernel_rfl) (by kernel_rfl) (by kernel_rfl)
theorem comp_83 : Comp Tryz.prog Tryz.f83 v83 := comp_of (by kernel_rfl) (by kernel_rfl) (by kernel_rfl) (by kernel_rfl)
theorem comp_84 : Comp Tryz.prog Tryz.f84 v84 := comp_of (by kernel_rfl) (by kernel_rfl) (by kernel_rfl) (by kernel_rfl)
theorem comp_85 : Comp Tryz.prog Tryz.f85 v85 := comp_of (by kernel_rfl) (by kernel_rfl) (by kernel_rfl) (by kernel_rfl)
theorem comp_86 : Comp Tryz.prog Tryz.f86 v86 := comp_of (by kernel_rfl) (by kernel_rfl) (by kernel_rfl) (by kernel_rfl)
theorem comp_87 : Comp Tryz.prog Tryz.f87 v87 := comp_of (by kernel_rfl) (by kernel_rfl) (by kernel_rfl) (by kernel_rfl)
theorem comp_88 : Comp Tryz.prog Tryz.f88 v88 := comp_of (by kernel_rfl) (by kernel_rfl) (by kernel_rfl) (by kernel_rfl)
theorem comp_89 : Comp Tryz.prog Tryz.f89 v89 := comp_of (by kernel_rfl) (by kernel_rfl) (by kernel_rfl) (by kernel_rfl)
theorem comp_90 : Comp Tryz.prog Tryz.f90 v90 := comp_of (by kernel_rfl) (by kernel_rfl) (by kernel_rfl) (by kernel_rfl)
end Go.Vm.B
namespace Go.Vm.B
open Go.Proofs
theorem comp_91 : Comp Tryz.prog Tryz.f91 v91 := comp_of (by kernel_rfl) (by kernel_rfl) (by kernel_rfl) (by kernel_rfl)
theorem comp_92 : Comp Tryz.prog Tryz.f92 v92 := comp_of (by kernel_rfl) (by kernel_rfl) (by kernel_rfl) (by kernel_rfl)
theorem comp_93 : Comp Tryz.prog Tryz.f93 v93 := comp_of (by kernel_rfl) (by kernel_rfl) (by kernel_rfl) (by kernel_rfl)
theorem comp_94 : Comp Tryz.prog Tryz.f94 v94 := comp_of (by kernel_rfl) (by kernel_rfl) (by kernel_rfl) (by kernel_rfl)
theorem comp_95 : Comp Tryz.prog Tryz.f95 v95 := comp_of (by kernel_rfl) (by kernel_rfl) (by kernel_rfl) (by kernel_rfl)
end Go.Vm.B
namespace Go.Vm.B
open Go.Proofs
theorem comp_96 : Comp Tryz.prog Tryz.f96 v96 := comp_of (by kernel_rfl) (by kernel_rfl) (by kernel_rfl) (by kernel_rfl)
theorem comp_97 : Comp Tryz.prog Tryz.f97 v97 := comp_of (by kernel_rfl) (by kernel_rfl) (by kernel_rfl) (by kernel_rfl)
theorem comp_98 : Comp Tryz.prog Tryz.f98 v98 := comp_of (by kernel_rfl) (by kernel_rfl) (by kernel_rfl) (by kernel_rfl)
theorem comp_99 : Comp Tryz.prog Tryz.f99 v99 := comp_of (by kernel_rfl) (by kernel_rfl) (by kernel_rfl) (by kernel_rfl)
theorem comp_100 : Comp Tryz.prog Tryz.f100 v100 := comp_of (by kernel_rfl) (by kernel_rfl) (by kernel_rfl) (by kernel_rfl)
theorem comp_101 : Comp Tryz.prog Tryz.f101 v101 := comp_of (by kernel_rfl) (by kernel_rfl) (by kernel_rfl) (by kernel_rfl)
theorem comp_102 : Comp Tryz.prog Tryz.f102 v102 := comp_of (by kernel_rfl) (by kernel_rfl) (by kernel_rfl) (by kernel_rfl)
theorem comp_103 : Comp Tryz.prog Tryz.f103 v103 := comp_of (by kernel_rfl) (by kernel_rfl) (by kernel_rfl) (by kernel_rfl)
theorem comp_104 : Comp Tryz.prog Tryz.f104 v104 := comp_of (by kernel_rfl) (by kernel_rfl) (by kernel_rfl) (by kernel_rfl)
theorem comp_105 : Comp Tryz.prog Tryz.f105 v105 := comp_of (by kernel_rfl) (by kernel_rfl) (by kernel_rfl) (by kernel_rfl)
theorem comp_106 : Comp Tryz.prog Tryz.f106 v106 := comp_of (by kernel_rfl) (by kernel_rfl) (by kernel_rfl) (by kernel_rfl)
theorem comp_107 : Comp Tryz.prog Tryz.f107 v107 := comp_of (by kernel_rfl) (by kernel_rfl) (by kernel_rfl) (by kernel_rfl)
theorem comp_108 : Comp Tryz.prog Tryz.f108 v108 := comp_of (by kernel_rfl) (by kernel_rfl) (by kernel_rfl) (by kernel_rfl)
theorem comp_109 : Comp Tryz.prog Tryz.f109 v109 := comp_of (by kernel_rfl) (by kernel_rfl) (by kernel_rfl) (by kernel_rfl)
theorem comp_110 : Comp Tryz.prog Tryz.f110 v110 := comp_of (by kernel_rfl) (by kernel_rfl) (by kernel_rfl) (by kernel_rfl)
theorem comp_111 : Comp Tryz.prog Tryz.f111 v111 := comp_of (by kernel_rfl) (by kernel_rfl) (by kernel_rfl) (by kernel_rfl)
theorem comp_112 : Comp Tryz.prog Tryz.f112 v112 := comp_of (by kernel_rfl) (by kernel_rfl) (by kernel_rfl) (by kernel_rfl)
theorem comp_113 : Comp Tryz.prog Tryz.f113 v113 := comp_of (by kernel_rfl) (by kernel_rfl) (by kernel_rfl) (by kernel_rfl)
theorem comp_114 : Comp Tryz.prog Tryz.f114 v114 := comp_of (by kernel_rfl) (by kernel_rfl) (by kernel_rfl) (by kernel_rfl)
theorem comp_115 : Comp Tryz.prog Tryz.f115 v115 := comp_of (by kernel_rfl) (by kernel_rfl) (by kernel_rfl) (by kernel_rfl)
theorem comp_116 : Comp Tryz.prog Tryz.f116 v116 := comp_of (by kernel_rfl) (by kernel_rfl) (by kernel_rfl) (by kernel_rfl)
end Go.Vm.B
namespace Go.Vm.B
open Go.Proofs
theorem comp_117 : Comp Tryz.prog Tryz.f117 v117 := comp_of (by kernel_rfl) (by kernel_rfl) (by kernel_rfl) (by kernel_rfl)
theorem comp_118 : Comp Tryz.prog Tryz.f118 v118 := comp_of (by kernel_rfl) (by kernel_rfl) (by kernel_rfl) (by kernel_rfl)
theorem comp_119 : Comp Tryz.prog Tryz.f119 v119 := comp_of (by kernel_rfl) (by kernel_rfl) (by kernel_rfl) (by kernel_rfl)
theorem comp_120 : Comp Tryz.prog Tryz.f120 v120 := comp_of (by kernel_rfl) (by kernel_rfl) (by kernel_rfl) (by kernel_rfl)
theorem comp_121 : Comp Tryz.prog Tryz.f121 v121 := comp_of (by kernel_rfl) (by kernel_rfl) (by kernel_rfl) (by kernel_rfl)
theorem comp_122 : Comp Tryz.prog Tryz.f122 v122 := comp_of (by kernel_rfl) (by kernel_rfl) (by kernel_rfl) (by kernel_rfl)
theorem comp_123 : Comp Tryz.prog Tryz.f123 v123 := comp_of (by kernel_rfl) (by kernel_rfl) (by kernel_rfl) (by kernel_rfl)
theorem comp_124 : Comp Tryz.prog Tryz.f124 v124 := comp_of (by kernel_rfl) (by kernel_rfl) (by kernel_rfl) (by kernel_rfl)
theorem comp_125 : Comp Tryz.prog Tryz.f125 v125 := comp_of (by kernel_rfl) (by kernel_rfl) (by kernel_rfl) (by kernel_rfl)
theorem comp_126 : Comp Tryz.prog Tryz.f126 v126 := comp_of (by kernel_rfl) (by kernel_rfl) (by kernel_rfl) (by kernel_rfl)
theorem comp_127 : Comp Tryz.prog Tryz.f127 v127 := comp_of (by kernel_rfl) (by kernel_rfl) (by kernel_rfl) (by kernel_rfl)
theorem comp_128 : Comp Tryz.prog Tryz.f128 v128 := comp_of (by kernel_rfl) (by kernel_rfl) (by kernel_rfl) (by kernel_rfl)
theorem comp_129 : Comp Tryz.prog Tryz.f129 v129 := comp_of (by kernel_rfl) (by kernel_rfl) (by kernel_rfl) (by kernel_rfl)
theorem comp_130 : Comp Tryz.prog Tryz.f130 v130 := comp_of (by kernel_rfl) (by kernel_rfl) (by kernel_rfl) (by kernel_rfl)
theorem comp_131 : Comp Tryz.prog Tryz.f131 v131 := comp_of (by kernel_rfl) (by kernel_rfl) (by kernel_rfl) (by kernel_rfl)
theorem comp_132 : Comp Tryz.prog Tryz.f132 v132 := comp_of (by kernel_rfl) (by kernel_rfl) (by kernel_rfl) (by kernel_rfl)
theorem comp_133 : Comp Tryz.prog Tryz.f133 v133 := comp_of (by kernel_rfl) (by kernel_rfl) (by kernel_rfl) (by kernel_rfl)
theorem comp_134 : Comp Tryz.prog Tryz.f134 v134 := comp_of (by kernel_rfl) (by kernel_rfl) (by kernel_rfl) (by kernel_rfl)
theorem comp_135 : Comp Tryz.prog Tryz.f135 v135 := comp_of (by kernel_rfl) (by kernel_rfl) (by kernel_rfl) (by kernel_rfl)
theorem comp_136 : Comp Tryz.prog Tryz.f136 v136 := comp_of (by kernel_rfl) (by kernel_rfl) (by kernel_rfl) (by kernel_rfl)
end Go.Vm.B
namespace Go.Vm.B
open Go.Proofs
theorem comp_138 : Comp Tryz.prog Tryz.f138 v138 := comp_of (by kernel_rfl) (by kernel_rfl) (by kernel_rfl) (by kernel_rfl)
theorem comp_139 : Comp Tryz.prog Tryz.f139 v139 := comp_of (by kernel_rfl) (by kernel_rfl) (by kernel_rfl) (by kernel_rfl)
theorem comp_140 : Comp Tryz.prog Tryz.f140 v140 := comp_of (by kernel_rfl) (by kernel_rfl) (by kernel_rfl) (by kernel_rfl)
theorem comp_141 : Comp Tryz.prog Tryz.f141 v141 := comp_of (by kernel_rfl) (by kernel_rfl) (by kernel_rfl) (by kernel_rfl)
theorem comp_144 : Comp Tryz.prog Tryz.f144 v144 := comp_of (by kernel_rfl) (by kernel_rfl) (by kernel_rfl) (by kernel_rfl)
end Go.Vm.B
namespace Go.Vm.B
open Go.Proofs
set_option maxRecDepth 100000 in
theorem comp_all (f : FuncId) (F : F) (h : T f = some F) : CompAt f F := by
  unfold T at h
  exact (cond_or h).elim (fun h => (cond_or h).elim (fun h => (cond_or h).elim (fun h => (cond_or h).elim (fun h => (cond_or h).elim (fun h => (cond_or h).elim (fun h => (cond_or h).elim (fun h => (leaf_of Tryz.func2 comp_2 h)) (fun h => (leaf_of Tryz.func3 comp_3 h))) (fun h => (cond_or h).elim (fun h => (leaf_of Tryz.func4 comp_4 h)) (fun h => (leaf_of Tryz.func5 comp_5 h)))) (fun h => (cond_or h).elim (fun h => (cond_or h).elim (fun h => (leaf_of Tryz.func6 comp_6 h)) (fun h => (leaf_of Tryz.func7 comp_7 h))) (fun h => (cond_or h).elim (fun h => (leaf_of Tryz.func8 comp_8 h)) (fun h => (leaf_of Tryz.func9 comp_9 h))))) (fun h => (cond_or h).elim (fun h => (cond_or h).elim (fun h => (cond_or h).elim (fun h => (leaf_of Tryz.func10 comp_10 h)) (fun h => (leaf_of Tryz.func11 comp_11 h))) (fun h => (cond_or h).elim (fun h => (leaf_of Tryz.func12 comp_12 h)) (fun h => (leaf_of Tryz.func13 comp_13 h)))) (fun h => (cond_or h).elim (fun h => (cond_or h).elim (fun h => (leaf_of Tryz.func14 comp_14 h)) (fun h => (leaf_of Tryz.func15 comp_15 h))) (fun h => (cond_or h).elim (fun h => (leaf_of Tryz.func16 comp_16 h)) (fun h => (cond_or h).elim (fun h => (leaf_of Tryz.func17 comp_17 h)) (fun h => (leaf_of Tryz.func18 comp_18 h))))))) (fun h => (cond_or h).elim (fun h => (cond_or h).elim (fun h => (cond_or h).elim (fun h => (cond_or h).elim (fun h => (leaf_of Tryz.func19 comp_19 h)) (fun h => (leaf_of Tryz.func20 comp_20 h))) (fun h => (cond_or h).elim (fun h => (leaf_of Tryz.func21 comp_21 h)) (fun h => (leaf_of Tryz.func22 comp_22 h)))) (fun h => (cond_or h).elim (fun h => (cond_or h).elim (fun h => (leaf_of Tryz.func23 comp_23 h)) (fun h => (leaf_of Tryz.func24 comp_24 h))) (fun h => (cond_or h).elim (fun h => (leaf_of Tryz.func25 comp_25 h)) (fun h => (cond_or h).elim (fun h => (leaf_of Tryz.func26 comp_26 h)) (fun h => (leaf_of Tryz.func27 comp_27 h)))))) (fun h => (cond_or h).elim (fun h => (cond_or h).elim (fun h => (cond_or h).elim (fun h => (leaf_of Tryz.func28 comp_28 h)) (fun h => (leaf_of Tryz.func29 comp_29 h))) (fun h => (cond_or h).elim (fun h => (leaf_of Tryz.func30 comp_30 h)) (fun h => (leaf_of Tryz.func31 comp_31 h)))) (fun h => (cond_or h).elim (fun h => (cond_or h).elim (fun h => (leaf_of Tryz.func32 comp_32 h)) (fun h => (leaf_of Tryz.func33 comp_33 h))) (fun h => (cond_or h).elim (fun h => (leaf_of Tryz.func34 comp_34 h)) (fun h => (cond_or h).elim (fun h => (leaf_of Tryz.func35 comp_35 h)) (fun h => (leaf_of Tryz.func36 comp_36 h)))))))) (fun h => (cond_or h).elim (fun h => (cond_or h).elim (fun h => (cond_or h).elim (fun h => (cond_or h).elim (fun h => (cond_or h).elim (fun h => (leaf_of Tryz.func37 comp_37 h)) (fun h => (leaf_of Tryz.func38 comp_38 h))) (fun h => (cond_or h).elim (fun h => (leaf_of Tryz.func39 comp_39 h)) (fun h => (leaf_of Tryz.func40 comp_40 h)))) (fun h => (cond_or h).elim (fun h => (cond_or h).elim (fun h => (leaf_of Tryz.func41 comp_41 h)) (fun h => (leaf_of Tryz.func42 comp_42 h))) (fun h => (cond_or h).elim (fun h => (leaf_of Tryz.func43 comp_43 h)) (fun h => (leaf_of Tryz.func44 comp_44 h))))) (fun h => (cond_or h).elim (fun h => (cond_or h).elim (fun h => (cond_or h).elim (fun h => (leaf_of Tryz.func45 comp_45 h)) (fun h => (leaf_of Tryz.func46 comp_46 h))) (fun h => (cond_or h).elim (fun h => (leaf_of Tryz.func47 comp_47 h)) (fun h => (leaf_of Tryz.func48 comp_48 h)))) (fun h => (cond_or h).elim (fun h => (cond_or h).elim (fun h => (leaf_of Tryz.func49 comp_49 h)) (fun h => (leaf_of Tryz.func50 comp_50 h))) (fun h => (cond_or h).elim (fun h => (leaf_of Tryz.func51 comp_51 h)) (fun h => (cond_or h).elim (fun h => (leaf_of Tryz.func52 comp_52 h)) (fun h => (leaf_of Tryz.func53 comp_53 h))))))) (fun h => (cond_or h).elim (fun h => (cond_or h).elim (fun h => (cond_or h).elim (fun h => (cond_or h).elim (fun h => (leaf_of Tryz.func54 comp_54 h)) (fun h => (leaf_of Tryz.func55 comp_55 h))) (fun h => (cond_or h).elim (fun h => (leaf_of Tryz.func56 comp_56 h)) (fun h => (leaf_of Tryz.func57 comp_57 h)))) (fun h => (cond_or h).elim (fun h => (cond_or h).elim (fun h => (leaf_of Tryz.func58 comp_58 h)) (fun h => (leaf_of Tryz.func59 comp_59 h))) (fun h => (cond_or h).elim (fun h => (leaf_of Tryz.func60 comp_60 h)) (fun h => (cond_or h).elim (fun h => (leaf_of Tryz.func61 comp_61 h)) (fun h => (leaf_of Tryz.func62 comp_62 h)))))) (fun h => (cond_or h).elim (fun h => (cond_or h).elim (fun h => (cond_or h).elim (fun h => (leaf_of Tryz.func63 comp_63 h)) (fun h => (leaf_of Tryz.func64 comp_64 h))) (fun h => (cond_or h).elim (fun h => (leaf_of Tryz.func65 comp_65 h)) (fun h => (leaf_of Tryz.func66 comp_66 h)))) (fun h => (cond_or h).elim (fun h => (cond_or h).elim (fun h => (leaf_of Tryz.func67 comp_67 h)) (fun h => (leaf_of Tryz.func68 comp_68 h))) (fun h => (cond_or h).elim (fun h => (leaf_of Tryz.func69 comp_69 h)) (fun h => (cond_or h).elim (fun h => (leaf_of Tryz.func70 comp_70 h)) (fun h => (leaf_of Tryz.func71 comp_71 h))))))))) (fun h => (cond_or h).elim (fun h => (cond_or h).elim (fun h => (cond_or h).elim (fun h => (cond_or h).elim (fun h => (cond_or h).elim (fun h => (cond_or h).elim (fun h => (leaf_of Tryz.func72 comp_72 h)) (fun h => (leaf_of Tryz.func73 comp_73 h))) (fun h => (cond_or h).elim (fun h => (leaf_of Tryz.func74 comp_74 h)) (fun h => (leaf_of Tryz.func75 comp_75 h)))) (fun h => (cond_or h).elim (fun h => (cond_or h).elim (fun h => (leaf_of Tryz.func76 comp_76 h)) (fun h => (leaf_of Tryz.func77 comp_77 h))) (fun h => (cond_or h).elim (fun h => (leaf_of Tryz.func78 comp_78 h)) (fun h => (leaf_of Tryz.func79 comp_79 h))))) (fun h => (cond_or h).elim (fun h => (cond_or h).elim (fun h => (cond_or h).elim (fun h => (leaf_of Tryz.func80 comp_80 h)) (fun h => (leaf_of Tryz.func81 comp_81 h))) (fun h => (cond_or h).elim (fun h => (leaf_of Tryz.func82 comp_82 h)) (fun h => (leaf_of Tryz.func83 comp_83 h)))) (fun h => (cond_or h).elim (fun h => (cond_or h).elim (fun h => (leaf_of Tryz.func84 comp_84 h)) (fun h => (leaf_of Tryz.func85 comp_85 h))) (fun h => (cond_or h).elim (fun h => (leaf_of Tryz.func86 comp_86 h)) (fun h => (cond_or h).elim (fun h => (leaf_of Tryz.func87 comp_87 h)) (fun h => (leaf_of Tryz.func88 comp_88 h))))))) (fun h => (cond_or h).elim (fun h => (cond_or h).elim (fun h => (cond_or h).elim (fun h => (cond_or h).elim (fun h => (leaf_of Tryz.func89 comp_89 h)) (fun h => (leaf_of Tryz.func90 comp_90 h))) (fun h => (cond_or h).elim (fun h => (leaf_of Tryz.func91 comp_91 h)) (fun h => (leaf_of Tryz.func92 comp_92 h)))) (fun h => (cond_or h).elim (fun h => (cond_or h).elim (fun h => (leaf_of Tryz.func93 comp_93 h)) (fun h => (leaf_of Tryz.func94 comp_94 h))) (fun h => (cond_or h).elim (fun h => (leaf_of Tryz.func95 comp_95 h)) (fun h => (cond_or h).elim (fun h => (leaf_of Tryz.func96 comp_96 h)) (fun h => (leaf_of Tryz.func97 comp_97 h)))))) (fun h => (cond_or h).elim (fun h => (cond_or h).elim (fun h => (cond_or h).elim (fun h => (leaf_of Tryz.func98 comp_98 h)) (fun h => (leaf_of Tryz.func99 comp_99 h))) (fun h => (cond_or h).elim (fun h => (leaf_of Tryz.func100 comp_100 h)) (fun h => (leaf_of Tryz.func101 comp_101 h)))) (fun h => (cond_or h).elim (fun h => (cond_or h).elim (fun h => (leaf_of Tryz.func102 comp_102 h)) (fun h => (leaf_of Tryz.func103 comp_103 h))) (fun h => (cond_or h).elim (fun h => (leaf_of Tryz.func104 comp_104 h)) (fun h => (cond_or h).elim (fun h => (leaf_of Tryz.func105 comp_105 h)) (fun h => (leaf_of Tryz.func106 comp_106 h)))))))) (fun h => (cond_or h).elim (fun h => (cond_or h).elim (fun h => (cond_or h).elim (fun h => (cond_or h).elim (fun h => (cond_or h).elim (fun h => (leaf_of Tryz.func107 comp_107 h)) (fun h => (leaf_of Tryz.func108 comp_108 h))) (fun h => (cond_or h).elim (fun h => (leaf_of Tryz.func109 comp_109 h)) (fun h => (leaf_of Tryz.func110 comp_110 h)))) (fun h => (cond_or h).elim (fun h => (cond_or h).elim (fun h => (leaf_of Tryz.func111 comp_111 h)) (fun h => (leaf_of Tryz.func112 comp_112 h))) (fun h => (cond_or h).elim (fun h => (leaf_of Tryz.func113 comp_113 h)) (fun h => (leaf_of Tryz.func114 comp_114 h))))) (fun h => (cond_or h).elim (fun h => (cond_or h).elim (fun h => (cond_or h).elim (fun h => (leaf_of Tryz.func115 comp_115 h)) (fun h => (leaf_of Tryz.func116 comp_116 h))) (fun h => (cond_or h).elim (fun h => (leaf_of Tryz.func117 comp_117 h)) (fun h => (leaf_of Tryz.func118 comp_118 h)))) (fun h => (cond_or h).elim (fun h => (cond_or h).elim (fun h => (leaf_of Tryz.func119 comp_119 h)) (fun h => (leaf_of Tryz.func120 comp_120 h))) (fun h => (cond_or h).elim (fun h => (leaf_of Tryz.func121 comp_121 h)) (fun h => (cond_or h).elim (fun h => (leaf_of Tryz.func122 comp_122 h)) (fun h => (leaf_of Tryz.func123 comp_123 h))))))) (fun h => (cond_or h).elim (fun h => (cond_or h).elim (fun h => (cond_or h).elim (fun h => (cond_or h).elim (fun h => (leaf_of Tryz.func124 comp_124 h)) (fun h => (leaf_of Tryz.func125 comp_125 h))) (fun h => (cond_or h).elim (fun h => (leaf_of Tryz.func126 comp_126 h)) (fun h => (leaf_of Tryz.func127 comp_127 h)))) (fun h => (cond_or h).elim (fun h => (cond_or h).elim (fun h => (leaf_of Tryz.func128 comp_128 h)) (fun h => (leaf_of Tryz.func129 comp_129 h))) (fun h => (cond_or h).elim (fun h => (leaf_of Tryz.func130 comp_130 h)) (fun h => (cond_or h).elim (fun h => (leaf_of Tryz.func131 comp_131 h)) (fun h => (leaf_of Tryz.func132 comp_132 h)))))) (fun h => (cond_or h).elim (fun h => (cond_or h).elim (fun h => (cond_or h).elim (fun h => (leaf_of Tryz.func133 comp_133 h)) (fun h => (leaf_of Tryz.func134 comp_134 h))) (fun h => (cond_or h).elim (fun h => (leaf_of Tryz.func135 comp_135 h)) (fun h => (leaf_of Tryz.func136 comp_136 h)))) (fun h => (cond_or h).elim (fun h => (cond_or h).elim (fun h => (leaf_of Tryz.func138 comp_138 h)) (fun h => (leaf_of Tryz.func139 comp_139 h))) (fun h => (cond_or h).elim (fun h => (leaf_of Tryz.func140 comp_140 h)) (fun h => (cond_or h).elim (fun h => (leaf_of Tryz.func141 comp_141 h)) (fun h => (leaf_of Tryz.func144 comp_144 h)))))))))
end Go.Vm.B
