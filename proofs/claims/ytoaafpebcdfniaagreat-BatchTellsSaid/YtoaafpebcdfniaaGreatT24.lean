/- BatchTells: for every argument the law answers true, and what it was handed reads as before. Conditions: none beyond the row's own reach. -/
import Derived.Test.YtoaafpebcdfniaaGreatT23
import Derived.Test.YtoaafpebcdfniaaGreatRows
import Derived.WalkKit
import Derived.ProofKit
import Derived.OpenShut
import Derived.SizedLaws
import Derived.Carry
set_option linter.unusedSimpArgs false
set_option linter.unusedVariables false
set_option linter.unnecessarySimpa false
set_option linter.all false
namespace Go.Proofs.YtoaafpebcdfniaaGreat.batchTells
open Go.ChangeShapes Go.WideShapes Go.ChangeAt Go.RowKit Go.Vm Go.Vm.B

theorem own : ownKnob Tryz.prog.godebug = none := by kernel_rfl
theorem laidOut : laidOutB Tryz.prog = true := by kernel_rfl

theorem walk (W : World) (n : Int) (before cs : List Chg) (tm : List Bool) (a b c : Value) (ha : RD W (fun b => b < W.heap.size) (.lst (chsc before)) a) (hb : RD W (fun b => b < W.heap.size) (.lst (chsc cs)) b) (hc : RD W (fun b => b < W.heap.size) (.lst (bc tm)) c)
    (hr : ∀ y ∈ cs, rowFits y) :
    Calls Tryz.prog 4 #[.int .i64 n, a, b, c] W fun e W' => e = .returned (.bool true) ∧ Below W.heap.size W W' ∧ ∀ a, W'.frozen? a = W.frozen? a := by
  have h := batchTells_run good_tryz cmp_tryz 0 n before cs tm fun c hc => by
    have := hr c (List.mem_of_mem_take hc)
    unfold rowFits reachBytes at this
    omega
  refine open_calls sound0 mixed_tryz (fun f F h => comp_all f F h) (xs := [.int .i64 n, .lst (chsc before), .lst (chsc cs), .lst (bc tm)]) h W _ rfl ?_
  intro i x v hx hv
  match i, hx, hv with
  | 0, hx, hv => injection hx with hx; injection hv with hv; subst hx; subst hv; exact .int _ _
  | 1, hx, hv => injection hx with hx; injection hv with hv; subst hx; subst hv; exact ha
  | 2, hx, hv => injection hx with hx; injection hv with hv; subst hx; subst hv; exact hb
  | 3, hx, hv => injection hx with hx; injection hv with hv; subst hx; subst hv; exact hc
  | k + 4, hx, hv => simp at hx

set_option maxRecDepth 100000 in
theorem lifted (os : Os) (started : os.Started) (H : Type) (enc : TypeId × Value → H) :
    ReturnsInHanded {} Tryz.checked os 4 .any (Rows.batchTellsSpec.pre6 enc Tryz.prog Tryz.f4 Rows.batchTellsRow.domain false) (Rows.batchTellsSpec.post enc Tryz.prog Tryz.f4 false true false false) := by
  refine returnsInHanded_of_change_sized (C := Tryz.checked) own started (by kernel_rfl) Tryz.func4
    (ChangeSpec.witness6 (enc := enc) (C := Tryz.checked) false ⟨#[], #[.int .i64 0, .slice none 0 0, .slice none 0 0, .slice none 0 0], []⟩ 8 (by kernel_rfl) (by kernel_rfl) (by kernel_rfl) (by kernel_rfl)) ?_
  intro W base args ds gs before hval0 hW hcnd hsz _
  have hval : ∀ (j : Nat) t v, Tryz.f4.params[j]? = some t → args[j]? = some v → Value.okWide Tryz.prog W .any base t v := hval0
  have hW' := hW
  obtain ⟨p, q, hA0, hV, rfl, hfz, hnd⟩ := hW
  have hA : DataW.TrodAll enc Tryz.prog W 0 (fun _ => true) true Tryz.f4.params.toList args.toList ds p := hA0
  rw [Tryz.params4] at hA hval
  obtain ⟨v0, v1, v2, v3, d0, d1, d2, d3, p0, p1, p2, p3, rfl, rfl, rfl, h0, h1, h2, h3⟩ := trodAll_four hA
  obtain ⟨rfl, rfl⟩ := trodVars_none hV
  clear hA0 hval0
  simp only [List.append_nil] at hW'
  have hlt : ∀ x ∈ p0 ++ p1 ++ p2 ++ p3, x.block < W.heap.size := fun x hx => by simpa using hW'.lt x hx
  have hw2 : (d2.weights Tryz.prog 30).all (· ≤ reachBytes) = true := by
    rw [List.all_eq_true] at hsz ⊢
    intro m hm
    refine hsz m ?_
    refine DataW.weights_mem_each (ts := Tryz.f4.params.toList ++ _) (ds := [d0, d1, d2, d3] ++ []) (j := 2) (t := 30) (d := d2) ?_ rfl m hm
    rw [Tryz.params4]; rfl
  obtain ⟨n, rfl, rfl, rfl, wn⟩ := open_int Tryz.underlying3 (hval 0 3 v0 rfl rfl) h0
  have h1k := h1
  have h2k := h2
  have h3k := h3
  obtain ⟨a1, l1, c1, rfl⟩ := okWide_slice Tryz.underlying30 (hval 1 30 v1 rfl rfl)
  obtain ⟨a2, l2, c2, rfl⟩ := okWide_slice Tryz.underlying30 (hval 2 30 v2 rfl rfl)
  obtain ⟨a3, l3, c3, rfl⟩ := okWide_slice Tryz.underlying47 (hval 3 47 v3 rfl rfl)
  obtain ⟨f1, hf1⟩ := h1
  obtain ⟨f2, hf2⟩ := h2
  obtain ⟨f3, hf3⟩ := h3
  obtain ⟨bl, bv, be, hb, -⟩ := open_chgs hf1
  obtain ⟨cl, cv, ce, hc, hcr⟩ := open_chgs hf2
  obtain ⟨tl, tv, te, ht⟩ := open_tms hf3
  simp only [Value.cells, List.cons.injEq, and_true] at be ce te
  subst be; subst ce; subst te
  refine (walk W n bl cl tl _ _ _ hb hc ht (hcr hw2)).mono fun e W' ⟨he, hB, hz⟩ => ?_
  subst he
  refine ⟨_, rfl, _, _, _, [], [] ++ (p1 ++ (p2 ++ p3)), [], hW', ?_, ?_, rfl, hB.frame _, fun h => by cases h⟩
  · exact trodAll_cons_mk (shut_bool Tryz.underlying4 _) trodAll_mk0
  · exact trodAll_mk4 (shut_int Tryz.underlying3 wn)
      (Below.trod laidOut (by kernel_rfl) (of_decide_eq_true (by kernel_rfl)) h1k hB fun x hx => hlt x (by simp [hx]))
      (Below.trod laidOut (by kernel_rfl) (of_decide_eq_true (by kernel_rfl)) h2k hB fun x hx => hlt x (by simp [hx]))
      (Below.trod laidOut (by kernel_rfl) (of_decide_eq_true (by kernel_rfl)) h3k hB fun x hx => hlt x (by simp [hx]))

theorem over : Rows.batchTellsRow.holds Tryz.pinned (OpenSpec.ofChange Rows.batchTellsSpec) :=
  OpenClaim.holds_of_wide 4 Tryz.f4 rfl rfl rfl rfl rfl rfl rfl ⟨rfl, rfl, rfl, rfl, rfl⟩ rfl rfl rfl rfl rfl (by kernel_rfl) Tryz.func4 (by kernel_rfl)
    (of_decide_eq_true (by kernel_rfl)) (by unfold Func.isWrapper; first | (rw [if_pos (by decide +kernel)]; kernel_rfl) | (rw [if_neg (by decide +kernel)]; exact ⟨rfl, rfl⟩))
    (fun os started H enc _ => lifted os started H enc)

theorem proved : Rows.BatchTellsSaid :=
  over
#print axioms proved
end Go.Proofs.YtoaafpebcdfniaaGreat.batchTells
