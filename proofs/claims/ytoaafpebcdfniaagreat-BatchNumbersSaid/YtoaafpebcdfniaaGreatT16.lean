/- A part of the proofs of the statements BatchTells and BatchNumbers: C38, C39, C40, C41, L2. Conditions: none of its own. -/
import Derived.Test.YtoaafpebcdfniaaGreatT15
import Derived.Test.YtoaafpebcdfniaaGreatT13
set_option linter.unusedSimpArgs false
set_option linter.unusedVariables false
set_option linter.unnecessarySimpa false
set_option linter.all false
set_option maxRecDepth 100000
namespace Go.Vm.B
open Go.Fl
attribute [local irreducible] IntKind.wrap Go.Fl.fl tnD
variable {P : Program} {E : Env}

def t136_1 : C := (.seq (.reg [⟨some 178, none, .mv (.t 20)⟩, ⟨some 179, none, .mv (.t 2)⟩, ⟨some 180, none, .bin .lss 3 (.t 178) (.t 179)⟩, ⟨some 181, none, .mv (.t 180)⟩, ⟨some 182, some (3, true), .mv (.t 2)⟩, ⟨some 183, some (3, true), .mv (.t 24)⟩, ⟨some 184, some (3, true), .bin .lss 3 (.t 182) (.t 183)⟩, ⟨some 185, none, .pick (.t 181) (.t 184) (.k (.d (.bool false)))⟩]) (.cond (.t 185) (.reg [⟨some 186, none, .mv (.t 0)⟩, ⟨some 187, none, .mv (.t 20)⟩, ⟨some 188, none, .mv (.t 2)⟩, ⟨some 189, none, .mv (.t 24)⟩, ⟨some 190, none, .mv (.t 4)⟩, ⟨some 191, none, .call 139 [(.t 186), (.t 187), (.t 188), (.t 189), (.t 190)]⟩]) .skip))
set_option maxHeartbeats 4000000 in
theorem t136_1_run (D : Nat) (len a m b q st en : Nat) (x19 x175 x176 x177 : V) (l l' : Set)
    (h1 : st < m ∧ m < en → run P E T D 139 [.arr 0 0 len, .d (.int .i64 (st : Nat)), .d (.int .i64 (m : Nat)), .d (.int .i64 (en : Nat)), .clo 101 [] []] [some (.row 2 (setc l))] = some (.tup [], [some (.row 2 (setc l'))])) (h2 : ¬ (st < m ∧ m < en) → l' = l) :
    ∃ ts, exec P (run P E T D) (refsOf T) 1 t136_1 ⟨[.arr 0 0 len, .d (.int .i64 (a : Nat)), .d (.int .i64 (m : Nat)), .d (.int .i64 (b : Nat)), .clo 101 [] [], .bot, .bot, .bot, .bot, .bot, .bot, .bot, .bot, .bot, .bot, .bot, .bot, .bot, .d (.int .i64 (q : Nat)), x19, .d (.int .i64 (st : Nat)), .bot, .bot, .bot, .d (.int .i64 (en : Nat)), .bot, .bot, .bot, .bot, .bot, .bot, .bot, .bot, .bot, .bot, .bot, .bot, .bot, .bot, .bot, .bot, .bot, .bot, .bot, .bot, .bot, .bot, .bot, .bot, .bot, .bot, .bot, .bot, .bot, .bot, .bot, .bot, .bot, .bot, .bot, .bot, .bot, .bot, .bot, .bot, .bot, .bot, .bot, .bot, .bot, .bot, .bot, .bot, .bot, .bot, .bot, .bot, .bot, .bot, .bot, .bot, .bot, .bot, .bot, .bot, .bot, .bot, .bot, .bot, .bot, .bot, .bot, .bot, .bot, .bot, .bot, .bot, .bot, .bot, .bot, .bot, .bot, .bot, .bot, .bot, .bot, .bot, .bot, .bot, .bot, .bot, .bot, .bot, .bot, .bot, .bot, .bot, .bot, .bot, .bot, .bot, .bot, .bot, .bot, .bot, .bot, .bot, .bot, .bot, .bot, .bot, .bot, .bot, .bot, .bot, .bot, .bot, .bot, .bot, .bot, .bot, .bot, .bot, .bot, .bot, .bot, .bot, .bot, .bot, .bot, .bot, .bot, .bot, .bot, .bot, .bot, .bot, .bot, .bot, .bot, .bot, .bot, .bot, .bot, .bot, .bot, .bot, .bot, .bot, .bot, .bot, .bot, .bot, .bot, .bot, x175, x176, x177, .bot, .bot, .bot, .bot, .bot, .bot, .bot, .bot, .bot, .bot, .bot, .bot, .bot, .bot, .bot, .bot, .bot, .bot, .bot, .bot, .bot, .bot, .bot, .bot, .bot, .bot, .bot, .bot, .bot, .bot, .bot, .bot, .bot, .bot, .bot, .bot, .bot, .bot, .bot, .bot, .bot, .bot], [some (.row 2 (setc l))]⟩ = some (.norm, ⟨ts, [some (.row 2 (setc l'))]⟩) ∧ (∃ x19 x175 x176 x177 x178 x179 x180 x181 x182 x183 x184 x185 x186 x187 x188 x189 x190 x191 : V, ts = [.arr 0 0 len, .d (.int .i64 (a : Nat)), .d (.int .i64 (m : Nat)), .d (.int .i64 (b : Nat)), .clo 101 [] [], .bot, .bot, .bot, .bot, .bot, .bot, .bot, .bot, .bot, .bot, .bot, .bot, .bot, .d (.int .i64 (q : Nat)), x19, .d (.int .i64 (st : Nat)), .bot, .bot, .bot, .d (.int .i64 (en : Nat)), .bot, .bot, .bot, .bot, .bot, .bot, .bot, .bot, .bot, .bot, .bot, .bot, .bot, .bot, .bot, .bot, .bot, .bot, .bot, .bot, .bot, .bot, .bot, .bot, .bot, .bot, .bot, .bot, .bot, .bot, .bot, .bot, .bot, .bot, .bot, .bot, .bot, .bot, .bot, .bot, .bot, .bot, .bot, .bot, .bot, .bot, .bot, .bot, .bot, .bot, .bot, .bot, .bot, .bot, .bot, .bot, .bot, .bot, .bot, .bot, .bot, .bot, .bot, .bot, .bot, .bot, .bot, .bot, .bot, .bot, .bot, .bot, .bot, .bot, .bot, .bot, .bot, .bot, .bot, .bot, .bot, .bot, .bot, .bot, .bot, .bot, .bot, .bot, .bot, .bot, .bot, .bot, .bot, .bot, .bot, .bot, .bot, .bot, .bot, .bot, .bot, .bot, .bot, .bot, .bot, .bot, .bot, .bot, .bot, .bot, .bot, .bot, .bot, .bot, .bot, .bot, .bot, .bot, .bot, .bot, .bot, .bot, .bot, .bot, .bot, .bot, .bot, .bot, .bot, .bot, .bot, .bot, .bot, .bot, .bot, .bot, .bot, .bot, .bot, .bot, .bot, .bot, .bot, .bot, .bot, .bot, .bot, .bot, .bot, .bot, x175, x176, x177, x178, x179, x180, x181, x182, x183, x184, x185, x186, x187, x188, x189, x190, x191, .bot, .bot, .bot, .bot, .bot, .bot, .bot, .bot, .bot, .bot, .bot, .bot, .bot, .bot, .bot, .bot, .bot, .bot, .bot, .bot, .bot, .bot, .bot, .bot, .bot, .bot, .bot, .bot]) := by
  by_cases c1 : st < m
  · have d1 : ((st : Nat) : Int) < (m : Nat) := by omega
    by_cases c2 : m < en
    · have d2 : ((m : Nat) : Int) < (en : Nat) := by omega
      have h := h1 ⟨c1, c2⟩
      simp -implicitDefEqProofs [exB t136_1.eq_1, d1, d2, h, List.range_succ, callX, callIds, frzArgs, passArgs, S_139, S_136, List.idxOf?_cons]
    · have d2 : ¬ ((m : Nat) : Int) < (en : Nat) := by omega
      rw [h2 (fun h => c2 h.2)]
      simp -implicitDefEqProofs [exB t136_1.eq_1, d1, d2, List.range_succ]
  · have d1 : ¬ ((st : Nat) : Int) < (m : Nat) := by omega
    rw [h2 (fun h => c1 h.1)]
    simp -implicitDefEqProofs [exB t136_1.eq_1, d1, List.range_succ]

def t136_2 : C := (.seq (.reg [⟨some 192, none, .mv (.t 1)⟩, ⟨some 193, none, .mv (.t 20)⟩, ⟨some 194, none, .bin .lss 3 (.t 192) (.t 193)⟩, ⟨some 195, none, .mv (.t 194)⟩, ⟨some 196, some (3, true), .mv (.t 20)⟩, ⟨some 197, some (3, true), .mv (.t 18)⟩, ⟨some 198, some (3, true), .bin .lss 3 (.t 196) (.t 197)⟩, ⟨some 199, none, .pick (.t 195) (.t 198) (.k (.d (.bool false)))⟩]) (.cond (.t 199) (.reg [⟨some 200, none, .mv (.t 0)⟩, ⟨some 201, none, .mv (.t 1)⟩, ⟨some 202, none, .mv (.t 20)⟩, ⟨some 203, none, .mv (.t 18)⟩, ⟨some 204, none, .mv (.t 4)⟩, ⟨some 205, none, .call 136 [(.t 200), (.t 201), (.t 202), (.t 203), (.t 204)]⟩]) .skip))
set_option maxHeartbeats 4000000 in
theorem t136_2_run (D : Nat) (len a m b q st en : Nat) (x19 x175 x176 x177 x178 x179 x180 x181 x182 x183 x184 x185 x186 x187 x188 x189 x190 x191 : V) (l l' : Set)
    (h1 : a < st ∧ st < q → run P E T D 136 [.arr 0 0 len, .d (.int .i64 (a : Nat)), .d (.int .i64 (st : Nat)), .d (.int .i64 (q : Nat)), .clo 101 [] []] [some (.row 2 (setc l))] = some (.tup [], [some (.row 2 (setc l'))])) (h2 : ¬ (a < st ∧ st < q) → l' = l) :
    ∃ ts, exec P (run P E T D) (refsOf T) 1 t136_2 ⟨[.arr 0 0 len, .d (.int .i64 (a : Nat)), .d (.int .i64 (m : Nat)), .d (.int .i64 (b : Nat)), .clo 101 [] [], .bot, .bot, .bot, .bot, .bot, .bot, .bot, .bot, .bot, .bot, .bot, .bot, .bot, .d (.int .i64 (q : Nat)), x19, .d (.int .i64 (st : Nat)), .bot, .bot, .bot, .d (.int .i64 (en : Nat)), .bot, .bot, .bot, .bot, .bot, .bot, .bot, .bot, .bot, .bot, .bot, .bot, .bot, .bot, .bot, .bot, .bot, .bot, .bot, .bot, .bot, .bot, .bot, .bot, .bot, .bot, .bot, .bot, .bot, .bot, .bot, .bot, .bot, .bot, .bot, .bot, .bot, .bot, .bot, .bot, .bot, .bot, .bot, .bot, .bot, .bot, .bot, .bot, .bot, .bot, .bot, .bot, .bot, .bot, .bot, .bot, .bot, .bot, .bot, .bot, .bot, .bot, .bot, .bot, .bot, .bot, .bot, .bot, .bot, .bot, .bot, .bot, .bot, .bot, .bot, .bot, .bot, .bot, .bot, .bot, .bot, .bot, .bot, .bot, .bot, .bot, .bot, .bot, .bot, .bot, .bot, .bot, .bot, .bot, .bot, .bot, .bot, .bot, .bot, .bot, .bot, .bot, .bot, .bot, .bot, .bot, .bot, .bot, .bot, .bot, .bot, .bot, .bot, .bot, .bot, .bot, .bot, .bot, .bot, .bot, .bot, .bot, .bot, .bot, .bot, .bot, .bot, .bot, .bot, .bot, .bot, .bot, .bot, .bot, .bot, .bot, .bot, .bot, .bot, .bot, .bot, .bot, .bot, .bot, .bot, .bot, .bot, .bot, .bot, .bot, x175, x176, x177, x178, x179, x180, x181, x182, x183, x184, x185, x186, x187, x188, x189, x190, x191, .bot, .bot, .bot, .bot, .bot, .bot, .bot, .bot, .bot, .bot, .bot, .bot, .bot, .bot, .bot, .bot, .bot, .bot, .bot, .bot, .bot, .bot, .bot, .bot, .bot, .bot, .bot, .bot], [some (.row 2 (setc l))]⟩ = some (.norm, ⟨ts, [some (.row 2 (setc l'))]⟩) ∧ (∃ x19 x175 x176 x177 x178 x179 x180 x181 x182 x183 x184 x185 x186 x187 x188 x189 x190 x191 x192 x193 x194 x195 x196 x197 x198 x199 x200 x201 x202 x203 x204 x205 : V, ts = [.arr 0 0 len, .d (.int .i64 (a : Nat)), .d (.int .i64 (m : Nat)), .d (.int .i64 (b : Nat)), .clo 101 [] [], .bot, .bot, .bot, .bot, .bot, .bot, .bot, .bot, .bot, .bot, .bot, .bot, .bot, .d (.int .i64 (q : Nat)), x19, .d (.int .i64 (st : Nat)), .bot, .bot, .bot, .d (.int .i64 (en : Nat)), .bot, .bot, .bot, .bot, .bot, .bot, .bot, .bot, .bot, .bot, .bot, .bot, .bot, .bot, .bot, .bot, .bot, .bot, .bot, .bot, .bot, .bot, .bot, .bot, .bot, .bot, .bot, .bot, .bot, .bot, .bot, .bot, .bot, .bot, .bot, .bot, .bot, .bot, .bot, .bot, .bot, .bot, .bot, .bot, .bot, .bot, .bot, .bot, .bot, .bot, .bot, .bot, .bot, .bot, .bot, .bot, .bot, .bot, .bot, .bot, .bot, .bot, .bot, .bot, .bot, .bot, .bot, .bot, .bot, .bot, .bot, .bot, .bot, .bot, .bot, .bot, .bot, .bot, .bot, .bot, .bot, .bot, .bot, .bot, .bot, .bot, .bot, .bot, .bot, .bot, .bot, .bot, .bot, .bot, .bot, .bot, .bot, .bot, .bot, .bot, .bot, .bot, .bot, .bot, .bot, .bot, .bot, .bot, .bot, .bot, .bot, .bot, .bot, .bot, .bot, .bot, .bot, .bot, .bot, .bot, .bot, .bot, .bot, .bot, .bot, .bot, .bot, .bot, .bot, .bot, .bot, .bot, .bot, .bot, .bot, .bot, .bot, .bot, .bot, .bot, .bot, .bot, .bot, .bot, .bot, .bot, .bot, .bot, .bot, .bot, x175, x176, x177, x178, x179, x180, x181, x182, x183, x184, x185, x186, x187, x188, x189, x190, x191, x192, x193, x194, x195, x196, x197, x198, x199, x200, x201, x202, x203, x204, x205, .bot, .bot, .bot, .bot, .bot, .bot, .bot, .bot, .bot, .bot, .bot, .bot, .bot, .bot]) := by
  by_cases c1 : a < st
  · have d1 : ((a : Nat) : Int) < (st : Nat) := by omega
    by_cases c2 : st < q
    · have d2 : ((st : Nat) : Int) < (q : Nat) := by omega
      have h := h1 ⟨c1, c2⟩
      simp -implicitDefEqProofs [exB t136_2.eq_1, d1, d2, h, List.range_succ, callX, callIds, frzArgs, passArgs, S_139, S_136, List.idxOf?_cons]
    · have d2 : ¬ ((st : Nat) : Int) < (q : Nat) := by omega
      rw [h2 (fun h => c2 h.2)]
      simp -implicitDefEqProofs [exB t136_2.eq_1, d1, d2, List.range_succ]
  · have d1 : ¬ ((a : Nat) : Int) < (st : Nat) := by omega
    rw [h2 (fun h => c1 h.1)]
    simp -implicitDefEqProofs [exB t136_2.eq_1, d1, List.range_succ]

def t136_3 : C := (.seq (.reg [⟨some 206, none, .mv (.t 18)⟩, ⟨some 207, none, .mv (.t 24)⟩, ⟨some 208, none, .bin .lss 3 (.t 206) (.t 207)⟩, ⟨some 209, none, .mv (.t 208)⟩, ⟨some 210, some (3, true), .mv (.t 24)⟩, ⟨some 211, some (3, true), .mv (.t 3)⟩, ⟨some 212, some (3, true), .bin .lss 3 (.t 210) (.t 211)⟩, ⟨some 213, none, .pick (.t 209) (.t 212) (.k (.d (.bool false)))⟩]) (.cond (.t 213) (.reg [⟨some 214, none, .mv (.t 0)⟩, ⟨some 215, none, .mv (.t 18)⟩, ⟨some 216, none, .mv (.t 24)⟩, ⟨some 217, none, .mv (.t 3)⟩, ⟨some 218, none, .mv (.t 4)⟩, ⟨some 219, none, .call 136 [(.t 214), (.t 215), (.t 216), (.t 217), (.t 218)]⟩]) .skip))
set_option maxHeartbeats 4000000 in
theorem t136_3_run (D : Nat) (len a m b q st en : Nat) (x19 x175 x176 x177 x178 x179 x180 x181 x182 x183 x184 x185 x186 x187 x188 x189 x190 x191 x192 x193 x194 x195 x196 x197 x198 x199 x200 x201 x202 x203 x204 x205 : V) (l l' : Set)
    (h1 : q < en ∧ en < b → run P E T D 136 [.arr 0 0 len, .d (.int .i64 (q : Nat)), .d (.int .i64 (en : Nat)), .d (.int .i64 (b : Nat)), .clo 101 [] []] [some (.row 2 (setc l))] = some (.tup [], [some (.row 2 (setc l'))])) (h2 : ¬ (q < en ∧ en < b) → l' = l) :
    ∃ ts, exec P (run P E T D) (refsOf T) 1 t136_3 ⟨[.arr 0 0 len, .d (.int .i64 (a : Nat)), .d (.int .i64 (m : Nat)), .d (.int .i64 (b : Nat)), .clo 101 [] [], .bot, .bot, .bot, .bot, .bot, .bot, .bot, .bot, .bot, .bot, .bot, .bot, .bot, .d (.int .i64 (q : Nat)), x19, .d (.int .i64 (st : Nat)), .bot, .bot, .bot, .d (.int .i64 (en : Nat)), .bot, .bot, .bot, .bot, .bot, .bot, .bot, .bot, .bot, .bot, .bot, .bot, .bot, .bot, .bot, .bot, .bot, .bot, .bot, .bot, .bot, .bot, .bot, .bot, .bot, .bot, .bot, .bot, .bot, .bot, .bot, .bot, .bot, .bot, .bot, .bot, .bot, .bot, .bot, .bot, .bot, .bot, .bot, .bot, .bot, .bot, .bot, .bot, .bot, .bot, .bot, .bot, .bot, .bot, .bot, .bot, .bot, .bot, .bot, .bot, .bot, .bot, .bot, .bot, .bot, .bot, .bot, .bot, .bot, .bot, .bot, .bot, .bot, .bot, .bot, .bot, .bot, .bot, .bot, .bot, .bot, .bot, .bot, .bot, .bot, .bot, .bot, .bot, .bot, .bot, .bot, .bot, .bot, .bot, .bot, .bot, .bot, .bot, .bot, .bot, .bot, .bot, .bot, .bot, .bot, .bot, .bot, .bot, .bot, .bot, .bot, .bot, .bot, .bot, .bot, .bot, .bot, .bot, .bot, .bot, .bot, .bot, .bot, .bot, .bot, .bot, .bot, .bot, .bot, .bot, .bot, .bot, .bot, .bot, .bot, .bot, .bot, .bot, .bot, .bot, .bot, .bot, .bot, .bot, .bot, .bot, .bot, .bot, .bot, .bot, x175, x176, x177, x178, x179, x180, x181, x182, x183, x184, x185, x186, x187, x188, x189, x190, x191, x192, x193, x194, x195, x196, x197, x198, x199, x200, x201, x202, x203, x204, x205, .bot, .bot, .bot, .bot, .bot, .bot, .bot, .bot, .bot, .bot, .bot, .bot, .bot, .bot], [some (.row 2 (setc l))]⟩ = some (.norm, ⟨ts, [some (.row 2 (setc l'))]⟩) := by
  by_cases c1 : q < en
  · have d1 : ((q : Nat) : Int) < (en : Nat) := by omega
    by_cases c2 : en < b
    · have d2 : ((en : Nat) : Int) < (b : Nat) := by omega
      have h := h1 ⟨c1, c2⟩
      simp -implicitDefEqProofs [exB t136_3.eq_1, d1, d2, h, List.range_succ, callX, callIds, frzArgs, passArgs, S_139, S_136, List.idxOf?_cons]
    · have d2 : ¬ ((en : Nat) : Int) < (b : Nat) := by omega
      rw [h2 (fun h => c2 h.2)]
      simp -implicitDefEqProofs [exB t136_3.eq_1, d1, d2, List.range_succ]
  · have d1 : ¬ ((q : Nat) : Int) < (en : Nat) := by omega
    rw [h2 (fun h => c1 h.1)]
    simp -implicitDefEqProofs [exB t136_3.eq_1, d1, List.range_succ]
end Go.Vm.B
namespace Go.Vm.B
open Go.Fl
theorem v136_eq : v136 = ⟨220, 5, [true, false, false, false, false], [], [],
  (.seq (.seq (.reg [⟨some 25, none, .mv (.t 2)⟩, ⟨some 26, none, .mv (.t 1)⟩, ⟨some 27, none, .bin .sub 3 (.t 25) (.t 26)⟩, ⟨some 28, none, .bin .eql 3 (.t 27) (.k (.d (.int .i64 1)))⟩]) (.cond (.t 28) (.seq (.reg [⟨some 29, none, .mv (.t 2)⟩, ⟨some 10, none, .mv (.t 29)⟩]) (.seq (.reg [⟨some 30, none, .mv (.t 3)⟩, ⟨some 11, none, .mv (.t 30)⟩]) (.seq (.blk 0 (.loop 3091 1027 v136_0)) (.seq (.seq (.reg [⟨some 54, none, .mv (.t 1)⟩, ⟨some 13, none, .mv (.t 54)⟩]) (.blk 2 (.loop 9217 0 v136_1))) .ret)))) .skip)) (.seq (.seq (.reg [⟨some 77, none, .mv (.t 3)⟩, ⟨some 78, none, .mv (.t 2)⟩, ⟨some 79, none, .bin .sub 3 (.t 77) (.t 78)⟩, ⟨some 80, none, .bin .eql 3 (.t 79) (.k (.d (.int .i64 1)))⟩]) (.cond (.t 80) (.seq (.reg [⟨some 81, none, .mv (.t 1)⟩, ⟨some 14, none, .mv (.t 81)⟩]) (.seq (.reg [⟨some 82, none, .mv (.t 2)⟩, ⟨some 15, none, .mv (.t 82)⟩]) (.seq (.blk 4 (.loop 49173 16389 v136_2)) (.seq (.seq (.reg [⟨some 107, none, .mv (.t 2)⟩, ⟨some 17, none, .mv (.t 107)⟩]) (.blk 6 (.loop 147457 0 v136_3))) .ret)))) .skip)) (.seq (.reg [⟨some 129, none, .mv (.t 1)⟩, ⟨some 130, none, .mv (.t 3)⟩, ⟨some 131, none, .bin .add 3 (.t 129) (.t 130)⟩, ⟨some 132, none, .conv .u64 (.t 131)⟩, ⟨some 133, none, .bin .shr 113 (.t 132) (.k (.d (.int .u64 1)))⟩, ⟨some 134, none, .conv .i64 (.t 133)⟩, ⟨some 18, none, .mv (.t 134)⟩]) (.seq (.reg [⟨some 135, none, .mv (.t 18)⟩, ⟨some 136, none, .mv (.t 2)⟩, ⟨some 137, none, .bin .add 3 (.t 135) (.t 136)⟩, ⟨some 19, none, .mv (.t 137)⟩]) (.seq (.reg [⟨some 20, none, .mv (.k (.d (.int .i64 0)))⟩, ⟨some 21, none, .mv (.k (.d (.int .i64 0)))⟩]) (.seq (.seq (.reg [⟨some 138, none, .mv (.t 2)⟩, ⟨some 139, none, .mv (.t 18)⟩, ⟨some 140, none, .bin .gtr 3 (.t 138) (.t 139)⟩]) (.cond (.t 140) (.seq (.reg [⟨some 141, none, .mv (.t 19)⟩, ⟨some 142, none, .mv (.t 3)⟩, ⟨some 143, none, .bin .sub 3 (.t 141) (.t 142)⟩, ⟨some 20, none, .mv (.t 143)⟩]) (.reg [⟨some 144, none, .mv (.t 18)⟩, ⟨some 21, none, .mv (.t 144)⟩])) (.seq (.reg [⟨some 145, none, .mv (.t 1)⟩, ⟨some 20, none, .mv (.t 145)⟩]) (.reg [⟨some 146, none, .mv (.t 2)⟩, ⟨some 21, none, .mv (.t 146)⟩])))) (.seq (.reg [⟨some 147, none, .mv (.t 19)⟩, ⟨some 148, none, .bin .sub 3 (.t 147) (.k (.d (.int .i64 1)))⟩, ⟨some 22, none, .mv (.t 148)⟩]) (.seq (.blk 8 (.loop 8126495 1835039 v136_4)) (.seq (.reg [⟨some 175, none, .mv (.t 19)⟩, ⟨some 176, none, .mv (.t 20)⟩, ⟨some 177, none, .bin .sub 3 (.t 175) (.t 176)⟩, ⟨some 24, none, .mv (.t 177)⟩]) (.seq t136_1 (.seq t136_2 t136_3)))))))))))⟩ := rfl
attribute [local irreducible] IntKind.wrap Go.Fl.fl tnD
variable {P : Program} {E : Env}
set_option maxHeartbeats 4000000 in
theorem sym3_run (k : Nat) (D : Nat) (hD : 7 ≤ D) (a m b : Nat) (l : Set) (h0 : a < m) (h3 : m < b) (h1 : ¬ m = a + 1) (h2 : ¬ b = m + 1) (hb : b ≤ l.length) (hl : l.length ≤ 100000) (hr : ∀ x ∈ l, x.1.length ≤ 6)
    (ih : ∀ (a' m' b' : Nat) (l' : Set), a' < m' → m' < b' → b' ≤ l.length → (b' - a' ≤ (b - a + 1) / 2) → l'.length = l.length → (∀ x ∈ l', x.1.length ≤ 6) → run P E T D 136 [.arr 0 0 l.length, .d (.int .i64 a'), .d (.int .i64 m'), .d (.int .i64 b'), .clo 101 [] []] [some (.row 2 (setc l'))] = some (.tup [], [some (.row 2 (setc (symS k a' m' b' l')))])) :
    run P E T (D + 1) 136 [.arr 0 0 l.length, .d (.int .i64 a), .d (.int .i64 m), .d (.int .i64 b), .clo 101 [] []] [some (.row 2 (setc l))] = some (.tup [], [some (.row 2 (setc (symS (k + 1) a m b l)))]) := by
  obtain ⟨d, rfl⟩ : ∃ d, D = d + 7 := ⟨D - 7, by omega⟩
  rw [run_succ _ _ _ _ _ _ _ _ T_136, symS, if_neg h1, if_neg h2]
  have wm1 : IntKind.i64.wrap ((m : Int) - a) = (m : Int) - a := wrap_small (by omega) (by omega)
  have wm2 : IntKind.i64.wrap ((b : Int) - m) = (b : Int) - m := wrap_small (by omega) (by omega)
  have n1 : ¬ ((m : Int) - a = 1) := by omega
  have n2 : ¬ ((b : Int) - m = 1) := by omega
  have wU : IntKind.u64.wrap ((a : Int) + b) = (a : Int) + b := wrapU (by omega) (by omega)
  have wA : IntKind.i64.wrap ((a : Int) + b) = (a : Int) + b := wrap_small (by omega) (by omega)
  have hsh := shr1' P 113 a b
  obtain ⟨q, hq⟩ : ∃ q, q = (a + b) / 2 := ⟨_, rfl⟩
  have wq : IntKind.i64.wrap (q : Int) = q := wrap_small (by omega) (by omega)
  obtain ⟨n, hn⟩ : ∃ n, n = q + m := ⟨_, rfl⟩
  have wn : IntKind.i64.wrap ((q : Int) + m) = n := by rw [wrap_small (by omega) (by omega)]; omega
  obtain ⟨p, hp⟩ : ∃ p, p = n - 1 := ⟨_, rfl⟩
  have wp : IntKind.i64.wrap ((n : Int) - 1) = p := by rw [wrap_small (by omega) (by omega)]; omega
  have hst : ∃ s0 r0, s0 ≤ r0 ∧ a ≤ s0 ∧ r0 ≤ m ∧ r0 ≤ q ∧ p < s0 + l.length ∧ symSt a m b l = bsG (p136_4 l a m b q n p) (r0 - s0) s0 r0 ∧ (q < m → s0 = n - b ∧ r0 = q) ∧ (¬ q < m → s0 = a ∧ r0 = m) := by
    unfold symSt
    rw [← hq, ← hn, ← hp]
    by_cases hqm : q < m
    · rw [if_pos hqm]
      exact ⟨n - b, q, by omega, by omega, by omega, by omega, by omega, rfl, fun _ => ⟨rfl, rfl⟩, fun h => absurd hqm h⟩
    · rw [if_neg hqm]
      exact ⟨a, m, by omega, by omega, by omega, by omega, by omega, rfl, fun h => absurd h hqm, fun _ => ⟨rfl, rfl⟩⟩
  obtain ⟨s0, r0, b1, b2, b3, b4, b5, b6, b7, b8⟩ := hst
  have hC := rounds136_4 (P := P) (E := E) (d + 1) a m b q n p l hl hr (by omega) (r0 - s0) s0 r0 LOOPS (Nat.le_refl _) (by unfold LOOPS; omega) ⟨by omega, by omega, by omega⟩
  have hbb := bsG_bound (p136_4 l a m b q n p) (r0 - s0) s0 r0 b1
  rw [← b6] at hC hbb
  rw [← hq] at hsh ⊢
  dsimp only
  rw [← hn]
  generalize symSt a m b l = st at *
  obtain ⟨en, hen⟩ : ∃ en, en = n - st := ⟨_, rfl⟩
  have we : IntKind.i64.wrap ((n : Int) - st) = en := by rw [wrap_small (by omega) (by omega)]; omega
  rw [← hen]
  -- the three steps
  have c1 : st < m → m < en → run P E T (d + 7) 139 [.arr 0 0 l.length, .d (.int .i64 st), .d (.int .i64 m), .d (.int .i64 en), .clo 101 [] []] [some (.row 2 (setc l))] = some (.tup [], [some (.row 2 (setc (rotS st m en l)))]) := fun x y => rotate_run P E (d + 5) st m en l x y (by omega) hl
  obtain ⟨l1, hl1⟩ : ∃ l1, l1 = if st < m ∧ m < en then rotS st m en l else l := ⟨_, rfl⟩
  have q1 : l1.length = l.length := by rw [hl1]; split; · exact rotS_len _ _ _ _
                                       · rfl
  have r1 : ∀ x ∈ l1, x.1.length ≤ 6 := by rw [hl1]; split; · exact rotS_mem _ _ _ _ _ hr
                                           · exact hr
  rw [← hl1]
  have c2 : a < st → st < q → _ := fun x y => ih a st q l1 x y (by omega) (by omega) q1 r1
  obtain ⟨l2, hl2⟩ : ∃ l2, l2 = if a < st ∧ st < q then symS k a st q l1 else l1 := ⟨_, rfl⟩
  have q2 : l2.length = l.length := by rw [hl2]; split; · rw [symS_len, q1]
                                       · exact q1
  have r2 : ∀ x ∈ l2, x.1.length ≤ 6 := by rw [hl2]; split; · exact symS_mem _ _ _ _ _ _ r1
                                           · exact r1
  rw [← hl2]
  have c3 : q < en → en < b → _ := fun x y => ih q en b l2 x y hb (by omega) q2 r2
  obtain ⟨l3, hl3⟩ : ∃ l3, l3 = if q < en ∧ en < b then symS k q en b l2 else l2 := ⟨_, rfl⟩
  rw [← hl3]
  have k1 : st < m ∧ m < en → run P E T (d + 7) 139 [.arr 0 0 l.length, .d (.int .i64 st), .d (.int .i64 m), .d (.int .i64 en), .clo 101 [] []] [some (.row 2 (setc l))] = some (.tup [], [some (.row 2 (setc l1))]) := fun h => by rw [hl1, if_pos h]; exact c1 h.1 h.2
  have k2 : a < st ∧ st < q → run P E T (d + 7) 136 [.arr 0 0 l.length, .d (.int .i64 a), .d (.int .i64 st), .d (.int .i64 q), .clo 101 [] []] [some (.row 2 (setc l1))] = some (.tup [], [some (.row 2 (setc l2))]) := fun h => by rw [hl2, if_pos h]; exact c2 h.1 h.2
  have k3 : q < en ∧ en < b → run P E T (d + 7) 136 [.arr 0 0 l.length, .d (.int .i64 q), .d (.int .i64 en), .d (.int .i64 b), .clo 101 [] []] [some (.row 2 (setc l2))] = some (.tup [], [some (.row 2 (setc l3))]) := fun h => by rw [hl3, if_pos h]; exact c3 h.1 h.2
  obtain ⟨ts1, z1, X1⟩ := t136_1_run (P := P) (E := E) (d + 7) l.length a m b q st en (.d (.int .i64 n)) (.d (.int .i64 n)) (.d (.int .i64 st)) (.d (.int .i64 en)) l l1 k1 (fun h => by rw [hl1, if_neg h])
  obtain ⟨y19, y175, y176, y177, y178, y179, y180, y181, y182, y183, y184, y185, y186, y187, y188, y189, y190, y191, rfl⟩ := X1
  obtain ⟨ts2, z2, X2⟩ := t136_2_run (P := P) (E := E) (d + 7) l.length a m b q st en y19 y175 y176 y177 y178 y179 y180 y181 y182 y183 y184 y185 y186 y187 y188 y189 y190 y191 l1 l2 k2 (fun h => by rw [hl2, if_neg h])
  obtain ⟨u19, u175, u176, u177, u178, u179, u180, u181, u182, u183, u184, u185, u186, u187, u188, u189, u190, u191, u192, u193, u194, u195, u196, u197, u198, u199, u200, u201, u202, u203, u204, u205, rfl⟩ := X2
  obtain ⟨ts3, z3⟩ := t136_3_run (P := P) (E := E) (d + 7) l.length a m b q st en u19 u175 u176 u177 u178 u179 u180 u181 u182 u183 u184 u185 u186 u187 u188 u189 u190 u191 u192 u193 u194 u195 u196 u197 u198 u199 u200 u201 u202 u203 u204 u205 l2 l3 k3 (fun h => by rw [hl3, if_neg h])
  simp only [fh136_4, fe136_4] at hC
  by_cases hqm : q < m
  · obtain ⟨e1, e2⟩ := b7 hqm
    have hqmI : (q : Int) < m := by omega
    have ws : IntKind.i64.wrap ((n : Int) - b) = s0 := by rw [wrap_small (by omega) (by omega)]; omega
    have e2 := e2.symm
    subst e2
    simp -implicitDefEqProofs [v136_eq, wm1, wm2, n1, n2, wU, wA, hsh, wq, wn, wp, hqmI, ws, hC, we, z1, z2, z3, List.range_succ, -forget, mask4a]
  · obtain ⟨e1, e2⟩ := b8 hqm
    have hqmI : ¬ (q : Int) < m := by omega
    have e1 := e1.symm
    have e2 := e2.symm
    subst e1 e2
    simp -implicitDefEqProofs [v136_eq, wm1, wm2, n1, n2, wU, wA, hsh, wq, wn, wp, hqmI, hC, we, z1, z2, z3, List.range_succ, -forget, mask4a]
end Go.Vm.B
namespace Go.Vm.B
variable {P : Program} {E : Env}
theorem sym_run : ∀ (k d a m b : Nat) (l : Set), a < m → m < b → b ≤ l.length → b - a ≤ 2 ^ k → l.length ≤ 100000 → (∀ x ∈ l, x.1.length ≤ 6) →
    run P E T (d + 8 + k) 136 [.arr 0 0 l.length, .d (.int .i64 a), .d (.int .i64 m), .d (.int .i64 b), .clo 101 [] []] [some (.row 2 (setc l))] = some (.tup [], [some (.row 2 (setc (symS k a m b l)))])
  | 0, d, a, m, b, l, h1, h2, h3, h4, _, _ => by simp at h4; omega
  | k + 1, d, a, m, b, l, h1, h2, h3, h4, hl, hr => by
    by_cases c1 : m = a + 1
    · have h := sym1_run (P := P) (E := E) (d + k + 2) a m b l c1 h2 h3 hl hr
      rw [symS, if_pos c1]
      rw [show d + 8 + (k + 1) = d + k + 2 + 7 by omega]
      exact h
    · by_cases c2 : b = m + 1
      · have h := sym2_run (P := P) (E := E) (d + k + 2) a m b l h1 c1 c2 h3 hl hr
        rw [symS, if_neg c1, if_pos c2]
        rw [show d + 8 + (k + 1) = d + k + 2 + 7 by omega]
        exact h
      · rw [show d + 8 + (k + 1) = d + 8 + k + 1 by omega]
        refine sym3_run k (d + 8 + k) (by omega) a m b l h1 h2 c1 c2 h3 hl hr ?_
        intro a' m' b' l' g1 g2 g3 g4 g5 g6
        have h := sym_run k d a' m' b' l' g1 g2 (by omega) (by rw [Nat.pow_succ] at h4; omega) (by omega) g6
        rw [g5] at h
        exact h
theorem mg_sym (P : Program) (E : Env) : MG P E (symS 17) where
  len := symS_len 17
  mem := symS_mem 17
  run := fun d a m b l h1 h2 h3 hl hr => by
    have h := sym_run (P := P) (E := E) 17 (d + 75) a m b l h1 h2 h3 (by omega) hl hr
    rw [show d + 75 + 8 + 17 = d + 100 by omega] at h
    exact h
end Go.Vm.B
namespace Go.Vm.B
variable {P : Program} {E : Env}
theorem cloneItems_run (P : Program) (E : Env) (d : Nat) (l : Set) (h : l ≠ []) (hl : l.length ≤ 4294967296) : run P E T (d + 1) 99 [.arr 0 0 l.length] [some (.row 2 (setc l))] = some (.arr 1 0 l.length, [some (.row 2 (setc l)), some (.row 2 (setc l))]) := by
  rw [run_succ _ _ _ _ _ _ _ _ T_99]
  have h1 : setc l ≠ [] := by unfold setc; simpa using h
  have h2 := bad2 l
  have hn := setc_len l
  have h3 : l.length ≠ 0 := by simpa using h
  generalize setc l = xs at *
  have h4 : List.take l.length xs = xs := List.take_of_length_le (by omega)
  simp -implicitDefEqProofs [v99, h1, h2, hn, h3, h, h4, hl, List.range_succ, List.idxOf?_cons]
theorem cloneNil_run (P : Program) (E : Env) (d : Nat) : run P E T (d + 1) 99 [.nils] [] = some (.nils, []) := by
  rw [run_succ _ _ _ _ _ _ _ _ T_99]
  simp -implicitDefEqProofs [v99]
end Go.Vm.B
namespace Go.Vm.B
/-! The law of the stable sort: what it leaves is in order, and the same items. -/
/-- Things have moved inside a range alone. -/
structure RP (a b : Nat) (l l' : Set) : Prop where
  perm : l'.Perm l
  out : ∀ i, i < a ∨ b ≤ i → l'[i]? = l[i]?
  ins : ∀ i, a ≤ i → i < b → ∃ j, a ≤ j ∧ j < b ∧ l'[i]? = l[j]?
theorem RP.refl (a b : Nat) (l : Set) : RP a b l l := ⟨List.Perm.refl _, fun _ _ => rfl, fun i h h' => ⟨i, h, h', rfl⟩⟩
theorem RP.trans {a b : Nat} {l l' l'' : Set} (h : RP a b l l') (h' : RP a b l' l'') : RP a b l l'' :=
  ⟨h'.perm.trans h.perm, fun i hi => (h'.out i hi).trans (h.out i hi), fun i h1 h2 => by
    obtain ⟨j, j1, j2, e⟩ := h'.ins i h1 h2
    obtain ⟨k, k1, k2, e'⟩ := h.ins j j1 j2
    exact ⟨k, k1, k2, e.trans e'⟩⟩
theorem RP.mono {a b a' b' : Nat} {l l' : Set} (h : RP a b l l') (ha : a' ≤ a) (hb : b ≤ b') : RP a' b' l l' :=
  ⟨h.perm, fun i hi => h.out i (by omega), fun i h1 h2 => by
    by_cases hc : a ≤ i ∧ i < b
    · obtain ⟨j, j1, j2, e⟩ := h.ins i hc.1 hc.2
      exact ⟨j, by omega, by omega, e⟩
    · exact ⟨i, h1, h2, h.out i (by omega)⟩⟩
theorem RP.len {a b : Nat} {l l' : Set} (h : RP a b l l') : l'.length = l.length := h.perm.length_eq
theorem RP.outR {a b : Nat} {l l' : Set} (h : RP a b l l') (i : Nat) (hi : i < a ∨ b ≤ i) : rowAt l' i = rowAt l i := by
  unfold rowAt; rw [h.out i hi]
theorem RP.insR {a b : Nat} {l l' : Set} (h : RP a b l l') (i : Nat) (h1 : a ≤ i) (h2 : i < b) : ∃ j, a ≤ j ∧ j < b ∧ rowAt l' i = rowAt l j := by
  obtain ⟨j, j1, j2, e⟩ := h.ins i h1 h2
  exact ⟨j, j1, j2, by unfold rowAt; rw [e]⟩
/-- All rows are right. -/
def RR (l : Set) : Prop := ∀ i, rightV (rowAt l i)
theorem RR.of {l : Set} (h : ∀ x ∈ l, x.1.right = true) : RR l := by
  intro i
  by_cases hi : i < l.length
  · rw [rowAt_eq hi]; exact Row.right_v (h _ (List.getElem_mem hi))
  · unfold rowAt
    rw [List.getElem?_eq_none (by omega)]
    intro v hv; simp at hv
theorem RP.rr {a b : Nat} {l l' : Set} (h : RP a b l l') (hr : RR l) : RR l' := by
  intro i
  by_cases hc : a ≤ i ∧ i < b
  · obtain ⟨j, _, _, e⟩ := h.insR i hc.1 hc.2
    rw [e]; exact hr j
  · rw [h.outR i (by omega)]; exact hr i
theorem cmp_le_trans {a b c : Row} (ha : rightV a) (hb : rightV b) (hc : rightV c) (h1 : Row.cmp a b ≤ 0) (h2 : Row.cmp b c ≤ 0) : Row.cmp a c ≤ 0 := by
  by_cases e1 : Row.cmp a b = 0
  · rw [(Row.cmp_zero ha hb).mp e1]; exact h2
  · by_cases e2 : Row.cmp b c = 0
    · rw [← (Row.cmp_zero hb hc).mp e2]; exact h1
    · have := Row.cmp_trans ha hb hc (by omega) (by omega); omega
theorem cmp_self {a : Row} (ha : rightV a) : Row.cmp a a = 0 := (Row.cmp_zero ha ha).mpr rfl
/-- A range is in order. -/
def SR (a b : Nat) (l : Set) : Prop := ∀ p q, a ≤ p → p < q → q < b → Row.cmp (rowAt l p) (rowAt l q) ≤ 0
theorem SR.mono {a b a' b' : Nat} {l : Set} (h : SR a b l) (ha : a ≤ a') (hb : b' ≤ b) : SR a' b' l :=
  fun p q h1 h2 h3 => h p q (by omega) h2 (by omega)
theorem SR.out {a b x y : Nat} {l l' : Set} (h : SR x y l) (r : RP a b l l') (hd : y ≤ a ∨ b ≤ x) : SR x y l' := by
  intro p q h1 h2 h3
  rw [r.outR p (by omega), r.outR q (by omega)]
  exact h p q h1 h2 h3
theorem SR.le {a b : Nat} {l : Set} (h : SR a b l) (hr : RR l) {p q : Nat} (h1 : a ≤ p) (h2 : p ≤ q) (h3 : q < b) : Row.cmp (rowAt l p) (rowAt l q) ≤ 0 := by
  rcases Nat.lt_or_ge p q with hlt | hge
  · exact h p q h1 hlt h3
  · have : p = q := by omega
    subst this
    have := cmp_self (hr p); omega

theorem swp_get {l : Set} {i j : Nat} (hi : i < l.length) (hj : j < l.length) (t : Nat) : (swp l i j)[t]? = if t = j then l[i]? else if t = i then l[j]? else l[t]? := by
  have e1 := List.getElem?_eq_getElem hi
  have e2 := List.getElem?_eq_getElem hj
  unfold swp
  rw [e1, e2]
  simp only [List.getElem?_set, List.length_set]
  by_cases h1 : t = j
  · subst h1; simp [hj]
  · rw [if_neg h1, if_neg (by omega)]
    by_cases h2 : t = i
    · subst h2; simp [hi]
    · rw [if_neg h2, if_neg (by omega)]
theorem swp_perm (l : Set) (i j : Nat) : (swp l i j).Perm l := by
  unfold swp
  split
  · rename_i x y hx hy
    obtain ⟨hi, rfl⟩ := List.getElem?_eq_some_iff.mp hx
    obtain ⟨hj, rfl⟩ := List.getElem?_eq_some_iff.mp hy
    exact List.set_set_perm hi hj
  · exact List.Perm.refl _
theorem swp_rp {a b i j : Nat} (l : Set) (h1 : a ≤ i) (h2 : i < b) (h3 : a ≤ j) (h4 : j < b) : RP a b l (swp l i j) := by
  refine ⟨swp_perm l i j, fun t ht => ?_, fun t ht1 ht2 => ?_⟩
  · by_cases hc : i < l.length ∧ j < l.length
    · rw [swp_get hc.1 hc.2, if_neg (by omega), if_neg (by omega)]
    · unfold swp
      split
      · rename_i x y hx hy
        exact absurd ⟨(List.getElem?_eq_some_iff.mp hx).1, (List.getElem?_eq_some_iff.mp hy).1⟩ hc
      · rfl
  · by_cases hc : i < l.length ∧ j < l.length
    · rw [swp_get hc.1 hc.2]
      split
      · exact ⟨i, h1, h2, rfl⟩
      · split
        · exact ⟨j, h3, h4, rfl⟩
        · exact ⟨t, ht1, ht2, rfl⟩
    · refine ⟨t, ht1, ht2, ?_⟩
      unfold swp
      split
      · rename_i x y hx hy
        exact absurd ⟨(List.getElem?_eq_some_iff.mp hx).1, (List.getElem?_eq_some_iff.mp hy).1⟩ hc
      · rfl
theorem swp_at {l : Set} {i j : Nat} (hi : i < l.length) (hj : j < l.length) (t : Nat) : rowAt (swp l i j) t = if t = j then rowAt l i else if t = i then rowAt l j else rowAt l t := by
  unfold rowAt
  rw [swp_get hi hj]
  split
  · rfl
  · split <;> rfl

/-! Insertion sort -/
theorem sink_swp (a : Nat) (l : Set) (j : Nat) (hj : j + 1 < l.length) : sinkS a l (j + 1) = if a < j + 1 ∧ Row.cmp (rowAt l (j + 1)) (rowAt l j) < 0 then sinkS a (swp l (j + 1) j) j else l := by
  have hj' : j < l.length := by omega
  rw [sinkS, rowAt_eq hj, rowAt_eq hj']
  unfold swp
  simp only [List.getElem?_eq_getElem hj, List.getElem?_eq_getElem hj']
theorem sink_rp (a : Nat) : ∀ (j : Nat) (l : Set), j < l.length → RP a (j + 1) l (sinkS a l j)
  | 0, l, h => by rw [sinkS]; exact RP.refl _ _ _
  | j + 1, l, h => by
    rw [sink_swp a l j h]
    split
    · rename_i hc
      have h1 := swp_rp (a := a) (b := j + 1 + 1) l (i := j + 1) (j := j) (by omega) (by omega) (by omega) (by omega)
      exact h1.trans ((sink_rp a j _ (by rw [swp_len]; omega)).mono (Nat.le_refl _) (by omega))
    · exact RP.refl _ _ _
theorem sink_sr (a b : Nat) : ∀ (j : Nat) (l : Set), j < l.length → RR l → a ≤ j → (∀ p q, a ≤ p → p < q → q < b → q ≠ j → Row.cmp (rowAt l p) (rowAt l q) ≤ 0) → SR a b (sinkS a l j)
  | 0, l, h, hr, ha, hs => by
    rw [sinkS]
    intro p q h1 h2 h3
    exact hs p q h1 h2 h3 (by omega)
  | j + 1, l, h, hr, ha, hs => by
    rw [sink_swp a l j h]
    have hj : j < l.length := by omega
    split
    · rename_i hc
      have hw := swp_at (l := l) (i := j + 1) (j := j) h hj
      have hrr : RR (swp l (j + 1) j) := (swp_rp (a := 0) (b := l.length) l (by omega) h (by omega) hj).rr hr
      refine sink_sr a b j _ (by rw [swp_len]; omega) hrr (by omega) fun p q h1 h2 h3 h4 => ?_
      rw [hw p, hw q, if_neg h4]
      by_cases e1 : q = j + 1
      · rw [if_pos e1]
        by_cases e2 : p = j
        · rw [if_pos e2]; omega
        · rw [if_neg e2, if_neg (by omega)]
          exact hs p j h1 (by omega) (by omega) (by omega)
      · rw [if_neg e1]
        by_cases e2 : p = j
        · rw [if_pos e2]
          exact hs (j + 1) q (by omega) (by omega) h3 e1
        · rw [if_neg e2]
          by_cases e3 : p = j + 1
          · rw [if_pos e3]; exact hs j q (by omega) (by omega) h3 e1
          · rw [if_neg e3]; exact hs p q h1 h2 h3 e1
    · rename_i hc
      intro p q h1 h2 h3
      by_cases e : q = j + 1
      · subst e
        have hlt : a < j + 1 := by omega
        have hle : Row.cmp (rowAt l j) (rowAt l (j + 1)) ≤ 0 := by
          have := Row.cmp_anti (rowAt l (j + 1)) (rowAt l j)
          have hn : ¬ Row.cmp (rowAt l (j + 1)) (rowAt l j) < 0 := fun hh => hc ⟨hlt, hh⟩
          omega
        by_cases e2 : p = j
        · subst e2; exact hle
        · exact cmp_le_trans (hr _) (hr _) (hr _) (hs p j h1 (by omega) (by omega) (by omega)) hle
      · exact hs p q h1 h2 h3 e
theorem ins_rp (a : Nat) : ∀ (m i : Nat) (l : Set), a ≤ i → i + m ≤ l.length → RP a (i + m) l (insRange a m i l)
  | 0, i, l, _, h => by rw [insRange]; exact RP.refl _ _ _
  | m + 1, i, l, ha, h => by
    rw [insRange]
    have h1 := sink_rp a i l (by omega)
    have h2 := ins_rp a m (i + 1) (sinkS a l i) (by omega) (by rw [sinkS_len]; omega)
    exact (h1.mono (Nat.le_refl _) (by omega)).trans (h2.mono (Nat.le_refl _) (by omega))
theorem ins_sr (a : Nat) : ∀ (m i : Nat) (l : Set), a ≤ i → i + m ≤ l.length → RR l → SR a i l → SR a (i + m) (insRange a m i l)
  | 0, i, l, _, h, _, hs => by rw [insRange]; exact hs
  | m + 1, i, l, ha, h, hr, hs => by
    rw [insRange]
    have h1 := sink_rp a i l (by omega)
    have h2 := sink_sr a (i + 1) i l (by omega) hr ha fun p q p1 p2 p3 p4 => hs p q p1 p2 (by omega)
    have := ins_sr a m (i + 1) (sinkS a l i) (by omega) (by rw [sinkS_len]; omega) (h1.rr hr) h2
    exact this.mono (Nat.le_refl _) (by omega)
/-- Insertion sort of a range. -/
theorem insR (a b : Nat) (l : Set) (hb : b ≤ l.length) (hr : RR l) (h : a ≤ b) : RP a b l (insRange a (b - (a + 1)) (a + 1) l) ∧ SR a b (insRange a (b - (a + 1)) (a + 1) l) := by
  by_cases hab : a + 1 ≤ b
  · have h1 := ins_rp a (b - (a + 1)) (a + 1) l (by omega) (by omega)
    have h2 := ins_sr a (b - (a + 1)) (a + 1) l (by omega) (by omega) hr fun p q p1 p2 p3 => by omega
    rw [show a + 1 + (b - (a + 1)) = b by omega] at h1 h2
    exact ⟨h1, h2⟩
  · have e : b - (a + 1) = 0 := by omega
    rw [e, insRange]
    exact ⟨RP.refl _ _ _, fun p q p1 p2 p3 => by omega⟩

/-! Moves of one item -/
theorem bubR_rp (a b : Nat) : ∀ (m k : Nat) (l : Set), a ≤ k → k + m < b → RP a b l (bubR m k l)
  | 0, k, l, _, _ => by rw [bubR]; exact RP.refl _ _ _
  | m + 1, k, l, h1, h2 => by
    rw [bubR]
    exact (swp_rp l h1 (by omega) (by omega) (by omega)).trans (bubR_rp a b m (k + 1) _ (by omega) (by omega))
theorem bubR_at : ∀ (m k : Nat) (l : Set) (t : Nat), k + m < l.length → rowAt (bubR m k l) t = if t = k + m then rowAt l k else if k ≤ t ∧ t < k + m then rowAt l (t + 1) else rowAt l t
  | 0, k, l, t, h => by
    rw [bubR]
    by_cases e : t = k
    · subst e; simp
    · rw [if_neg (by omega), if_neg (by omega)]
  | m + 1, k, l, t, h => by
    rw [bubR, bubR_at m (k + 1) _ t (by rw [swp_len]; omega)]
    have hw := swp_at (l := l) (i := k) (j := k + 1) (by omega) (by omega)
    rw [hw, hw, hw]
    by_cases e : t = k + (m + 1)
    · rw [if_pos e, if_pos (by omega), if_pos rfl]
    · rw [if_neg e, if_neg (by omega)]
      by_cases e1 : k ≤ t ∧ t < k + (m + 1)
      · rw [if_pos e1]
        by_cases e2 : t = k
        · rw [if_neg (by omega), if_neg (by omega), if_pos e2, e2]
        · rw [if_pos (by omega), if_neg (by omega), if_neg (by omega)]
      · rw [if_neg e1, if_neg (by omega), if_neg (by omega), if_neg (by omega)]
theorem bubL_rp (a b : Nat) : ∀ (m k : Nat) (l : Set), a + m ≤ k → k < b → RP a b l (bubL m k l)
  | 0, k, l, _, _ => by rw [bubL]; exact RP.refl _ _ _
  | m + 1, k, l, h1, h2 => by
    rw [bubL]
    exact (swp_rp l (by omega) (by omega) (by omega) (by omega)).trans (bubL_rp a b m (k - 1) _ (by omega) (by omega))
theorem bubL_at : ∀ (m k : Nat) (l : Set) (t : Nat), m ≤ k → k < l.length → rowAt (bubL m k l) t = if t = k - m then rowAt l k else if k - m < t ∧ t ≤ k then rowAt l (t - 1) else rowAt l t
  | 0, k, l, t, h, h' => by
    rw [bubL]
    by_cases e : t = k
    · subst e; simp
    · rw [if_neg (by omega), if_neg (by omega)]
  | m + 1, k, l, t, h, h' => by
    rw [bubL, bubL_at m (k - 1) _ t (by omega) (by rw [swp_len]; omega)]
    have hw := swp_at (l := l) (i := k) (j := k - 1) (by omega) (by omega)
    rw [hw, hw, hw]
    by_cases e : t = k - (m + 1)
    · rw [if_pos e, if_pos (by omega), if_pos rfl]
    · rw [if_neg e, if_neg (by omega)]
      by_cases e1 : k - (m + 1) < t ∧ t ≤ k
      · rw [if_pos e1]
        by_cases e2 : t = k
        · rw [if_neg (by omega), if_neg (by omega), if_pos e2, e2]
        · rw [if_pos (by omega), if_neg (by omega), if_neg (by omega)]
      · rw [if_neg e1, if_neg (by omega), if_neg (by omega), if_neg (by omega)]
theorem swapR_rp (x y a b : Nat) : ∀ (m i : Nat) (l : Set), x ≤ a + i → a + i + m ≤ y → x ≤ b + i → b + i + m ≤ y → RP x y l (swapR a b m i l)
  | 0, i, l, _, _, _, _ => by rw [swapR]; exact RP.refl _ _ _
  | m + 1, i, l, h1, h2, h3, h4 => by
    rw [swapR]
    exact (swp_rp l h1 (by omega) h3 (by omega)).trans (swapR_rp x y a b m (i + 1) _ (by omega) (by omega) (by omega) (by omega))
theorem swapR_at (a b : Nat) : ∀ (m i : Nat) (l : Set) (t : Nat), a + i + m ≤ b + i → b + i + m ≤ l.length → rowAt (swapR a b m i l) t = if a + i ≤ t ∧ t < a + i + m then rowAt l (t - a + b) else if b + i ≤ t ∧ t < b + i + m then rowAt l (t - b + a) else rowAt l t
  | 0, i, l, t, h, h' => by
    rw [swapR, if_neg (by omega), if_neg (by omega)]
  | m + 1, i, l, t, h, h' => by
    rw [swapR, swapR_at a b m (i + 1) _ t (by omega) (by rw [swp_len]; omega)]
    have hw := swp_at (l := l) (i := a + i) (j := b + i) (by omega) (by omega)
    rw [hw, hw, hw]
    by_cases e1 : t = a + i
    · rw [if_neg (by omega), if_neg (by omega), if_neg (by omega), if_pos e1, if_pos (by omega), e1]; congr 1; omega
    · by_cases e2 : t = b + i
      · rw [if_neg (by omega), if_neg (by omega), if_pos e2, if_neg (by omega), if_pos (by omega), e2]; congr 1; omega
      · by_cases e3 : a + i ≤ t ∧ t < a + i + (m + 1)
        · rw [if_pos (by omega), if_neg (by omega), if_neg (by omega), if_pos e3]
        · rw [if_neg (by omega), if_neg e3]
          by_cases e4 : b + i ≤ t ∧ t < b + i + (m + 1)
          · rw [if_pos (by omega), if_neg (by omega), if_neg (by omega), if_pos e4]
          · rw [if_neg (by omega), if_neg e4, if_neg (by omega), if_neg (by omega)]
/-! Rotation -/
def rotF (m : Nat) (p : Nat × Set) : Set := swapR (m - p.1) m p.1 0 p.2
theorem rotF_rp (m : Nat) : ∀ (k i j : Nat) (l : Set), 0 < i → 0 < j → i + j ≤ k + 1 → i ≤ m → RP (m - i) (m + j) l (rotF m (rotA m k i j l))
  | 0, i, j, l, h1, h2, h3, h4 => by omega
  | k + 1, i, j, l, h1, h2, h3, h4 => by
    rw [rotA]
    split
    · rename_i e
      subst e
      exact swapR_rp _ _ _ _ _ _ _ (by omega) (by omega) (by omega) (by omega)
    · split
      · have r1 := swapR_rp (m - i) (m + j) (m - i) m j 0 l (by omega) (by omega) (by omega) (by omega)
        have r2 := rotF_rp m k (i - j) j (swapR (m - i) m j 0 l) (by omega) (by omega) (by omega) (by omega)
        exact r1.trans (r2.mono (by omega) (by omega))
      · have r1 := swapR_rp (m - i) (m + j) (m - i) (m + j - i) i 0 l (by omega) (by omega) (by omega) (by omega)
        have r2 := rotF_rp m k i (j - i) (swapR (m - i) (m + j - i) i 0 l) (by omega) (by omega) (by omega) (by omega)
        exact r1.trans (r2.mono (by omega) (by omega))
theorem rotF_at (m : Nat) : ∀ (k i j : Nat) (l : Set) (t : Nat), 0 < i → 0 < j → i + j ≤ k + 1 → i ≤ m → m + j ≤ l.length →
    rowAt (rotF m (rotA m k i j l)) t = if m - i ≤ t ∧ t < m - i + j then rowAt l (t + i) else if m - i + j ≤ t ∧ t < m + j then rowAt l (t - j) else rowAt l t
  | 0, i, j, l, t, h1, h2, h3, h4, h5 => by omega
  | k + 1, i, j, l, t, h1, h2, h3, h4, h5 => by
    rw [rotA]
    split
    · rename_i e
      subst e
      unfold rotF
      rw [swapR_at _ _ _ _ _ _ (by omega) (by dsimp only; omega)]
      dsimp only
      (repeat' split) <;> first | rfl | (congr 1; omega) | (exfalso; omega)
    · split
      · rw [rotF_at m k (i - j) j _ t (by omega) (by omega) (by omega) (by omega) (by rw [swapR_len]; omega)]
        have hw := fun t => swapR_at (m - i) m j 0 l t (by omega) (by omega)
        rw [hw, hw, hw]
        (repeat' split) <;> first | rfl | (congr 1; omega) | (exfalso; omega)
      · rw [rotF_at m k i (j - i) _ t (by omega) (by omega) (by omega) (by omega) (by rw [swapR_len]; omega)]
        have hw := fun t => swapR_at (m - i) (m + j - i) i 0 l t (by omega) (by omega)
        rw [hw, hw, hw]
        (repeat' split) <;> first | rfl | (congr 1; omega) | (exfalso; omega)
theorem rotS_rp {a m b : Nat} (l : Set) (h1 : a < m) (h2 : m < b) : RP a b l (rotS a m b l) := by
  have := rotF_rp m (b - a) (m - a) (b - m) l (by omega) (by omega) (by omega) (by omega)
  rw [show m - (m - a) = a by omega, show m + (b - m) = b by omega] at this; exact this
theorem rotS_at {a m b : Nat} (l : Set) (h1 : a < m) (h2 : m < b) (hb : b ≤ l.length) (t : Nat) : rowAt (rotS a m b l) t = if a ≤ t ∧ t < a + (b - m) then rowAt l (t + (m - a)) else if a + (b - m) ≤ t ∧ t < b then rowAt l (t - (b - m)) else rowAt l t := by
  have := rotF_at m (b - a) (m - a) (b - m) l t (by omega) (by omega) (by omega) (by omega) (by omega)
  rw [show m - (m - a) = a by omega, show m + (b - m) = b by omega] at this; exact this

/-! Binary search -/
theorem bsG_spec (p : Nat → Bool) : ∀ (k i j : Nat), i ≤ j → j - i ≤ k → i ≤ bsG p k i j ∧ bsG p k i j ≤ j ∧ (bsG p k i j = i ∨ p (bsG p k i j - 1) = true) ∧ (bsG p k i j = j ∨ p (bsG p k i j) = false)
  | 0, i, j, h, h' => by
    rw [bsG]; exact ⟨Nat.le_refl _, h, Or.inl rfl, Or.inl (by omega)⟩
  | k + 1, i, j, h, h' => by
    rw [bsG]
    split
    · split
      · rename_i hp
        obtain ⟨a, b, c, d⟩ := bsG_spec p k ((i + j) / 2 + 1) j (by omega) (by omega)
        refine ⟨by omega, b, Or.inr ?_, d⟩
        rcases c with c | c
        · rw [c]; simpa using hp
        · exact c
      · rename_i hp
        obtain ⟨a, b, c, d⟩ := bsG_spec p k i ((i + j) / 2) (by omega) (by omega)
        refine ⟨a, by omega, c, Or.inr ?_⟩
        rcases d with d | d
        · rw [d]; simpa using hp
        · exact d
    · exact ⟨Nat.le_refl _, h, Or.inl rfl, Or.inl (by omega)⟩
/-- Where symMerge parts the halves. -/
structure StOk (a m b st en : Nat) (l : Set) : Prop where
  eq : en = (a + b) / 2 + m - st
  s1 : a ≤ st
  s2 : st ≤ m
  s3 : st ≤ (a + b) / 2
  e1 : m ≤ en
  e2 : (a + b) / 2 ≤ en
  e3 : en ≤ b
  lo : st = a ∨ en = b ∨ Row.cmp (rowAt l (st - 1)) (rowAt l en) ≤ 0
  hi : st = m ∨ st = (a + b) / 2 ∨ Row.cmp (rowAt l (en - 1)) (rowAt l st) ≤ 0
theorem symSt_ok (a m b : Nat) (l : Set) (h1 : a < m) (h2 : m < b) : StOk a m b (symSt a m b l) ((a + b) / 2 + m - symSt a m b l) l := by
  unfold symSt
  split
  · rename_i hc
    obtain ⟨q1, q2, q3, q4⟩ := bsG_spec (p136_4 l a m b ((a + b) / 2) ((a + b) / 2 + m) ((a + b) / 2 + m - 1)) ((a + b) / 2 - ((a + b) / 2 + m - b)) ((a + b) / 2 + m - b) ((a + b) / 2) (by omega) (by omega)
    generalize bsG (p136_4 l a m b ((a + b) / 2) ((a + b) / 2 + m) ((a + b) / 2 + m - 1)) ((a + b) / 2 - ((a + b) / 2 + m - b)) ((a + b) / 2 + m - b) ((a + b) / 2) = st at *
    refine ⟨rfl, by omega, by omega, by omega, by omega, by omega, by omega, ?_, ?_⟩
    · rcases q3 with q3 | q3
      · right; left; omega
      · by_cases e : st = 0
        · left; omega
        right; right
        unfold p136_4 at q3
        rw [show (a + b) / 2 + m - 1 - (st - 1) = (a + b) / 2 + m - st by omega] at q3
        have := Row.cmp_anti (rowAt l ((a + b) / 2 + m - st)) (rowAt l (st - 1))
        simp only [Bool.not_eq_true', decide_eq_false_iff_not] at q3
        omega
    · rcases q4 with q4 | q4
      · right; left; exact q4
      · right; right
        unfold p136_4 at q4
        rw [show (a + b) / 2 + m - 1 - st = (a + b) / 2 + m - st - 1 by omega] at q4
        simp only [Bool.not_eq_false', decide_eq_true_eq] at q4
        omega
  · rename_i hc
    obtain ⟨q1, q2, q3, q4⟩ := bsG_spec (p136_4 l a m b ((a + b) / 2) ((a + b) / 2 + m) ((a + b) / 2 + m - 1)) (m - a) a m (by omega) (by omega)
    generalize bsG (p136_4 l a m b ((a + b) / 2) ((a + b) / 2 + m) ((a + b) / 2 + m - 1)) (m - a) a m = st at *
    refine ⟨rfl, by omega, by omega, by omega, by omega, by omega, by omega, ?_, ?_⟩
    · rcases q3 with q3 | q3
      · left; exact q3
      · by_cases e : st = a
        · left; exact e
        right; right
        unfold p136_4 at q3
        rw [show (a + b) / 2 + m - 1 - (st - 1) = (a + b) / 2 + m - st by omega] at q3
        have := Row.cmp_anti (rowAt l ((a + b) / 2 + m - st)) (rowAt l (st - 1))
        simp only [Bool.not_eq_true', decide_eq_false_iff_not] at q3
        omega
    · rcases q4 with q4 | q4
      · left; exact q4
      · right; right
        unfold p136_4 at q4
        rw [show (a + b) / 2 + m - 1 - st = (a + b) / 2 + m - st - 1 by omega] at q4
        simp only [Bool.not_eq_false', decide_eq_true_eq] at q4
        omega
def rot1 (st m en : Nat) (l : Set) : Set := if st < m ∧ m < en then rotS st m en l else l
theorem rot1_rp {a b st m en : Nat} (l : Set) (h1 : a ≤ st) (h2 : en ≤ b) : RP a b l (rot1 st m en l) := by
  unfold rot1
  split
  · rename_i hc; exact (rotS_rp l hc.1 hc.2).mono h1 h2
  · exact RP.refl _ _ _
theorem rot1_at {st m en : Nat} (l : Set) (h1 : st ≤ m) (h2 : m ≤ en) (hb : en ≤ l.length) (t : Nat) : rowAt (rot1 st m en l) t = if st ≤ t ∧ t < st + (en - m) then rowAt l (t + (m - st)) else if st + (en - m) ≤ t ∧ t < en then rowAt l (t - (en - m)) else rowAt l t := by
  unfold rot1
  split
  · rename_i hc; exact rotS_at l hc.1 hc.2 hb t
  · rename_i hc
    (repeat' split) <;> first | rfl | (congr 1; omega) | (exfalso; omega)
def sub1 (k a st q : Nat) (l : Set) : Set := if a < st ∧ st < q then symS k a st q l else l
theorem symS_succ (k a m b : Nat) (l : Set) : symS (k + 1) a m b l =
    if m = a + 1 then bubR (bsG (p136_0 l a) (b - m) m b - 1 - a) a l
    else if b = m + 1 then bubL (m - bsG (p136_2 l m) (m - a) a m) m l
    else sub1 k ((a + b) / 2) ((a + b) / 2 + m - symSt a m b l) b (sub1 k a (symSt a m b l) ((a + b) / 2) (rot1 (symSt a m b l) m ((a + b) / 2 + m - symSt a m b l) l)) := by
  rw [symS]; rfl
theorem symS_rp : ∀ (k a m b : Nat) (l : Set), a < m → m < b → b ≤ l.length → RP a b l (symS k a m b l)
  | 0, a, m, b, l, h1, h2, h3 => by rw [symS]; exact RP.refl _ _ _
  | k + 1, a, m, b, l, h1, h2, h3 => by
    rw [symS_succ]
    split
    · obtain ⟨q1, q2, q3, q4⟩ := bsG_spec (p136_0 l a) (b - m) m b (by omega) (by omega)
      exact bubR_rp _ _ _ _ _ (by omega) (by omega)
    · split
      · obtain ⟨q1, q2, q3, q4⟩ := bsG_spec (p136_2 l m) (m - a) a m (by omega) (by omega)
        exact bubL_rp _ _ _ _ _ (by omega) (by omega)
      · have ok := symSt_ok a m b l h1 h2
        generalize symSt a m b l = st at *
        generalize (a + b) / 2 + m - st = en at *
        have r1 := rot1_rp (a := a) (b := b) (m := m) l ok.s1 ok.e3
        generalize rot1 st m en l = l1 at *
        have l1l := r1.len
        have r2 : RP a b l1 (sub1 k a st ((a + b) / 2) l1) := by
          unfold sub1
          split
          · rename_i hc
            exact (symS_rp k a st ((a + b) / 2) l1 hc.1 hc.2 (by omega)).mono (Nat.le_refl _) (by omega)
          · exact RP.refl _ _ _
        generalize sub1 k a st ((a + b) / 2) l1 = l2 at *
        have l2l := r2.len
        refine (r1.trans r2).trans ?_
        unfold sub1
        split
        · rename_i hc
          exact (symS_rp k ((a + b) / 2) en b l2 hc.1 hc.2 (by omega)).mono (by omega) (Nat.le_refl _)
        · exact RP.refl _ _ _
theorem symS_sr : ∀ (k a m b : Nat) (l : Set), a < m → m < b → b ≤ l.length → b - a ≤ 2 ^ k → RR l → SR a m l → SR m b l → SR a b (symS k a m b l)
  | 0, a, m, b, l, h1, h2, h3, h4, hr, s1, s2 => by omega
  | k + 1, a, m, b, l, h1, h2, h3, h4, hr, s1, s2 => by
    rw [symS_succ]
    split
    · rename_i hm
      obtain ⟨q1, q2, q3, q4⟩ := bsG_spec (p136_0 l a) (b - m) m b (by omega) (by omega)
      generalize bsG (p136_0 l a) (b - m) m b = r at *
      have hq3 : r = m ∨ Row.cmp (rowAt l (r - 1)) (rowAt l a) ≤ 0 := by
        rcases q3 with q3 | q3
        · exact Or.inl q3
        · right; unfold p136_0 at q3; simp only [decide_eq_true_eq] at q3; omega
      have hq4 : r = b ∨ Row.cmp (rowAt l a) (rowAt l r) ≤ 0 := by
        rcases q4 with q4 | q4
        · exact Or.inl q4
        · right; unfold p136_0 at q4; simp only [decide_eq_false_iff_not] at q4
          have := Row.cmp_anti (rowAt l r) (rowAt l a); omega
      intro p q p1 p2 p3
      have hat := fun t => bubR_at (r - 1 - a) a l t (by omega)
      rw [hat, hat]
      by_cases e1 : q = a + (r - 1 - a)
      · rw [if_pos e1, if_neg (by omega), if_pos (by omega)]
        have : Row.cmp (rowAt l (p + 1)) (rowAt l (r - 1)) ≤ 0 := s2.le hr (by omega) (by omega) (by omega)
        rcases hq3 with hq3 | hq3
        · omega
        · exact cmp_le_trans (hr _) (hr _) (hr _) this hq3
      · rw [if_neg e1]
        by_cases e2 : p = a + (r - 1 - a)
        · rw [if_pos e2, if_neg (by omega)]
          rcases hq4 with hq4 | hq4
          · omega
          · exact cmp_le_trans (hr _) (hr _) (hr _) hq4 (s2.le hr (by omega) (by omega) (by omega))
        · rw [if_neg e2]
          split <;> split <;> first | (exfalso; omega) | exact s2.le hr (by omega) (by omega) (by omega)
    · split
      · rename_i hm0 hm
        obtain ⟨q1, q2, q3, q4⟩ := bsG_spec (p136_2 l m) (m - a) a m (by omega) (by omega)
        generalize bsG (p136_2 l m) (m - a) a m = r at *
        have hq3 : r = a ∨ Row.cmp (rowAt l (r - 1)) (rowAt l m) ≤ 0 := by
          rcases q3 with q3 | q3
          · exact Or.inl q3
          · right; unfold p136_2 at q3; simp only [Bool.not_eq_true', decide_eq_false_iff_not] at q3
            have := Row.cmp_anti (rowAt l m) (rowAt l (r - 1)); omega
        have hq4 : r = m ∨ Row.cmp (rowAt l m) (rowAt l r) ≤ 0 := by
          rcases q4 with q4 | q4
          · exact Or.inl q4
          · right; unfold p136_2 at q4; simp only [Bool.not_eq_false', decide_eq_true_eq] at q4; omega
        intro p q p1 p2 p3
        have hat := fun t => bubL_at (m - r) m l t (by omega) (by omega)
        rw [hat, hat]
        by_cases e1 : q = m - (m - r)
        · rw [if_pos e1, if_neg (by omega), if_neg (by omega)]
          rcases hq3 with hq3 | hq3
          · omega
          · exact cmp_le_trans (hr _) (hr _) (hr _) (s1.le hr (by omega) (by omega) (by omega)) hq3
        · rw [if_neg e1]
          by_cases e2 : p = m - (m - r)
          · rw [if_pos e2, if_pos (by omega)]
            rcases hq4 with hq4 | hq4
            · omega
            · exact cmp_le_trans (hr _) (hr _) (hr _) hq4 (s1.le hr (by omega) (by omega) (by omega))
          · rw [if_neg e2]
            split <;> split <;> first | (exfalso; omega) | exact s1.le hr (by omega) (by omega) (by omega)
      · have ok := symSt_ok a m b l h1 h2
        generalize symSt a m b l = st at *
        generalize hen : (a + b) / 2 + m - st = en at *
        have hat := rot1_at (st := st) (m := m) (en := en) l ok.s2 ok.e1 (by have := ok.e3; omega)
        have r1 := rot1_rp (a := a) (b := b) (m := m) l ok.s1 ok.e3
        generalize rot1 st m en l = l1 at *
        have l1l := r1.len
        have hr1 := r1.rr hr
        obtain ⟨o1, o2, o3, o4, o5, o6, o7, olo, ohi⟩ := ok
        have hmid : st + (en - m) = (a + b) / 2 := by omega
        rw [hmid] at hat
        generalize hq : (a + b) / 2 = mid at *
        have c1 : SR a st l1 := by
          intro p q p1 p2 p3
          rw [hat, hat, if_neg (by omega), if_neg (by omega), if_neg (by omega), if_neg (by omega)]
          exact s1.le hr (by omega) (by omega) (by omega)
        have c2 : SR st mid l1 := by
          intro p q p1 p2 p3
          rw [hat, hat, if_pos (by omega), if_pos (by omega)]
          exact s2.le hr (by omega) (by omega) (by omega)
        have c3 : SR mid en l1 := by
          intro p q p1 p2 p3
          rw [hat, hat, if_neg (by omega), if_pos (by omega), if_neg (by omega), if_pos (by omega)]
          exact s1.le hr (by omega) (by omega) (by omega)
        have c4 : SR en b l1 := by
          intro p q p1 p2 p3
          rw [hat, hat, if_neg (by omega), if_neg (by omega), if_neg (by omega), if_neg (by omega)]
          exact s2.le hr (by omega) (by omega) (by omega)
        have cross : ∀ p q, a ≤ p → p < mid → mid ≤ q → q < b → Row.cmp (rowAt l1 p) (rowAt l1 q) ≤ 0 := by
          intro p q p1 p2 p3 p4
          rw [hat, hat, if_neg (show ¬ (st ≤ q ∧ q < mid) by omega)]
          by_cases e1 : p < st
          · rw [if_neg (by omega), if_neg (by omega)]
            by_cases e2 : q < en
            · rw [if_pos (by omega)]
              exact s1.le hr (by omega) (by omega) (by omega)
            · rw [if_neg (by omega)]
              rcases olo with h | h | h
              · omega
              · omega
              · exact cmp_le_trans (hr _) (hr _) (hr _) (s1.le hr (by omega) (by omega) (by omega)) (cmp_le_trans (hr _) (hr _) (hr _) h (s2.le hr (by omega) (by omega) (by omega)))
          · rw [if_pos (by omega)]
            by_cases e2 : q < en
            · rw [if_pos (by omega)]
              rcases ohi with h | h | h
              · omega
              · omega
              · exact cmp_le_trans (hr _) (hr _) (hr _) (s2.le hr (by omega) (by omega) (by omega)) (cmp_le_trans (hr _) (hr _) (hr _) h (s1.le hr (by omega) (by omega) (by omega)))
            · rw [if_neg (by omega)]
              exact s2.le hr (by omega) (by omega) (by omega)
        have hp2 : (2 : Nat) ^ (k + 1) = 2 * 2 ^ k := by rw [Nat.pow_succ]; omega
        have r2 : RP a mid l1 (sub1 k a st mid l1) ∧ SR a mid (sub1 k a st mid l1) := by
          unfold sub1
          split
          · rename_i hc
            exact ⟨symS_rp k a st mid l1 hc.1 hc.2 (by omega), symS_sr k a st mid l1 hc.1 hc.2 (by omega) (by omega) hr1 c1 c2⟩
          · rename_i hc
            refine ⟨RP.refl _ _ _, ?_⟩
            by_cases e : st = a
            · rw [e] at c2; exact c2
            · rw [show st = mid by omega] at c1; exact c1
        generalize sub1 k a st mid l1 = l2 at *
        obtain ⟨r2, d2⟩ := r2
        have l2l := r2.len
        have hr2 := r2.rr hr1
        have c3' : SR mid en l2 := c3.out r2 (by omega)
        have c4' : SR en b l2 := c4.out r2 (by omega)
        have r3 : RP mid b l2 (sub1 k mid en b l2) ∧ SR mid b (sub1 k mid en b l2) := by
          unfold sub1
          split
          · rename_i hc
            exact ⟨symS_rp k mid en b l2 hc.1 hc.2 (by omega), symS_sr k mid en b l2 hc.1 hc.2 (by omega) (by omega) hr2 c3' c4'⟩
          · rename_i hc
            refine ⟨RP.refl _ _ _, ?_⟩
            by_cases e : en = mid
            · rw [e] at c4'; exact c4'
            · rw [show en = b by omega] at c3'; exact c3'
        generalize sub1 k mid en b l2 = l3 at *
        obtain ⟨r3, d3⟩ := r3
        have d2' : SR a mid l3 := d2.out r3 (by omega)
        intro p q p1 p2 p3
        by_cases e1 : q < mid
        · exact d2' p q p1 p2 e1
        · by_cases e2 : mid ≤ p
          · exact d3 p q e2 p2 p3
          · obtain ⟨p', g1, g2, g3⟩ := r2.insR p p1 (by omega)
            obtain ⟨q', k1, k2, k3⟩ := r3.insR q (by omega) p3
            rw [r3.outR p (by omega), g3, k3, r2.outR q' (by omega)]
            exact cross p' q' g1 g2 k1 k2
end Go.Vm.B
