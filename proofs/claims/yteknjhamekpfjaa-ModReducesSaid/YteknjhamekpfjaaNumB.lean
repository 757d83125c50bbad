/- Plain facts: sums, differences, word by word. -/
import Derived.Test.YteknjhamekpfjaaNumA
namespace Go.Num
set_option linter.unusedVariables false
set_option linter.unusedSimpArgs false

theorem B4 : (18446744073709551616 : Int) ^ 4 = 115792089237316195423570985008687907853269984665640564039457584007913129639936 := by decide
/-- Below 2^64. -/
abbrev W1 (a : Int) : Prop := 0 ≤ a ∧ a < 18446744073709551616
/-- Below 2^256. -/
abbrev N4 (a : Int) : Prop := 0 ≤ a ∧ a < 18446744073709551616 ^ 4
theorem fourN {n : Int} (h : N4 n) : ∃ x0 x1 x2 x3 : Int, dig 4 n = [x0, x1, x2, x3] ∧ W1 x0 ∧ W1 x1 ∧ W1 x2 ∧ W1 x3 ∧ n = x0 + 18446744073709551616 * (x1 + 18446744073709551616 * (x2 + 18446744073709551616 * x3)) := four h.1 h.2

theorem add4 {a b a0 a1 a2 a3 b0 b1 b2 b3 x0 x1 x2 x3 d0 d1 d2 d3 : Int} (ha : a = a0 + 18446744073709551616 * (a1 + 18446744073709551616 * (a2 + 18446744073709551616 * a3))) (hb : b = b0 + 18446744073709551616 * (b1 + 18446744073709551616 * (b2 + 18446744073709551616 * b3)))
    (l0 : W1 x0) (l1 : W1 x1) (l2 : W1 x2) (l3 : W1 x3) (e0 : a0 + b0 + 0 = x0 + 18446744073709551616 * d0) (e1 : a1 + b1 + d0 = x1 + 18446744073709551616 * d1) (e2 : a2 + b2 + d1 = x2 + 18446744073709551616 * d2) (e3 : a3 + b3 + d2 = x3 + 18446744073709551616 * d3) :
    dig 4 ((a + b) % 18446744073709551616 ^ 4) = [x0, x1, x2, x3] ∧ (a + b) / 18446744073709551616 ^ 4 = d3 := by
  have hs : a + b = 18446744073709551616 ^ 4 * d3 + (x0 + 18446744073709551616 * (x1 + 18446744073709551616 * (x2 + 18446744073709551616 * x3))) := by rw [B4]; omega
  have hx : 0 ≤ x0 + 18446744073709551616 * (x1 + 18446744073709551616 * (x2 + 18446744073709551616 * x3)) ∧ x0 + 18446744073709551616 * (x1 + 18446744073709551616 * (x2 + 18446744073709551616 * x3)) < 18446744073709551616 ^ 4 := by rw [B4]; omega
  rw [hs, Int.mul_add_emod_self_left, Int.emod_eq_of_lt hx.1 hx.2, Int.mul_add_ediv_left _ _ (by decide), Int.ediv_eq_zero_of_lt hx.1 hx.2]
  exact ⟨four_of l0 l1 l2 l3 rfl, by omega⟩
theorem sub4 {a b a0 a1 a2 a3 b0 b1 b2 b3 x0 x1 x2 x3 d0 d1 d2 d3 : Int} (ha : a = a0 + 18446744073709551616 * (a1 + 18446744073709551616 * (a2 + 18446744073709551616 * a3))) (hb : b = b0 + 18446744073709551616 * (b1 + 18446744073709551616 * (b2 + 18446744073709551616 * b3)))
    (l0 : W1 x0) (l1 : W1 x1) (l2 : W1 x2) (l3 : W1 x3) (e0 : a0 - b0 - 0 = x0 - 18446744073709551616 * d0) (e1 : a1 - b1 - d0 = x1 - 18446744073709551616 * d1) (e2 : a2 - b2 - d1 = x2 - 18446744073709551616 * d2) (e3 : a3 - b3 - d2 = x3 - 18446744073709551616 * d3)
    (hd : 0 ≤ d3 ∧ d3 ≤ 1) (hA : N4 a) (hB : N4 b) : dig 4 ((a - b) % 18446744073709551616 ^ 4) = [x0, x1, x2, x3] ∧ d3 = if a < b then 1 else 0 := by
  have hs : a - b = 18446744073709551616 ^ 4 * (-d3) + (x0 + 18446744073709551616 * (x1 + 18446744073709551616 * (x2 + 18446744073709551616 * x3))) := by rw [B4]; omega
  have hx : 0 ≤ x0 + 18446744073709551616 * (x1 + 18446744073709551616 * (x2 + 18446744073709551616 * x3)) ∧ x0 + 18446744073709551616 * (x1 + 18446744073709551616 * (x2 + 18446744073709551616 * x3)) < 18446744073709551616 ^ 4 := by rw [B4]; omega
  refine ⟨?_, ?_⟩
  · rw [hs, Int.mul_add_emod_self_left, Int.emod_eq_of_lt hx.1 hx.2]
    exact four_of l0 l1 l2 l3 rfl
  · obtain ⟨hA1, hA2⟩ := hA
    obtain ⟨hB1, hB2⟩ := hB
    rw [B4] at hs hx hA2 hB2
    split <;> omega

/-! ### Montgomery's product -/
theorem mul_ub {x y : Int} (hx : W1 x) (hy : W1 y) : 0 ≤ x * y ∧ x * y ≤ 340282366920938463426481119284349108225 := by
  have h1 : x * y ≤ (18446744073709551616 - 1) * (18446744073709551616 - 1) := Int.mul_le_mul (by omega) (by omega) (by omega) (by omega)
  have h0 : 0 ≤ x * y := Int.mul_nonneg hx.1 hy.1
  omega
end Go.Num
