/- Walks: two words divided by one. -/
import Derived.Test.YteknjhamekpfjaaModM
namespace Go.Proofs.Yteknjhamekpfjaa
open Go.Eng Go.Num
set_option maxHeartbeats 2000000
set_option maxRecDepth 10000
set_option linter.unusedVariables false
set_option linter.unusedSimpArgs false
variable {P : Program} {G : Nat → AV}

/-- One half step of the division: what is known of the guess. -/
structure DivI (u y1 y0 d q r : Int) : Prop where
  q0 : 0 ≤ q
  q1 : q ≤ 4294967297
  ge : (u * 4294967296 + d) / (y1 * 4294967296 + y0) ≤ q
  rem : r = u - q * y1
  r0 : 0 ≤ r
structure DivN (u y1 y0 d : Int) : Prop where
  h1 : 2147483648 ≤ y1 ∧ y1 < 4294967296
  h0 : 0 ≤ y0 ∧ y0 < 4294967296
  u0 : 0 ≤ u
  ult : u < y1 * 4294967296 + y0
  d0 : 0 ≤ d ∧ d < 4294967296
theorem DivN.pos {u y1 y0 d : Int} (h : DivN u y1 y0 d) : 0 < y1 * 4294967296 + y0 := by have := h.h1; have := h.h0; omega
theorem div_ge {X Y q : Int} (hY : 0 < Y) (h : X < (q + 1) * Y) : X / Y ≤ q := by
  have := Int.ediv_lt_of_lt_mul hY h
  omega
theorem div_le {X Y q : Int} (hY : 0 < Y) (h : q * Y ≤ X) : q ≤ X / Y := (Int.le_ediv_iff_mul_le hY).2 h
/-- The first guess. -/
theorem div_first {u y1 y0 d : Int} (h : DivN u y1 y0 d) : DivI u y1 y0 d (u / y1) (u - u / y1 * y1) ∧ u - u / y1 * y1 < 4294967296 := by
  have h1 := h.h1
  have h0 := h.h0
  have hd := h.d0
  have hu := h.u0
  have hlt := h.ult
  have e := Int.mul_ediv_add_emod u y1
  have r0 := Int.emod_nonneg u (b := y1) (by omega)
  have r1 := Int.emod_lt_of_pos u (b := y1) (by omega)
  have q0 : 0 ≤ u / y1 := Int.ediv_nonneg hu (by omega)
  rw [Int.mul_comm] at e
  refine ⟨⟨q0, ?_, ?_, rfl, by omega⟩, by omega⟩
  · refine div_ge (by omega) ?_
    have : (4294967297 + 1) * y1 = 4294967296 * y1 + 2 * y1 := by omega
    omega
  · refine div_ge h.pos ?_
    generalize u / y1 = q at *
    have e2 : (q + 1) * (y1 * 4294967296 + y0) = (q * y1 + y1) * 4294967296 + (q + 1) * y0 := by grind
    have h3 : 0 ≤ (q + 1) * y0 := Int.mul_nonneg (by omega) h0.1
    omega
/-- The guess fits. -/
theorem div_fit {u y1 y0 d q r : Int} (h : DivN u y1 y0 d) (k : DivI u y1 y0 d q r) (hq : q < 4294967296) (ht : q * y0 ≤ 4294967296 * r + d) : q = (u * 4294967296 + d) / (y1 * 4294967296 + y0) := by
  have h1 := h.h1
  refine Int.le_antisymm (div_le h.pos ?_) k.ge
  have e : q * (y1 * 4294967296 + y0) = (q * y1) * 4294967296 + q * y0 := by grind
  have := k.rem
  omega
/-- The guess is too great. -/
theorem div_down {u y1 y0 d q r : Int} (h : DivN u y1 y0 d) (k : DivI u y1 y0 d q r) (ht : 4294967296 ≤ q ∨ 4294967296 * r + d < q * y0) : DivI u y1 y0 d (q - 1) (r + y1) ∧ q - 1 ≤ 4294967296 := by
  have h1 := h.h1
  have h0 := h.h0
  have hd := h.d0
  have q1 := k.q1
  have hr := k.rem
  have hr0 := k.r0
  have hqQ : (u * 4294967296 + d) / (y1 * 4294967296 + y0) ≤ q - 1 := by
    refine div_ge h.pos ?_
    rw [Int.sub_add_cancel]
    rcases ht with ht | ht
    · have e : 4294967296 * (y1 * 4294967296 + y0) ≤ q * (y1 * 4294967296 + y0) := Int.mul_le_mul_of_nonneg_right ht (by omega)
      have := h.ult
      omega
    · have e : q * (y1 * 4294967296 + y0) = (q * y1) * 4294967296 + q * y0 := by grind
      omega
  have hQ0 : 0 ≤ (u * 4294967296 + d) / (y1 * 4294967296 + y0) := Int.ediv_nonneg (by have := h.u0; omega) (by omega)
  refine ⟨⟨by omega, by omega, hqQ, ?_, by omega⟩, by omega⟩
  rw [Int.sub_mul, hr]; omega
/-- The rest is so great that the guess fits. -/
theorem div_brk {u y1 y0 d q r : Int} (h : DivN u y1 y0 d) (k : DivI u y1 y0 d q r) (hq : q ≤ 4294967296) (hr : 4294967296 ≤ r) : q = (u * 4294967296 + d) / (y1 * 4294967296 + y0) := by
  have h1 := h.h1
  have h0 := h.h0
  have hd := h.d0
  refine Int.le_antisymm (div_le h.pos ?_) k.ge
  have e : q * (y1 * 4294967296 + y0) = (q * y1) * 4294967296 + q * y0 := by grind
  have e2 : q * y0 ≤ 4294967296 * y0 := Int.mul_le_mul_of_nonneg_right hq h0.1
  have := k.rem
  omega
theorem div_lt32 {u y1 y0 d : Int} (h : DivN u y1 y0 d) : 0 ≤ (u * 4294967296 + d) / (y1 * 4294967296 + y0) ∧ (u * 4294967296 + d) / (y1 * 4294967296 + y0) < 4294967296 := by
  have hd := h.d0
  have hlt := h.ult
  refine ⟨Int.ediv_nonneg (by have := h.u0; omega) (Int.le_of_lt h.pos), Int.ediv_lt_of_lt_mul h.pos ?_⟩
  omega

/-- Two half steps are one step. -/
theorem div_two {A y u1 u0 Q1 R1 Q0 : Int} (hy : 0 < y) (h1 : Q1 = (A * 4294967296 + u1) / y) (hr : R1 = (A * 4294967296 + u1) % y) (h0 : Q0 = (R1 * 4294967296 + u0) / y) :
    Q1 * 4294967296 + Q0 = ((A * 4294967296 + u1) * 4294967296 + u0) / y := by
  have e1 := Int.mul_ediv_add_emod (A * 4294967296 + u1) y
  rw [← h1, ← hr] at e1
  rw [← e1, Int.add_mul, Int.mul_assoc, Int.add_assoc, Int.add_comm (y * (Q1 * 4294967296)), Int.add_mul_ediv_left _ _ (by omega), ← h0]; omega
end Go.Proofs.Yteknjhamekpfjaa
