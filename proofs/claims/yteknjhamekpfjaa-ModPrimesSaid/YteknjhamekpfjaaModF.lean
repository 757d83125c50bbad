/- Walks: the product of two words; Montgomery's product. -/
import Derived.Test.YteknjhamekpfjaaModE
namespace Go.Proofs.Yteknjhamekpfjaa
open Go.Eng Go.Num
set_option maxHeartbeats 1000000
set_option maxRecDepth 10000
set_option linter.unusedVariables false
set_option linter.unusedSimpArgs false
variable {P : Program} {G : Nat → AV}

theorem band32 {x : Int} (h : W1 x) : band .u64 x 4294967295 = x % 4294967296 := by
  unfold band
  rw [BitVec.toNat_and, bits64 h, bits64 (by omega), show (4294967295 : Int).toNat = 2 ^ 32 - 1 from rfl, Nat.and_two_pow_sub_one_eq_mod, wrap_u64]
  omega
theorem mul_half {x y : Int} (hx : 0 ≤ x ∧ x < 4294967296) (hy : 0 ≤ y ∧ y < 4294967296) : 0 ≤ x * y ∧ x * y ≤ 18446744065119617025 := by
  have h1 : x * y ≤ 4294967295 * 4294967295 := Int.mul_le_mul (by omega) (by omega) (by omega) (by omega)
  have h0 : 0 ≤ x * y := Int.mul_nonneg hx.1 hy.1
  omega
theorem mul64_vc {x y : Int} (hx : W1 x) (hy : W1 y) : vc P G c54 (Ret [.t 4, .t 5] (.tup [u64 (x * y / 18446744073709551616), u64 (x * y % 18446744073709551616)])) (argFr 0 [u64 x, u64 y]) [] := by
  conv => whnf
  refine ⟨.inl rfl, .drop ⟨?_, rfl⟩⟩
  have s32 : ∀ {z : Int}, shr .u64 z 32 = z / 4294967296 := fun {z} => by
    have := shr_nn (k := .u64) (a := z) 32 (by decide)
    simpa using this
  simp only [s32]
  have w0 : ∀ {z : Int}, W1 z → band .u64 z 4294967295 = z % 4294967296 := fun h => band32 h
  rw [w0 hx, w0 hy]
  obtain ⟨x0, x1, hx0, hx1, rfl⟩ : ∃ x0 x1, (0 ≤ x0 ∧ x0 < 4294967296) ∧ (0 ≤ x1 ∧ x1 < 4294967296) ∧ x = x0 + 4294967296 * x1 := ⟨x % 4294967296, x / 4294967296, by omega, by omega, by omega⟩
  obtain ⟨y0, y1, hy0, hy1, rfl⟩ : ∃ y0 y1, (0 ≤ y0 ∧ y0 < 4294967296) ∧ (0 ≤ y1 ∧ y1 < 4294967296) ∧ y = y0 + 4294967296 * y1 := ⟨y % 4294967296, y / 4294967296, by omega, by omega, by omega⟩
  rw [show (x0 + 4294967296 * x1) / 4294967296 = x1 from by omega, show (x0 + 4294967296 * x1) % 4294967296 = x0 from by omega, show (y0 + 4294967296 * y1) / 4294967296 = y1 from by omega, show (y0 + 4294967296 * y1) % 4294967296 = y0 from by omega]
  have e : (x0 + 4294967296 * x1) * (y0 + 4294967296 * y1) = x0 * y0 + 4294967296 * (x1 * y0) + 4294967296 * (x0 * y1) + 18446744073709551616 * (x1 * y1) := by grind
  rw [e]
  have p00 := mul_half hx0 hy0
  have p10 := mul_half hx1 hy0
  have p01 := mul_half hx0 hy1
  have p11 := mul_half hx1 hy1
  clear e hx hy
  generalize x0 * y0 = a at *
  generalize x1 * y0 = b at *
  generalize x0 * y1 = c at *
  generalize x1 * y1 = d at *
  rw [show IntKind.u64.wrap a = a from by rw [wrap_u64]; omega, show IntKind.u64.wrap b = b from by rw [wrap_u64]; omega, show IntKind.u64.wrap c = c from by rw [wrap_u64]; omega, show IntKind.u64.wrap d = d from by rw [wrap_u64]; omega]
  rw [show IntKind.u64.wrap (b + a / 4294967296) = b + a / 4294967296 from by rw [wrap_u64]; omega, w0 (z := b + a / 4294967296) (by omega)]
  rw [show IntKind.u64.wrap ((b + a / 4294967296) % 4294967296 + c) = (b + a / 4294967296) % 4294967296 + c from by rw [wrap_u64]; omega]
  congr 1
  simp only [List.cons.injEq, AV.v.injEq, Value.int.injEq, true_and, and_true, wrap_u64]
  omega
/-- The product of two words: two words. -/
def Mul64Ok (P : Program) (G : Nat → AV) : Prop := ∀ {x y : Int}, W1 x → W1 y → Ans P G 54 [u64 x, u64 y] (.tup [u64 (x * y / 18446744073709551616), u64 (x * y % 18446744073709551616)])
end Go.Proofs.Yteknjhamekpfjaa
