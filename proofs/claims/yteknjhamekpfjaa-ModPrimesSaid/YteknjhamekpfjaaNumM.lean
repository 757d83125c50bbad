/- Plain facts: a modulus's numbers; Montgomery's products round by round. -/
import Derived.Test.YteknjhamekpfjaaNumB
namespace Go.Num
set_option linter.unusedVariables false
set_option linter.unusedSimpArgs false

/-- One step towards an odd word's inverse. -/
def nwt (m k : Int) : Int := (k * ((2 - (m * k) % 18446744073709551616) % 18446744073709551616)) % 18446744073709551616
/-- What times m is -1, of the lowest 64 bits. -/
def mk (m : Int) : Int := (0 - nwt (m % 18446744073709551616) (nwt (m % 18446744073709551616) (nwt (m % 18446744073709551616) (nwt (m % 18446744073709551616) (nwt (m % 18446744073709551616) (nwt (m % 18446744073709551616) (m % 18446744073709551616))))))) % 18446744073709551616
theorem nwt_step {m k : Int} (s t : Nat) (h : (2 : Int) ^ s ∣ m * k - 1) (h1 : t ≤ 64) (h2 : t ≤ s + s) : (2 : Int) ^ t ∣ m * nwt m k - 1 := by
  refine newton s t h ?_ h1 h2
  unfold nwt
  refine Int.dvd_of_emod_eq_zero ?_
  rw [Int.sub_emod, Int.emod_emod_of_dvd _ (Int.dvd_refl _), Int.mul_emod k ((2 - m * k % 18446744073709551616) % 18446744073709551616), Int.emod_emod_of_dvd _ (Int.dvd_refl _), Int.sub_emod 2 (m * k % 18446744073709551616), Int.emod_emod_of_dvd _ (Int.dvd_refl _), ← Int.sub_emod 2, ← Int.mul_emod, Int.sub_self]
  rfl
theorem mk_wd (m : Int) : 0 ≤ mk m ∧ mk m < 18446744073709551616 := by unfold mk; omega
theorem mk_spec {m : Int} (h : m % 2 = 1) : (m % 18446744073709551616 * mk m + 1) % 18446744073709551616 = 0 := by
  have hm : (m % 18446744073709551616) % 2 = 1 := by omega
  unfold mk
  generalize m % 18446744073709551616 = w at *
  have h3 : (2 : Int) ^ 3 ∣ w * w - 1 := by
    obtain ⟨j, rfl⟩ : ∃ j, w = 2 * j + 1 := ⟨w / 2, by omega⟩
    have e : (2 * j + 1) * (2 * j + 1) - 1 = 4 * (j * (j + 1)) := by grind
    have e2 : j * (j + 1) % 2 = 0 := by
      rcases Int.emod_two_eq j with q | q
      · rw [Int.mul_emod, q]; simp
      · rw [Int.mul_emod, show (j + 1) % 2 = 0 from by omega]; simp
    rw [e]
    generalize j * (j + 1) = z at *
    omega
  have h6 := nwt_step 3 6 h3 (by omega) (by omega)
  have h12 := nwt_step 6 12 h6 (by omega) (by omega)
  have h24 := nwt_step 12 24 h12 (by omega) (by omega)
  have h48 := nwt_step 24 48 h24 (by omega) (by omega)
  have h64 := nwt_step 48 64 h48 (by omega) (by omega)
  have h65 := nwt_step 64 64 h64 (by omega) (by omega)
  generalize nwt w (nwt w (nwt w (nwt w (nwt w (nwt w w))))) = k at *
  obtain ⟨c, hc⟩ := h65
  have e64 : (2 : Int) ^ 64 = 18446744073709551616 := by decide
  rw [e64] at hc
  have : w * ((0 - k) % 18446744073709551616) + 1 = 18446744073709551616 * (-c - w * ((0 - k) / 18446744073709551616)) := by
    have := Int.emod_def (0 - k) 18446744073709551616
    rw [this]; grind
  rw [this, Int.mul_emod_right]

/-- A round: what was in the words, and what is put on. -/
theorem montround {a m T T' W b u A U P : Int} (hP : 0 < P) (hW : W = T + a * b) (hT : 18446744073709551616 * T' = W + u * m) (hi : T * P = a * A + U * m) : T' * (18446744073709551616 * P) = a * (A + b * P) + (U + u * P) * m := by
  have : T' * (18446744073709551616 * P) = (18446744073709551616 * T') * P := by grind
  rw [this, hT, hW]
  grind
theorem montbound {a m T T' W b u : Int} (ha : 0 ≤ a ∧ a < m) (hb : 0 ≤ b ∧ b < 18446744073709551616) (hu : 0 ≤ u ∧ u < 18446744073709551616) (h0 : 0 ≤ T) (hT0 : T < a + m) (hW : W = T + a * b) (hT : 18446744073709551616 * T' = W + u * m) : 0 ≤ T' ∧ T' < a + m := by
  have h1 : 0 ≤ a * b := Int.mul_nonneg ha.1 hb.1
  have h2 : 0 ≤ u * m := Int.mul_nonneg hu.1 (by omega)
  have h3 : a * b ≤ a * (18446744073709551616 - 1) := Int.mul_le_mul_of_nonneg_left (by omega) ha.1
  have h4 : u * m ≤ (18446744073709551616 - 1) * m := Int.mul_le_mul_of_nonneg_right (by omega) (by omega)
  generalize a * b = x at *
  generalize u * m = y at *
  omega
/-- The lowest word is made nothing. -/
theorem montzero {m0 k t u : Int} (h : (m0 * k + 1) % 18446744073709551616 = 0) (hu : u = t * k % 18446744073709551616) : (u * m0 + t) % 18446744073709551616 = 0 := by
  have e : u * m0 + t = t * (m0 * k + 1) - 18446744073709551616 * (t * k / 18446744073709551616 * m0) := by
    have := Int.emod_def (t * k) 18446744073709551616
    rw [hu, this]; grind
  obtain ⟨c, hc⟩ := Int.dvd_of_emod_eq_zero h
  rw [e, hc]
  have : t * (18446744073709551616 * c) - 18446744073709551616 * (t * k / 18446744073709551616 * m0) = 18446744073709551616 * (t * c - t * k / 18446744073709551616 * m0) := by grind
  rw [this, Int.mul_emod_right]
end Go.Num
