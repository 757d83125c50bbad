/- Plain laws over der: what was put is got. -/
import Derived.Test.YtmkgbegneiaaiaaDerM
namespace Go.Proofs.Ytmkgbegneiaaiaa
open Go.Eng
set_option maxHeartbeats 1000000
set_option linter.unusedVariables false
set_option linter.unusedSimpArgs false

theorem ofNat_toNat {n : Nat} (h : n < 256) : (UInt8.ofNat n).toNat = n := by rw [UInt8.toNat_ofNat']; omega
theorem get_put (tag : UInt8) (m : List UInt8) (ht : ¬ tag.toNat % 32 = 31) (hm : m.length < 65536) : ∃ h, getS (putS tag m) = some (h, m.length) ∧ (putS tag m).drop h = m ∧ (putS tag m).getD 0 0 = tag ∧ h + m.length = (putS tag m).length ∧ h ≤ 4 := by
  by_cases h1 : m.length < 128
  · have e : putS tag m = tag :: UInt8.ofNat m.length :: m := by rw [putS, if_pos h1]
    have hn : (UInt8.ofNat m.length).toNat = m.length := ofNat_toNat (by omega)
    have hg : getN (tag :: UInt8.ofNat m.length :: m) = some (2, m.length) := by
      simp only [getN, if_neg ht, hn]
      split <;> first | omega | simp [h1]
    refine ⟨2, ?_, by rw [e]; rfl, by rw [e]; rfl, by rw [e]; simp; omega, by omega⟩
    rw [e, getS, hg]
    simp only
    rw [if_pos (by simp; omega)]
  · by_cases h2 : m.length < 256
    · have e : putS tag m = tag :: 129 :: UInt8.ofNat m.length :: m := by rw [putS, if_neg h1, if_pos h2]
      have hn : (UInt8.ofNat m.length).toNat = m.length := ofNat_toNat (by omega)
      have hg : getN (tag :: 129 :: UInt8.ofNat m.length :: m) = some (3, m.length) := by
        have h129 : (129 : UInt8).toNat = 129 := rfl
        simp only [getN, if_neg ht, h129, hn, if_neg h1]
      refine ⟨3, ?_, by rw [e]; rfl, by rw [e]; rfl, by rw [e]; simp; omega, by omega⟩
      rw [e, getS, hg]
      simp only
      rw [if_pos (by simp; omega)]
    · have e : putS tag m = tag :: 130 :: UInt8.ofNat (m.length / 256) :: UInt8.ofNat m.length :: m := by rw [putS, if_neg h1, if_neg h2, if_pos hm]
      have hn : (UInt8.ofNat (m.length / 256)).toNat = m.length / 256 := ofNat_toNat (by omega)
      have hn2 : (UInt8.ofNat m.length).toNat = m.length % 256 := by rw [UInt8.toNat_ofNat']
      have hg : getN (tag :: 130 :: UInt8.ofNat (m.length / 256) :: UInt8.ofNat m.length :: m) = some (4, m.length) := by
        have h130 : (130 : UInt8).toNat = 130 := rfl
        simp only [getN, if_neg ht, h130, hn, hn2]
        rw [if_neg (by omega)]
        congr 2
        omega
      refine ⟨4, ?_, by rw [e]; rfl, by rw [e]; rfl, by rw [e]; simp; omega, by omega⟩
      rw [e, getS, hg]
      simp only
      rw [if_pos (by simp; omega)]
theorem whole_nat (l : List UInt8) : wholeS (natS l) = some (l.dropWhile (· == 0)) := by
  induction l with
  | nil => rfl
  | cons c r ih =>
    by_cases hz : c.toNat = 0
    · rw [natS_zero c r hz, dropWhile_zero hz]; exact ih
    · rw [natS_one hz, dropWhile_one hz]
      split
      · rename_i h
        rw [whole_spec, if_pos ⟨by rw [natS_one hz, if_pos h], h⟩, dropWhile_one hz]
      · rename_i h
        rw [whole_spec, if_pos ⟨by rw [natS_zero 0 _ rfl, natS_one hz, if_neg h], by decide⟩, dropWhile_zero rfl, dropWhile_one hz]
end Go.Proofs.Ytmkgbegneiaaiaa
