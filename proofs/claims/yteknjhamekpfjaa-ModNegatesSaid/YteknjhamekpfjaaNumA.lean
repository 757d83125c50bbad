/- Plain facts: numbers as words of 64 bits; powers and inverses by a modulus. -/
namespace Go.Num
set_option linter.unusedVariables false
set_option linter.unusedSimpArgs false


/-- What words are worth, the lowest first. -/
def val : List Int → Int
  | [] => 0
  | x :: r => x + 18446744073709551616 * val r
/-- All below 2^64. -/
def Wd (l : List Int) : Prop := ∀ x ∈ l, 0 ≤ x ∧ x < 18446744073709551616
/-- k words of a number. -/
def dig : Nat → Int → List Int
  | 0, _ => []
  | k + 1, n => n % 18446744073709551616 :: dig k (n / 18446744073709551616)

theorem dig_len : ∀ k n, (dig k n).length = k
  | 0, _ => rfl
  | k + 1, n => by simp [dig, dig_len k]
theorem dig_wd : ∀ k n, Wd (dig k n)
  | 0, _ => by simp [dig, Wd]
  | k + 1, n => by
    intro x hx
    simp only [dig, List.mem_cons] at hx
    rcases hx with rfl | hx
    · omega
    · exact dig_wd k _ x hx
theorem Wd.cons {x : Int} {l : List Int} (h : Wd (x :: l)) : (0 ≤ x ∧ x < 18446744073709551616) ∧ Wd l := ⟨h x (by simp), fun y hy => h y (by simp [hy])⟩
theorem Wd.mk {x : Int} {l : List Int} (h : 0 ≤ x ∧ x < 18446744073709551616) (k : Wd l) : Wd (x :: l) := fun y hy => by
  rcases List.mem_cons.1 hy with rfl | q
  · exact h
  · exact k y q
theorem Wd.nil : Wd [] := fun y hy => by cases hy
theorem B_pow (k : Nat) : (0 : Int) < 18446744073709551616 ^ k := Int.pow_pos (by omega)
theorem val_lt : ∀ {l : List Int}, Wd l → 0 ≤ val l ∧ val l < 18446744073709551616 ^ l.length
  | [], _ => by simp [val]
  | x :: r, h => by
    have h1 := val_lt h.cons.2
    have h0 := h.cons.1
    simp only [val, List.length_cons, Int.pow_succ]
    have : 18446744073709551616 * (val r + 1) ≤ 18446744073709551616 * 18446744073709551616 ^ r.length := Int.mul_le_mul_of_nonneg_left (by omega) (by omega)
    rw [Int.mul_comm (18446744073709551616 ^ r.length)]
    rw [Int.mul_add] at this
    omega
theorem val_dig : ∀ (k : Nat) (n : Int), 0 ≤ n → n < 18446744073709551616 ^ k → val (dig k n) = n
  | 0, n, h0, h => by simp [dig, val] at *; omega
  | k + 1, n, h0, h => by
    simp only [dig, val]
    rw [Int.pow_succ, Int.mul_comm] at h
    rw [val_dig k (n / 18446744073709551616) (by omega) (Int.ediv_lt_of_lt_mul (by omega) (by rw [Int.mul_comm]; exact h))]
    omega
theorem dig_val : ∀ {l : List Int}, Wd l → dig l.length (val l) = l
  | [], _ => rfl
  | x :: r, h => by
    simp only [List.length_cons, dig, val]
    have h0 := h.cons.1
    rw [show (x + 18446744073709551616 * val r) % 18446744073709551616 = x from by omega, show (x + 18446744073709551616 * val r) / 18446744073709551616 = val r from by omega, dig_val h.cons.2]
theorem dig_of {l : List Int} {k : Nat} {n : Int} (h : Wd l) (hk : l.length = k) (hn : val l = n) : dig k n = l := by subst hk hn; exact dig_val h
theorem val_append : ∀ (a b : List Int), val (a ++ b) = val a + 18446744073709551616 ^ a.length * val b
  | [], b => by simp [val]
  | x :: a, b => by
    simp only [List.cons_append, val, val_append a b, List.length_cons, Int.pow_succ]
    rw [Int.mul_add, Int.mul_comm (18446744073709551616 ^ a.length) 18446744073709551616, Int.mul_assoc]; omega
theorem val_zeros : ∀ k, val (List.replicate k 0) = 0
  | 0 => rfl
  | k + 1 => by simp [List.replicate_succ, val, val_zeros k]
/-- Four words. -/
theorem dig4 (n : Int) : dig 4 n = [n % 18446744073709551616, n / 18446744073709551616 % 18446744073709551616, n / 18446744073709551616 / 18446744073709551616 % 18446744073709551616, n / 18446744073709551616 / 18446744073709551616 / 18446744073709551616 % 18446744073709551616] := rfl
theorem four {n : Int} (h0 : 0 ≤ n) (h : n < 18446744073709551616 ^ 4) : ∃ x0 x1 x2 x3 : Int, dig 4 n = [x0, x1, x2, x3] ∧ (0 ≤ x0 ∧ x0 < 18446744073709551616) ∧ (0 ≤ x1 ∧ x1 < 18446744073709551616) ∧ (0 ≤ x2 ∧ x2 < 18446744073709551616) ∧ (0 ≤ x3 ∧ x3 < 18446744073709551616) ∧ n = x0 + 18446744073709551616 * (x1 + 18446744073709551616 * (x2 + 18446744073709551616 * x3)) := by
  refine ⟨_, _, _, _, rfl, by omega, by omega, by omega, by omega, ?_⟩
  simp at h
  omega
theorem four_of {n x0 x1 x2 x3 : Int} (h0 : 0 ≤ x0 ∧ x0 < 18446744073709551616) (h1 : 0 ≤ x1 ∧ x1 < 18446744073709551616) (h2 : 0 ≤ x2 ∧ x2 < 18446744073709551616) (h3 : 0 ≤ x3 ∧ x3 < 18446744073709551616) (e : n = x0 + 18446744073709551616 * (x1 + 18446744073709551616 * (x2 + 18446744073709551616 * x3))) : dig 4 n = [x0, x1, x2, x3] :=
  dig_of (.mk h0 (.mk h1 (.mk h2 (.mk h3 .nil)))) rfl (by simp [val]; omega)

/-! ### By a modulus -/
theorem emod_of {a m r q : Int} (h : a = m * q + r) (h0 : 0 ≤ r) (h1 : r < m) : a % m = r := by
  subst h
  rw [Int.mul_add_emod_self_left, Int.emod_eq_of_lt h0 h1]
theorem emod_eq {a b m : Int} (q : Int) (h : a = b + m * q) : a % m = b % m := by subst h; rw [Int.add_mul_emod_self_left]
theorem emod_of_eq {a b m : Int} (h : a % m = b % m) : ∃ q, a = b + m * q := by
  have := Int.emod_emod_of_dvd a (Int.dvd_refl m)
  refine ⟨a / m - b / m, ?_⟩
  have h1 := Int.mul_ediv_add_emod a m
  have h2 := Int.mul_ediv_add_emod b m
  rw [Int.mul_sub]; omega
/-- What twice it is 1, by an odd modulus. -/
def half (m : Int) : Int := (m + 1) / 2
theorem half_two {m : Int} (h : m % 2 = 1) (h1 : 1 < m) : 2 * half m % m = 1 := by
  unfold half
  rw [show 2 * ((m + 1) / 2) = 1 + m from by omega, Int.add_emod_right, Int.emod_eq_of_lt (by omega) h1]
theorem half_pow {m : Int} (h : m % 2 = 1) (h1 : 1 < m) : ∀ k : Nat, 2 ^ k * half m ^ k % m = 1
  | 0 => by simpa using Int.emod_eq_of_lt (by omega) h1
  | k + 1 => by
    rw [Int.pow_succ, Int.pow_succ, show 2 ^ k * 2 * (half m ^ k * half m) = (2 ^ k * half m ^ k) * (2 * half m) from by
      simp only [Int.mul_assoc, Int.mul_left_comm, Int.mul_comm], Int.mul_emod, half_pow h h1 k, half_two h h1]
    simpa using Int.emod_eq_of_lt (by omega) h1
/-- What 2^k times gives a, is a times the k-th power of half. -/
theorem mod_half {m r a : Int} {k : Nat} (h : m % 2 = 1) (h1 : 1 < m) (h0 : 0 ≤ r) (hr : r < m) (e : r * 2 ^ k % m = a % m) : r = a * half m ^ k % m := by
  have : r * 2 ^ k * half m ^ k % m = a * half m ^ k % m := by
    rw [Int.mul_emod, e, ← Int.mul_emod]
  rw [Int.mul_assoc, Int.mul_emod, half_pow h h1 k, Int.mul_one, Int.emod_emod_of_dvd _ (Int.dvd_refl m), Int.emod_eq_of_lt h0 hr] at this
  exact this
theorem half_cancel {m : Int} {k : Nat} (h : m % 2 = 1) (h1 : 1 < m) (a : Int) : a * 2 ^ k * half m ^ k % m = a % m := by
  rw [Int.mul_assoc, Int.mul_emod, half_pow h h1 k, Int.mul_one, Int.emod_emod_of_dvd _ (Int.dvd_refl m)]
/-- One step of Newton's for the inverse of an odd word. -/
theorem newton {m k k' : Int} (s t : Nat) (h : (2 : Int) ^ s ∣ m * k - 1) (e : (18446744073709551616 : Int) ∣ k' - k * (2 - m * k)) (h1 : t ≤ 64) (h2 : t ≤ s + s) : (2 : Int) ^ t ∣ m * k' - 1 := by
  obtain ⟨c, hc⟩ := h
  obtain ⟨d, hd⟩ := e
  have e64 : (18446744073709551616 : Int) = 2 ^ t * 2 ^ (64 - t) := by rw [← Int.pow_add, show t + (64 - t) = 64 from by omega]; rfl
  have es : (2 : Int) ^ s * 2 ^ s = 2 ^ t * 2 ^ (s + s - t) := by rw [← Int.pow_add, ← Int.pow_add, show t + (s + s - t) = s + s from by omega]
  refine ⟨m * (2 ^ (64 - t) * d) - 2 ^ (s + s - t) * (c * c), ?_⟩
  have hk : m * k = 2 ^ s * c + 1 := by omega
  have : m * k' - 1 = m * (k' - k * (2 - m * k)) - (m * k - 1) * (m * k - 1) := by grind
  rw [this, hd, hc, e64]
  have e2 : (2 : Int) ^ s * c * (2 ^ s * c) = (2 ^ s * 2 ^ s) * (c * c) := by grind
  rw [e2, es]
  grind
end Go.Num
