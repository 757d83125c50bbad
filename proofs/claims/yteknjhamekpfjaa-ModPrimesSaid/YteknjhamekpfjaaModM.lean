/- Walks: how many bits a word has. -/
import Derived.Test.YteknjhamekpfjaaModH
namespace Go.Proofs.Yteknjhamekpfjaa
open Go.Eng Go.Num
set_option maxHeartbeats 2000000
set_option maxRecDepth 10000
set_option linter.unusedVariables false
set_option linter.unusedSimpArgs false
variable {P : Program} {G : Nat → AV}

/-- How many bits a number has. -/
def bl (x : Int) : Nat := Nat.log2 x.toNat + 1
theorem bl_eq {x : Int} {k : Nat} (h0 : (2 : Int) ^ k ≤ x) (h1 : x < 2 ^ (k + 1)) : bl x = k + 1 := by
  obtain ⟨n, rfl⟩ : ∃ n : Nat, x = n := ⟨x.toNat, by have : (0 : Int) < 2 ^ k := Int.pow_pos (by omega); omega⟩
  have h0' : 2 ^ k ≤ n := by exact_mod_cast h0
  have h1' : n < 2 ^ (k + 1) := by exact_mod_cast h1
  have hp : 0 < 2 ^ k := Nat.pow_pos (by omega)
  unfold bl
  rw [show ((n : Int).toNat) = n from rfl, (Nat.log2_eq_iff (by omega)).2 ⟨h0', h1'⟩]
theorem bl_spec {x : Int} (h : 0 < x) : (2 : Int) ^ (bl x - 1) ≤ x ∧ x < 2 ^ bl x := by
  obtain ⟨n, rfl⟩ : ∃ n : Nat, x = n := ⟨x.toNat, by omega⟩
  have h' : n ≠ 0 := by omega
  obtain ⟨h1, h2⟩ := (Nat.log2_eq_iff h').1 rfl
  unfold bl
  rw [show ((n : Int).toNat) = n from rfl, Nat.add_sub_cancel]
  exact ⟨by exact_mod_cast h1, by exact_mod_cast h2⟩
theorem bl_le {x : Int} (h : 0 < x) (h1 : x < 18446744073709551616) : bl x ≤ 64 := by
  obtain ⟨h2, _⟩ := bl_spec h
  rcases Nat.lt_or_ge 64 (bl x) with q | q
  · have : (2 : Int) ^ 64 ≤ 2 ^ (bl x - 1) := by
      have := Nat.pow_le_pow_right (n := 2) (by omega) (show 64 ≤ bl x - 1 by omega)
      exact_mod_cast this
    have e : (2 : Int) ^ 64 = 18446744073709551616 := by decide
    omega
  · exact q
/-- A shift takes so many bits away. -/
theorem bl_shift {x y : Int} (n : Nat) (hy : y = x / 2 ^ n) (h0 : 0 < y) : bl x = n + bl y := by
  obtain ⟨h1, h2⟩ := bl_spec h0
  have hp : (0 : Int) < 2 ^ n := Int.pow_pos (by omega)
  have hd := Int.mul_ediv_add_emod x (2 ^ n)
  have hr := Int.emod_nonneg x (b := 2 ^ n) (by omega)
  have hr2 := Int.emod_lt_of_pos x hp
  rw [← hy] at hd
  have hb : 0 < bl y := by unfold bl; omega
  have e : bl x = (n + (bl y - 1)) + 1 := by
    refine bl_eq ?_ ?_
    · rw [Int.pow_add]
      have := Int.mul_le_mul_of_nonneg_left h1 (Int.le_of_lt hp)
      omega
    · rw [show n + (bl y - 1) + 1 = n + bl y from by omega, Int.pow_add]
      have : 2 ^ n * (y + 1) ≤ 2 ^ n * 2 ^ bl y := Int.mul_le_mul_of_nonneg_left (by omega) (Int.le_of_lt hp)
      rw [Int.mul_add] at this
      omega
  omega
def lenTab : List UInt8 := [0, 1, 2, 2, 3, 3, 3, 3, 4, 4, 4, 4, 4, 4, 4, 4, 5, 5, 5, 5, 5, 5, 5, 5, 5, 5, 5, 5, 5, 5, 5, 5, 6, 6, 6, 6, 6, 6, 6, 6, 6, 6, 6, 6, 6, 6, 6, 6, 6, 6, 6, 6, 6, 6, 6, 6, 6, 6, 6, 6, 6, 6, 6, 6, 7, 7, 7, 7, 7, 7, 7, 7, 7, 7, 7, 7, 7, 7, 7, 7, 7, 7, 7, 7, 7, 7, 7, 7, 7, 7, 7, 7, 7, 7, 7, 7, 7, 7, 7, 7, 7, 7, 7, 7, 7, 7, 7, 7, 7, 7, 7, 7, 7, 7, 7, 7, 7, 7, 7, 7, 7, 7, 7, 7, 7, 7, 7, 7, 8, 8, 8, 8, 8, 8, 8, 8, 8, 8, 8, 8, 8, 8, 8, 8, 8, 8, 8, 8, 8, 8, 8, 8, 8, 8, 8, 8, 8, 8, 8, 8, 8, 8, 8, 8, 8, 8, 8, 8, 8, 8, 8, 8, 8, 8, 8, 8, 8, 8, 8, 8, 8, 8, 8, 8, 8, 8, 8, 8, 8, 8, 8, 8, 8, 8, 8, 8, 8, 8, 8, 8, 8, 8, 8, 8, 8, 8, 8, 8, 8, 8, 8, 8, 8, 8, 8, 8, 8, 8, 8, 8, 8, 8, 8, 8, 8, 8, 8, 8, 8, 8, 8, 8, 8, 8, 8, 8, 8, 8, 8, 8, 8, 8, 8, 8, 8, 8, 8, 8, 8, 8, 8, 8, 8, 8, 8, 8]
theorem lenTab_ok : ∀ c : Nat, c < 256 → 0 < c → (lenTab.getD c 0).toNat = Nat.log2 c + 1 := by decide
theorem lenTab_bl {y : Int} (h0 : 0 < y) (h : y < 256) : (((lenTab.getD y.toNat 0).toNat : Nat) : Int) = bl y := by
  rw [lenTab_ok y.toNat (by omega) (by omega)]; rfl
theorem sh32 {x : Int} : shr .u64 x 32 = x / 4294967296 := shr_nn (k := .u64) 32 (by decide)
theorem sh16 {x : Int} : shr .u64 x 16 = x / 65536 := shr_nn (k := .u64) 16 (by decide)
theorem sh8 {x : Int} : shr .u64 x 8 = x / 256 := shr_nn (k := .u64) 8 (by decide)
theorem len_fin {x y : Int} (n : Nat) (hn : n ≤ 56) (hy : y = x / 2 ^ n) (h0 : 0 < y) (h : y < 256) :
    AV.int .i64 (IntKind.i64.wrap ((n : Int) + IntKind.i64.wrap (((lenTab.getD (IntKind.u8.wrap y).toNat 0).toNat : Nat) : Int))) = .int .i64 (bl x) := by
  have e := bl_le h0 (by omega)
  rw [show IntKind.u8.wrap y = y from by rw [IntKind.wrap_u8]; omega, lenTab_bl h0 h, bl_shift n hy h0, wr64 (n := (bl y : Int)) (by omega) (by omega), wr64 (by omega) (by omega), Int.natCast_add]
theorem len64_vc {x : Int} (hx : W1 x) (h0 : 0 < x) : vc P G c78 (Ret [.t 2] (.int .i64 (bl x))) (argFr 0 [u64 x]) [] := by
  conv => whnf
  by_cases h0_32 : x < 4294967296
  · rw [show lssB (x) 4294967296 = true from by rw [lssB_eq]; simp; omega]
    ((conv => whnf); repeat ((first | refine And.intro (rfl : (_ : Nat) = _) ?_ | refine And.intro (rfl : (_ : Bool) = true) ?_ | refine And.intro (Nat.le_of_ble_eq_true rfl) ?_ | refine And.intro ⟨Nat.le_of_ble_eq_true rfl, rfl, rfl⟩ ?_); conv => whnf))
    by_cases h0_16 : x < 65536
    · rw [show lssB (x) 65536 = true from by rw [lssB_eq]; simp; omega]
      ((conv => whnf); repeat ((first | refine And.intro (rfl : (_ : Nat) = _) ?_ | refine And.intro (rfl : (_ : Bool) = true) ?_ | refine And.intro (Nat.le_of_ble_eq_true rfl) ?_ | refine And.intro ⟨Nat.le_of_ble_eq_true rfl, rfl, rfl⟩ ?_); conv => whnf))
      by_cases h0_8 : x < 256
      · rw [show lssB (x) 256 = true from by rw [lssB_eq]; simp; omega]
        ((conv => whnf); repeat ((first | refine And.intro (rfl : (_ : Nat) = _) ?_ | refine And.intro (rfl : (_ : Bool) = true) ?_ | refine And.intro (Nat.le_of_ble_eq_true rfl) ?_ | refine And.intro ⟨Nat.le_of_ble_eq_true rfl, rfl, rfl⟩ ?_); conv => whnf))
        ((conv => whnf); repeat ((first | refine And.intro (rfl : (_ : Nat) = _) ?_ | refine And.intro (rfl : (_ : Bool) = true) ?_ | refine And.intro (Nat.le_of_ble_eq_true rfl) ?_ | refine And.intro ⟨Nat.le_of_ble_eq_true rfl, rfl, rfl⟩ ?_); conv => whnf))
        refine And.intro ⟨by rw [IntKind.wrap_u8]; omega, by rw [IntKind.wrap_u8]; show _ < (256 : Int); omega⟩ ?_
        ((conv => whnf); repeat ((first | refine And.intro (rfl : (_ : Nat) = _) ?_ | refine And.intro (rfl : (_ : Bool) = true) ?_ | refine And.intro (Nat.le_of_ble_eq_true rfl) ?_ | refine And.intro ⟨Nat.le_of_ble_eq_true rfl, rfl, rfl⟩ ?_); conv => whnf))
        refine ⟨.inl rfl, .drop ⟨?_, rfl⟩⟩
        exact len_fin (x := x) (y := x) 0 (by decide) (by simp) (by omega) (by omega)
      · rw [show lssB (x) 256 = false from by rw [lssB_eq]; simp; omega]
        ((conv => whnf); repeat ((first | refine And.intro (rfl : (_ : Nat) = _) ?_ | refine And.intro (rfl : (_ : Bool) = true) ?_ | refine And.intro (Nat.le_of_ble_eq_true rfl) ?_ | refine And.intro ⟨Nat.le_of_ble_eq_true rfl, rfl, rfl⟩ ?_); conv => whnf))
        rw [sh8]
        ((conv => whnf); repeat ((first | refine And.intro (rfl : (_ : Nat) = _) ?_ | refine And.intro (rfl : (_ : Bool) = true) ?_ | refine And.intro (Nat.le_of_ble_eq_true rfl) ?_ | refine And.intro ⟨Nat.le_of_ble_eq_true rfl, rfl, rfl⟩ ?_); conv => whnf))
        refine And.intro ⟨by rw [IntKind.wrap_u8]; omega, by rw [IntKind.wrap_u8]; show _ < (256 : Int); omega⟩ ?_
        ((conv => whnf); repeat ((first | refine And.intro (rfl : (_ : Nat) = _) ?_ | refine And.intro (rfl : (_ : Bool) = true) ?_ | refine And.intro (Nat.le_of_ble_eq_true rfl) ?_ | refine And.intro ⟨Nat.le_of_ble_eq_true rfl, rfl, rfl⟩ ?_); conv => whnf))
        refine ⟨.inl rfl, .drop ⟨?_, rfl⟩⟩
        exact len_fin (x := x) (y := x / 256) 8 (by decide) (by rw [show (2 : Int) ^ 8 = 256 from by decide] <;> omega) (by omega) (by omega)
    · rw [show lssB (x) 65536 = false from by rw [lssB_eq]; simp; omega]
      ((conv => whnf); repeat ((first | refine And.intro (rfl : (_ : Nat) = _) ?_ | refine And.intro (rfl : (_ : Bool) = true) ?_ | refine And.intro (Nat.le_of_ble_eq_true rfl) ?_ | refine And.intro ⟨Nat.le_of_ble_eq_true rfl, rfl, rfl⟩ ?_); conv => whnf))
      rw [sh16]
      by_cases h16_8 : x / 65536 < 256
      · rw [show lssB (x / 65536) 256 = true from by rw [lssB_eq]; simp; omega]
        ((conv => whnf); repeat ((first | refine And.intro (rfl : (_ : Nat) = _) ?_ | refine And.intro (rfl : (_ : Bool) = true) ?_ | refine And.intro (Nat.le_of_ble_eq_true rfl) ?_ | refine And.intro ⟨Nat.le_of_ble_eq_true rfl, rfl, rfl⟩ ?_); conv => whnf))
        ((conv => whnf); repeat ((first | refine And.intro (rfl : (_ : Nat) = _) ?_ | refine And.intro (rfl : (_ : Bool) = true) ?_ | refine And.intro (Nat.le_of_ble_eq_true rfl) ?_ | refine And.intro ⟨Nat.le_of_ble_eq_true rfl, rfl, rfl⟩ ?_); conv => whnf))
        refine And.intro ⟨by rw [IntKind.wrap_u8]; omega, by rw [IntKind.wrap_u8]; show _ < (256 : Int); omega⟩ ?_
        ((conv => whnf); repeat ((first | refine And.intro (rfl : (_ : Nat) = _) ?_ | refine And.intro (rfl : (_ : Bool) = true) ?_ | refine And.intro (Nat.le_of_ble_eq_true rfl) ?_ | refine And.intro ⟨Nat.le_of_ble_eq_true rfl, rfl, rfl⟩ ?_); conv => whnf))
        refine ⟨.inl rfl, .drop ⟨?_, rfl⟩⟩
        exact len_fin (x := x) (y := x / 65536) 16 (by decide) (by rw [show (2 : Int) ^ 16 = 65536 from by decide] <;> omega) (by omega) (by omega)
      · rw [show lssB (x / 65536) 256 = false from by rw [lssB_eq]; simp; omega]
        ((conv => whnf); repeat ((first | refine And.intro (rfl : (_ : Nat) = _) ?_ | refine And.intro (rfl : (_ : Bool) = true) ?_ | refine And.intro (Nat.le_of_ble_eq_true rfl) ?_ | refine And.intro ⟨Nat.le_of_ble_eq_true rfl, rfl, rfl⟩ ?_); conv => whnf))
        rw [sh8]
        ((conv => whnf); repeat ((first | refine And.intro (rfl : (_ : Nat) = _) ?_ | refine And.intro (rfl : (_ : Bool) = true) ?_ | refine And.intro (Nat.le_of_ble_eq_true rfl) ?_ | refine And.intro ⟨Nat.le_of_ble_eq_true rfl, rfl, rfl⟩ ?_); conv => whnf))
        refine And.intro ⟨by rw [IntKind.wrap_u8]; omega, by rw [IntKind.wrap_u8]; show _ < (256 : Int); omega⟩ ?_
        ((conv => whnf); repeat ((first | refine And.intro (rfl : (_ : Nat) = _) ?_ | refine And.intro (rfl : (_ : Bool) = true) ?_ | refine And.intro (Nat.le_of_ble_eq_true rfl) ?_ | refine And.intro ⟨Nat.le_of_ble_eq_true rfl, rfl, rfl⟩ ?_); conv => whnf))
        refine ⟨.inl rfl, .drop ⟨?_, rfl⟩⟩
        exact len_fin (x := x) (y := (x / 65536) / 256) 24 (by decide) (by rw [show (2 : Int) ^ 24 = 16777216 from by decide] <;> omega) (by omega) (by omega)
  · rw [show lssB (x) 4294967296 = false from by rw [lssB_eq]; simp; omega]
    ((conv => whnf); repeat ((first | refine And.intro (rfl : (_ : Nat) = _) ?_ | refine And.intro (rfl : (_ : Bool) = true) ?_ | refine And.intro (Nat.le_of_ble_eq_true rfl) ?_ | refine And.intro ⟨Nat.le_of_ble_eq_true rfl, rfl, rfl⟩ ?_); conv => whnf))
    rw [sh32]
    by_cases h32_16 : x / 4294967296 < 65536
    · rw [show lssB (x / 4294967296) 65536 = true from by rw [lssB_eq]; simp; omega]
      ((conv => whnf); repeat ((first | refine And.intro (rfl : (_ : Nat) = _) ?_ | refine And.intro (rfl : (_ : Bool) = true) ?_ | refine And.intro (Nat.le_of_ble_eq_true rfl) ?_ | refine And.intro ⟨Nat.le_of_ble_eq_true rfl, rfl, rfl⟩ ?_); conv => whnf))
      by_cases h32_8 : x / 4294967296 < 256
      · rw [show lssB (x / 4294967296) 256 = true from by rw [lssB_eq]; simp; omega]
        ((conv => whnf); repeat ((first | refine And.intro (rfl : (_ : Nat) = _) ?_ | refine And.intro (rfl : (_ : Bool) = true) ?_ | refine And.intro (Nat.le_of_ble_eq_true rfl) ?_ | refine And.intro ⟨Nat.le_of_ble_eq_true rfl, rfl, rfl⟩ ?_); conv => whnf))
        ((conv => whnf); repeat ((first | refine And.intro (rfl : (_ : Nat) = _) ?_ | refine And.intro (rfl : (_ : Bool) = true) ?_ | refine And.intro (Nat.le_of_ble_eq_true rfl) ?_ | refine And.intro ⟨Nat.le_of_ble_eq_true rfl, rfl, rfl⟩ ?_); conv => whnf))
        refine And.intro ⟨by rw [IntKind.wrap_u8]; omega, by rw [IntKind.wrap_u8]; show _ < (256 : Int); omega⟩ ?_
        ((conv => whnf); repeat ((first | refine And.intro (rfl : (_ : Nat) = _) ?_ | refine And.intro (rfl : (_ : Bool) = true) ?_ | refine And.intro (Nat.le_of_ble_eq_true rfl) ?_ | refine And.intro ⟨Nat.le_of_ble_eq_true rfl, rfl, rfl⟩ ?_); conv => whnf))
        refine ⟨.inl rfl, .drop ⟨?_, rfl⟩⟩
        exact len_fin (x := x) (y := x / 4294967296) 32 (by decide) (by rw [show (2 : Int) ^ 32 = 4294967296 from by decide] <;> omega) (by omega) (by omega)
      · rw [show lssB (x / 4294967296) 256 = false from by rw [lssB_eq]; simp; omega]
        ((conv => whnf); repeat ((first | refine And.intro (rfl : (_ : Nat) = _) ?_ | refine And.intro (rfl : (_ : Bool) = true) ?_ | refine And.intro (Nat.le_of_ble_eq_true rfl) ?_ | refine And.intro ⟨Nat.le_of_ble_eq_true rfl, rfl, rfl⟩ ?_); conv => whnf))
        rw [sh8]
        ((conv => whnf); repeat ((first | refine And.intro (rfl : (_ : Nat) = _) ?_ | refine And.intro (rfl : (_ : Bool) = true) ?_ | refine And.intro (Nat.le_of_ble_eq_true rfl) ?_ | refine And.intro ⟨Nat.le_of_ble_eq_true rfl, rfl, rfl⟩ ?_); conv => whnf))
        refine And.intro ⟨by rw [IntKind.wrap_u8]; omega, by rw [IntKind.wrap_u8]; show _ < (256 : Int); omega⟩ ?_
        ((conv => whnf); repeat ((first | refine And.intro (rfl : (_ : Nat) = _) ?_ | refine And.intro (rfl : (_ : Bool) = true) ?_ | refine And.intro (Nat.le_of_ble_eq_true rfl) ?_ | refine And.intro ⟨Nat.le_of_ble_eq_true rfl, rfl, rfl⟩ ?_); conv => whnf))
        refine ⟨.inl rfl, .drop ⟨?_, rfl⟩⟩
        exact len_fin (x := x) (y := (x / 4294967296) / 256) 40 (by decide) (by rw [show (2 : Int) ^ 40 = 1099511627776 from by decide] <;> omega) (by omega) (by omega)
    · rw [show lssB (x / 4294967296) 65536 = false from by rw [lssB_eq]; simp; omega]
      ((conv => whnf); repeat ((first | refine And.intro (rfl : (_ : Nat) = _) ?_ | refine And.intro (rfl : (_ : Bool) = true) ?_ | refine And.intro (Nat.le_of_ble_eq_true rfl) ?_ | refine And.intro ⟨Nat.le_of_ble_eq_true rfl, rfl, rfl⟩ ?_); conv => whnf))
      rw [sh16]
      by_cases h48_8 : (x / 4294967296) / 65536 < 256
      · rw [show lssB ((x / 4294967296) / 65536) 256 = true from by rw [lssB_eq]; simp; omega]
        ((conv => whnf); repeat ((first | refine And.intro (rfl : (_ : Nat) = _) ?_ | refine And.intro (rfl : (_ : Bool) = true) ?_ | refine And.intro (Nat.le_of_ble_eq_true rfl) ?_ | refine And.intro ⟨Nat.le_of_ble_eq_true rfl, rfl, rfl⟩ ?_); conv => whnf))
        ((conv => whnf); repeat ((first | refine And.intro (rfl : (_ : Nat) = _) ?_ | refine And.intro (rfl : (_ : Bool) = true) ?_ | refine And.intro (Nat.le_of_ble_eq_true rfl) ?_ | refine And.intro ⟨Nat.le_of_ble_eq_true rfl, rfl, rfl⟩ ?_); conv => whnf))
        refine And.intro ⟨by rw [IntKind.wrap_u8]; omega, by rw [IntKind.wrap_u8]; show _ < (256 : Int); omega⟩ ?_
        ((conv => whnf); repeat ((first | refine And.intro (rfl : (_ : Nat) = _) ?_ | refine And.intro (rfl : (_ : Bool) = true) ?_ | refine And.intro (Nat.le_of_ble_eq_true rfl) ?_ | refine And.intro ⟨Nat.le_of_ble_eq_true rfl, rfl, rfl⟩ ?_); conv => whnf))
        refine ⟨.inl rfl, .drop ⟨?_, rfl⟩⟩
        exact len_fin (x := x) (y := (x / 4294967296) / 65536) 48 (by decide) (by rw [show (2 : Int) ^ 48 = 281474976710656 from by decide] <;> omega) (by omega) (by omega)
      · rw [show lssB ((x / 4294967296) / 65536) 256 = false from by rw [lssB_eq]; simp; omega]
        ((conv => whnf); repeat ((first | refine And.intro (rfl : (_ : Nat) = _) ?_ | refine And.intro (rfl : (_ : Bool) = true) ?_ | refine And.intro (Nat.le_of_ble_eq_true rfl) ?_ | refine And.intro ⟨Nat.le_of_ble_eq_true rfl, rfl, rfl⟩ ?_); conv => whnf))
        rw [sh8]
        ((conv => whnf); repeat ((first | refine And.intro (rfl : (_ : Nat) = _) ?_ | refine And.intro (rfl : (_ : Bool) = true) ?_ | refine And.intro (Nat.le_of_ble_eq_true rfl) ?_ | refine And.intro ⟨Nat.le_of_ble_eq_true rfl, rfl, rfl⟩ ?_); conv => whnf))
        refine And.intro ⟨by rw [IntKind.wrap_u8]; omega, by rw [IntKind.wrap_u8]; show _ < (256 : Int); omega⟩ ?_
        ((conv => whnf); repeat ((first | refine And.intro (rfl : (_ : Nat) = _) ?_ | refine And.intro (rfl : (_ : Bool) = true) ?_ | refine And.intro (Nat.le_of_ble_eq_true rfl) ?_ | refine And.intro ⟨Nat.le_of_ble_eq_true rfl, rfl, rfl⟩ ?_); conv => whnf))
        refine ⟨.inl rfl, .drop ⟨?_, rfl⟩⟩
        exact len_fin (x := x) (y := ((x / 4294967296) / 65536) / 256) 56 (by decide) (by rw [show (2 : Int) ^ 56 = 72057594037927936 from by decide] <;> omega) (by omega) (by omega)
def Len64Ok (P : Program) (G : Nat → AV) : Prop := ∀ {x : Int}, W1 x → 0 < x → Ans P G 78 [u64 x] (.int .i64 (bl x))
theorem lz_vc {x : Int} (hL : Len64Ok P G) (hx : W1 x) (h0 : 0 < x) : vc P G c68 (Ret [.t 2] (.int .i64 (64 - (bl x : Int)))) (argFr 0 [u64 x]) [] := by
  have := bl_le h0 hx.2
  conv => whnf
  first | refine CallGoal.pure (hL hx h0) ?_ | refine PCallGoal.pure (hL hx h0) ?_
  ((conv => whnf); repeat ((first | refine And.intro (rfl : (_ : Nat) = _) ?_ | refine And.intro (rfl : (_ : Bool) = true) ?_ | refine And.intro (Nat.le_of_ble_eq_true rfl) ?_ | refine And.intro ⟨Nat.le_of_ble_eq_true rfl, rfl, rfl⟩ ?_); conv => whnf))
  refine ⟨.inl rfl, .drop ⟨?_, rfl⟩⟩
  exact congrArg (AV.int .i64) (wr64 (by omega) (by omega))
def LzOk (P : Program) (G : Nat → AV) : Prop := ∀ {x : Int}, W1 x → 0 < x → Ans P G 68 [u64 x] (.int .i64 (64 - (bl x : Int)))
end Go.Proofs.Yteknjhamekpfjaa
