/- Walks: bits and bytes of numbers; twice a number; bytes by a modulus. -/
import Derived.Test.YteknjhamekpfjaaModA
namespace Go.Proofs.Yteknjhamekpfjaa
open Go.Eng Go.Num
set_option maxHeartbeats 1000000
set_option linter.unusedVariables false
set_option linter.unusedSimpArgs false
variable {P : Program} {G : Nat → AV}

theorem shr_nn {k : IntKind} {a : Int} (n : Nat) (hn : n ≤ k.bits) : shr k a (n : Int) = a / 2 ^ n := by
  unfold shr
  rw [Int.fdiv_eq_ediv_of_nonneg _ (by exact Int.le_of_lt (Int.pow_pos (by omega))), show min ((n : Int).toNat) k.bits = n from by simp; omega]
theorem word_bit {n x0 x1 x2 x3 : Int} {j r : Nat} (hr : r < 64) (h0 : W1 x0) (h1 : W1 x1) (h2 : W1 x2) (h3 : W1 x3) (hn : n = x0 + 18446744073709551616 * (x1 + 18446744073709551616 * (x2 + 18446744073709551616 * x3))) (hj : j < 4) :
    n / 2 ^ (64 * j + r) % 2 = (match j with | 0 => x0 | 1 => x1 | 2 => x2 | _ => x3) / 2 ^ r % 2 := by
  have key : ∀ x y : Int, (x + 18446744073709551616 * y) / 2 ^ r % 2 = x / 2 ^ r % 2 := fun x y => by
    rw [show (18446744073709551616 : Int) = 2 ^ r * 2 ^ (64 - r) from by rw [← Int.pow_add, show r + (64 - r) = 64 from by omega]; rfl, Int.mul_assoc, Int.add_mul_ediv_left _ _ (by exact Int.ne_of_gt (Int.pow_pos (by omega)))]
    rw [show (64 - r) = (63 - r) + 1 from by omega, Int.pow_succ, Int.mul_comm _ 2, Int.mul_assoc, Int.add_mul_emod_self_left]
  have d1 : n / 18446744073709551616 = x1 + 18446744073709551616 * (x2 + 18446744073709551616 * x3) := by omega
  have d2 : n / 18446744073709551616 / 18446744073709551616 = x2 + 18446744073709551616 * x3 := by omega
  have d3 : n / 18446744073709551616 / 18446744073709551616 / 18446744073709551616 = x3 := by omega
  have hB : (2 : Int) ^ 64 = 18446744073709551616 := by decide
  have hp : ∀ k : Nat, (0 : Int) ≤ 2 ^ k := fun k => Int.le_of_lt (Int.pow_pos (by omega))
  match j, hj with
  | 0, _ => simp only [Nat.mul_zero, Nat.zero_add]; rw [hn, key]
  | 1, _ => simp only [Nat.mul_one]; rw [Int.pow_add, hB, ← Int.ediv_ediv_of_nonneg (by omega), d1, key]
  | 2, _ => show _ = x2 / 2 ^ r % 2; rw [show 64 * 2 + r = 64 + (64 + r) from by omega, Int.pow_add, Int.pow_add, hB, ← Int.ediv_ediv_of_nonneg (by omega), ← Int.ediv_ediv_of_nonneg (by omega), d2, key]
  | 3, _ => show _ = x3 / 2 ^ r % 2; rw [show 64 * 3 + r = 64 + (64 + (64 + r)) from by omega, Int.pow_add, Int.pow_add, Int.pow_add, hB, ← Int.ediv_ediv_of_nonneg (by omega), ← Int.ediv_ediv_of_nonneg (by omega), ← Int.ediv_ediv_of_nonneg (by omega), d3]
theorem div_w1 {x : Int} (r : Nat) (h : W1 x) : W1 (x / 2 ^ r) := by
  have hp : (0 : Int) < 2 ^ r := Int.pow_pos (by omega)
  refine ⟨Int.ediv_nonneg h.1 (Int.le_of_lt hp), ?_⟩
  exact Int.lt_of_le_of_lt (Int.ediv_le_self _ h.1) h.2

theorem bit_vc {n : Int} {i : Nat} (hn : N4 n) (hi : i ≤ 255) : vc P G c49 (Ret [.t 4] (u64 (n / 2 ^ i % 2))) (argFr 0 [num n, .int .i64 i]) [] := by
  obtain ⟨x0, x1, x2, x3, e, h0, h1, h2, h3, v⟩ := fourN hn
  rw [num_dig n, e]
  conv => whnf
  rw [show lssB (i : Int) 0 = false from by rw [lssB_eq]; simp]
  ((conv => whnf); repeat ((first | refine And.intro (rfl : (_ : Nat) = _) ?_ | refine And.intro (rfl : (_ : Bool) = true) ?_ | refine And.intro (Nat.le_of_ble_eq_true rfl) ?_ | refine And.intro ⟨Nat.le_of_ble_eq_true rfl, rfl, rfl⟩ ?_); conv => whnf))
  rw [show lssB 255 (i : Int) = false from by rw [lssB_eq]; simp; omega]
  ((conv => whnf); repeat ((first | refine And.intro (rfl : (_ : Nat) = _) ?_ | refine And.intro (rfl : (_ : Bool) = true) ?_ | refine And.intro (Nat.le_of_ble_eq_true rfl) ?_ | refine And.intro ⟨Nat.le_of_ble_eq_true rfl, rfl, rfl⟩ ?_); conv => whnf))
  obtain ⟨j, r, hr, hj, rfl⟩ : ∃ j r, r < 64 ∧ j < 4 ∧ i = 64 * j + r := ⟨i / 64, i % 64, by omega, by omega, by omega⟩
  have eq : IntKind.i64.wrap (Int.tdiv ((64 * j + r : Nat) : Int) 64) = (j : Int) := by
    rw [Int.tdiv_eq_ediv_of_nonneg (by omega), wr64 (by omega) (by omega)]; omega
  have er : Int.tmod ((64 * j + r : Nat) : Int) 64 = (r : Int) := by rw [Int.tmod_eq_emod_of_nonneg (by omega)]; omega
  have fin : ∀ x : Int, W1 x → band .u64 (shr .u64 x (Int.tmod ((64 * j + r : Nat) : Int) 64)) 1 = x / 2 ^ r % 2 := fun x hx => by
    rw [er, shr_nn r (by show r ≤ 64; omega), band_one (div_w1 r hx)]
  have hnz : nonnegB (Int.tmod ((64 * j + r : Nat) : Int) 64) = true := by rw [er]; rfl
  rw [eq]
  have wb := word_bit (j := j) hr h0 h1 h2 h3 v hj
  match j, hj with
  | 0, _ =>
    ((conv => whnf); repeat ((first | refine And.intro (rfl : (_ : Nat) = _) ?_ | refine And.intro (rfl : (_ : Bool) = true) ?_ | refine And.intro (Nat.le_of_ble_eq_true rfl) ?_ | refine And.intro ⟨Nat.le_of_ble_eq_true rfl, rfl, rfl⟩ ?_); conv => whnf))
    refine ifB_mk hnz ?_
    ((conv => whnf); repeat ((first | refine And.intro (rfl : (_ : Nat) = _) ?_ | refine And.intro (rfl : (_ : Bool) = true) ?_ | refine And.intro (Nat.le_of_ble_eq_true rfl) ?_ | refine And.intro ⟨Nat.le_of_ble_eq_true rfl, rfl, rfl⟩ ?_); conv => whnf))
    refine ⟨.inl rfl, .drop ⟨?_, rfl⟩⟩
    rw [wb]; exact congrArg u64 (fin x0 h0)
  | 1, _ =>
    ((conv => whnf); repeat ((first | refine And.intro (rfl : (_ : Nat) = _) ?_ | refine And.intro (rfl : (_ : Bool) = true) ?_ | refine And.intro (Nat.le_of_ble_eq_true rfl) ?_ | refine And.intro ⟨Nat.le_of_ble_eq_true rfl, rfl, rfl⟩ ?_); conv => whnf))
    refine ifB_mk hnz ?_
    ((conv => whnf); repeat ((first | refine And.intro (rfl : (_ : Nat) = _) ?_ | refine And.intro (rfl : (_ : Bool) = true) ?_ | refine And.intro (Nat.le_of_ble_eq_true rfl) ?_ | refine And.intro ⟨Nat.le_of_ble_eq_true rfl, rfl, rfl⟩ ?_); conv => whnf))
    refine ⟨.inl rfl, .drop ⟨?_, rfl⟩⟩
    rw [wb]; exact congrArg u64 (fin x1 h1)
  | 2, _ =>
    ((conv => whnf); repeat ((first | refine And.intro (rfl : (_ : Nat) = _) ?_ | refine And.intro (rfl : (_ : Bool) = true) ?_ | refine And.intro (Nat.le_of_ble_eq_true rfl) ?_ | refine And.intro ⟨Nat.le_of_ble_eq_true rfl, rfl, rfl⟩ ?_); conv => whnf))
    refine ifB_mk hnz ?_
    ((conv => whnf); repeat ((first | refine And.intro (rfl : (_ : Nat) = _) ?_ | refine And.intro (rfl : (_ : Bool) = true) ?_ | refine And.intro (Nat.le_of_ble_eq_true rfl) ?_ | refine And.intro ⟨Nat.le_of_ble_eq_true rfl, rfl, rfl⟩ ?_); conv => whnf))
    refine ⟨.inl rfl, .drop ⟨?_, rfl⟩⟩
    rw [wb]; exact congrArg u64 (fin x2 h2)
  | 3, _ =>
    ((conv => whnf); repeat ((first | refine And.intro (rfl : (_ : Nat) = _) ?_ | refine And.intro (rfl : (_ : Bool) = true) ?_ | refine And.intro (Nat.le_of_ble_eq_true rfl) ?_ | refine And.intro ⟨Nat.le_of_ble_eq_true rfl, rfl, rfl⟩ ?_); conv => whnf))
    refine ifB_mk hnz ?_
    ((conv => whnf); repeat ((first | refine And.intro (rfl : (_ : Nat) = _) ?_ | refine And.intro (rfl : (_ : Bool) = true) ?_ | refine And.intro (Nat.le_of_ble_eq_true rfl) ?_ | refine And.intro ⟨Nat.le_of_ble_eq_true rfl, rfl, rfl⟩ ?_); conv => whnf))
    refine ⟨.inl rfl, .drop ⟨?_, rfl⟩⟩
    rw [wb]; exact congrArg u64 (fin x3 h3)
def BitOk (P : Program) (G : Nat → AV) : Prop := ∀ {n : Int} {i : Nat}, N4 n → i ≤ 255 → Ans P G 49 [num n, .int .i64 i] (u64 (n / 2 ^ i % 2))

/-! ### Bytes of a number -/
/-- k bytes, the lowest first. -/
def leB : Nat → Int → List UInt8
  | 0, _ => []
  | k + 1, n => UInt8.ofNat (n % 256).toNat :: leB k (n / 256)
/-- What bytes are worth, the highest first. -/
def beV (l : List UInt8) : Int := l.foldl (fun a c => 256 * a + c.toNat) 0
/-- The lowest first. -/
def leV : List UInt8 → Int
  | [] => 0
  | c :: r => c.toNat + 256 * leV r
theorem leB_len : ∀ k n, (leB k n).length = k
  | 0, _ => rfl
  | k + 1, n => by simp [leB, leB_len k]
theorem beV_append (l m : List UInt8) : beV (l ++ m) = m.foldl (fun (a : Int) (c : UInt8) => 256 * a + c.toNat) (beV l) := by simp [beV]
theorem beV_snoc (l : List UInt8) (c : UInt8) : beV (l ++ [c]) = 256 * beV l + c.toNat := by rw [beV_append]; rfl
theorem beV_rev : ∀ l : List UInt8, beV l.reverse = leV l
  | [] => rfl
  | c :: r => by rw [List.reverse_cons, beV_snoc, beV_rev r, leV]; omega
theorem leV_leB : ∀ (k : Nat) (n : Int), 0 ≤ n → n < 256 ^ k → leV (leB k n) = n
  | 0, n, h0, h => by simp [leB, leV] at *; omega
  | k + 1, n, h0, h => by
    rw [Int.pow_succ] at h
    simp only [leB, leV]
    rw [leV_leB k _ (by omega) (by omega), UInt8.toNat_ofNat']
    omega
theorem byte_wrap {x : Int} (h : 0 ≤ x) : AV.int .u8 (IntKind.u8.wrap x) = u8 (UInt8.ofNat (x % 256).toNat) := by
  unfold u8
  rw [IntKind.wrap_u8, UInt8.toNat_ofNat']
  congr 2
  omega

theorem double_vc {m k r a : Int} (hA : WaddOk P G) (hO : OnceOk P G) (hm : Md m) (ha : 0 ≤ a ∧ a < m) : vc P G c42 (Ret [.cell 4 4 true] (num (2 * a % m))) (argFr 0 [mp m k r, num a]) [] := by
  have hlt := hm.lt
  have ha4 : N4 a := ⟨ha.1, by omega⟩
  have hs : (a + a) / 18446744073709551616 ^ 4 = 0 ∨ (a + a) / 18446744073709551616 ^ 4 = 1 := by rw [B4] at *; omega
  have hc := hO (m := m) (k := k) (r := r) (a := (a + a) % 18446744073709551616 ^ 4) (o := (a + a) / 18446744073709551616 ^ 4) hm (mod4 _) hs (by rw [B4] at *; omega)
  rw [show (a + a) / 18446744073709551616 ^ 4 * 18446744073709551616 ^ 4 + (a + a) % 18446744073709551616 ^ 4 = 2 * a from by rw [B4]; omega] at hc
  conv => whnf
  intro t4
  ((conv => whnf); repeat ((first | refine And.intro (rfl : (_ : Nat) = _) ?_ | refine And.intro (rfl : (_ : Bool) = true) ?_ | refine And.intro (Nat.le_of_ble_eq_true rfl) ?_ | refine And.intro ⟨Nat.le_of_ble_eq_true rfl, rfl, rfl⟩ ?_); conv => whnf))
  first | refine CallGoal.pure ((hA ha4 ha4)) ?_ | refine PCallGoal.pure ((hA ha4 ha4)) ?_
  ((conv => whnf); repeat ((first | refine And.intro (rfl : (_ : Nat) = _) ?_ | refine And.intro (rfl : (_ : Bool) = true) ?_ | refine And.intro (Nat.le_of_ble_eq_true rfl) ?_ | refine And.intro ⟨Nat.le_of_ble_eq_true rfl, rfl, rfl⟩ ?_); conv => whnf))
  intro t5
  ((conv => whnf); repeat ((first | refine And.intro (rfl : (_ : Nat) = _) ?_ | refine And.intro (rfl : (_ : Bool) = true) ?_ | refine And.intro (Nat.le_of_ble_eq_true rfl) ?_ | refine And.intro ⟨Nat.le_of_ble_eq_true rfl, rfl, rfl⟩ ?_); conv => whnf))
  first | refine CallGoal.pure (hc) ?_ | refine PCallGoal.pure (hc) ?_
  ((conv => whnf); repeat ((first | refine And.intro (rfl : (_ : Nat) = _) ?_ | refine And.intro (rfl : (_ : Bool) = true) ?_ | refine And.intro (Nat.le_of_ble_eq_true rfl) ?_ | refine And.intro ⟨Nat.le_of_ble_eq_true rfl, rfl, rfl⟩ ?_); conv => whnf))
  refine ⟨.inl rfl, .drop ?_⟩
  ((conv => whnf); repeat ((first | refine And.intro (rfl : (_ : Nat) = _) ?_ | refine And.intro (rfl : (_ : Bool) = true) ?_ | refine And.intro (Nat.le_of_ble_eq_true rfl) ?_ | refine And.intro ⟨Nat.le_of_ble_eq_true rfl, rfl, rfl⟩ ?_); conv => whnf))
  refine ⟨?_, rfl⟩
  rfl
def DoubleOk (P : Program) (G : Nat → AV) : Prop := ∀ {m k r a : Int}, Md m → 0 ≤ a ∧ a < m → Ans P G 42 [mp m k r, num a] (num (2 * a % m))

theorem modulus_vc {m : Int} (hm : Md m) : vc P G c26 (Ret [.cell 2 4 true] (num m)) (argFr 0 [mptr m]) [] := by
  conv => whnf
  intro t2
  ((conv => whnf); repeat ((first | refine And.intro (rfl : (_ : Nat) = _) ?_ | refine And.intro (rfl : (_ : Bool) = true) ?_ | refine And.intro (Nat.le_of_ble_eq_true rfl) ?_ | refine And.intro ⟨Nat.le_of_ble_eq_true rfl, rfl, rfl⟩ ?_); conv => whnf))
  refine ⟨.inl rfl, .drop ?_⟩
  ((conv => whnf); repeat ((first | refine And.intro (rfl : (_ : Nat) = _) ?_ | refine And.intro (rfl : (_ : Bool) = true) ?_ | refine And.intro (Nat.le_of_ble_eq_true rfl) ?_ | refine And.intro ⟨Nat.le_of_ble_eq_true rfl, rfl, rfl⟩ ?_); conv => whnf))
  refine ⟨?_, rfl⟩
  rfl
end Go.Proofs.Yteknjhamekpfjaa
