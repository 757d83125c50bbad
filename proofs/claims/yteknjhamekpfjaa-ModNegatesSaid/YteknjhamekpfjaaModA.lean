/- Walks: words of 64 bits: sums, differences, choices, bits; the modulus's small steps. -/
import Derived.Test.YteknjhamekpfjaaModC
import Derived.Test.YteknjhamekpfjaaNumM
namespace Go.Proofs.Yteknjhamekpfjaa
open Go.Eng Go.Num
set_option maxHeartbeats 1000000
set_option linter.unusedVariables false
set_option linter.unusedSimpArgs false
variable {P : Program} {G : Nat → AV}

theorem z01 : (0 : Int) ≤ 0 ∧ (0 : Int) ≤ 1 := by omega
/-- What a function answers. -/
abbrev Ret (ts : List RV) (x : AV) : AQ := fun e fr st => (e = .ret ∨ e = .normal) ∧ RetGoal ts (fun r st => r = x ∧ st = []) fr st
/-- A function that answers one thing. -/
abbrev Ans (P : Program) (G : Nat → AV) (f : FuncId) (args : List AV) (x : AV) : Prop := ACall P G f args (fun r st => r = x ∧ st = []) []
theorem num_dig (n : Int) : num n = .agg (ws (dig 4 n)) := rfl
theorem num_eq {n x0 x1 x2 x3 : Int} (h : dig 4 n = [x0, x1, x2, x3]) : AV.agg [u64 x0, u64 x1, u64 x2, u64 x3] = num n := by rw [num_dig, h]; rfl
theorem num_small {x : Int} (h : W1 x) : AV.agg [u64 x, u64 0, u64 0, u64 0] = num x := num_eq (four_of h (by omega) (by omega) (by omega) (by omega))
/-- An odd modulus above 1. -/
structure Md (m : Int) : Prop where
  odd : m % 2 = 1
  one : 1 < m
  lt : m < 18446744073709551616 ^ 4
theorem Md.n4 {m : Int} (h : Md m) : N4 m := ⟨by have := h.one; omega, h.lt⟩
/-- 2^512 by a modulus. -/
def R2 (m : Int) : Int := 2 ^ 512 % m
/-- What New makes of a modulus. -/
abbrev mp (m k r : Int) : AV := .ptr (ws (dig 4 m ++ k :: dig 4 r))
abbrev mptr (m : Int) : AV := mp m (mk m) (R2 m)

theorem wadd_vc {a b : Int} (ha : N4 a) (hb : N4 b) : vc P G c43 (Ret [.cell 4 4 true, .t 5] (.tup [num ((a + b) % 18446744073709551616 ^ 4), u64 ((a + b) / 18446744073709551616 ^ 4)])) (argFr 0 [num a, num b]) [] := by
  obtain ⟨a0, a1, a2, a3, ea, h0, h1, h2, h3, va⟩ := fourN ha
  obtain ⟨b0, b1, b2, b3, eb, k0, k1, k2, k3, vb⟩ := fourN hb
  rw [num_dig a, num_dig b, ea, eb]
  conv => whnf
  intro t2 t4
  conv => whnf
  refine LoopGoal.rounds P G 5 ?_
  ((conv => whnf); repeat ((first | refine And.intro (rfl : (_ : Nat) = _) ?_ | refine And.intro (rfl : (_ : Bool) = true) ?_ | refine And.intro (Nat.le_of_ble_eq_true rfl) ?_ | refine And.intro ⟨Nat.le_of_ble_eq_true rfl, rfl, rfl⟩ ?_); conv => whnf))
  refine CarryGoal.add h0 k0 z01 fun x0 d0 l0 m0 e0 => ?_
  ((conv => whnf); repeat ((first | refine And.intro (rfl : (_ : Nat) = _) ?_ | refine And.intro (rfl : (_ : Bool) = true) ?_ | refine And.intro (Nat.le_of_ble_eq_true rfl) ?_ | refine And.intro ⟨Nat.le_of_ble_eq_true rfl, rfl, rfl⟩ ?_); conv => whnf))
  refine CarryGoal.add h1 k1 m0 fun x1 d1 l1 m1 e1 => ?_
  ((conv => whnf); repeat ((first | refine And.intro (rfl : (_ : Nat) = _) ?_ | refine And.intro (rfl : (_ : Bool) = true) ?_ | refine And.intro (Nat.le_of_ble_eq_true rfl) ?_ | refine And.intro ⟨Nat.le_of_ble_eq_true rfl, rfl, rfl⟩ ?_); conv => whnf))
  refine CarryGoal.add h2 k2 m1 fun x2 d2 l2 m2 e2 => ?_
  ((conv => whnf); repeat ((first | refine And.intro (rfl : (_ : Nat) = _) ?_ | refine And.intro (rfl : (_ : Bool) = true) ?_ | refine And.intro (Nat.le_of_ble_eq_true rfl) ?_ | refine And.intro ⟨Nat.le_of_ble_eq_true rfl, rfl, rfl⟩ ?_); conv => whnf))
  refine CarryGoal.add h3 k3 m2 fun x3 d3 l3 m3 e3 => ?_
  ((conv => whnf); repeat ((first | refine And.intro (rfl : (_ : Nat) = _) ?_ | refine And.intro (rfl : (_ : Bool) = true) ?_ | refine And.intro (Nat.le_of_ble_eq_true rfl) ?_ | refine And.intro ⟨Nat.le_of_ble_eq_true rfl, rfl, rfl⟩ ?_); conv => whnf))
  refine ⟨.inl rfl, .drop ?_⟩
  ((conv => whnf); repeat ((first | refine And.intro (rfl : (_ : Nat) = _) ?_ | refine And.intro (rfl : (_ : Bool) = true) ?_ | refine And.intro (Nat.le_of_ble_eq_true rfl) ?_ | refine And.intro ⟨Nat.le_of_ble_eq_true rfl, rfl, rfl⟩ ?_); conv => whnf))
  refine ⟨?_, rfl⟩
  obtain ⟨r1, r2⟩ := add4 va vb l0 l1 l2 l3 e0 e1 e2 e3
  rw [num_dig ((a + b) % 18446744073709551616 ^ 4), r1, r2]
  rfl
def WaddOk (P : Program) (G : Nat → AV) : Prop := ∀ {a b : Int}, N4 a → N4 b → Ans P G 43 [num a, num b] (.tup [num ((a + b) % 18446744073709551616 ^ 4), u64 ((a + b) / 18446744073709551616 ^ 4)])

theorem wsub_vc {a b : Int} (ha : N4 a) (hb : N4 b) : vc P G c47 (Ret [.cell 4 4 true, .t 5] (.tup [num ((a - b) % 18446744073709551616 ^ 4), u64 (if a < b then 1 else 0)])) (argFr 0 [num a, num b]) [] := by
  obtain ⟨a0, a1, a2, a3, ea, h0, h1, h2, h3, va⟩ := fourN ha
  obtain ⟨b0, b1, b2, b3, eb, k0, k1, k2, k3, vb⟩ := fourN hb
  rw [num_dig a, num_dig b, ea, eb]
  conv => whnf
  intro t2 t4
  conv => whnf
  refine LoopGoal.rounds P G 5 ?_
  ((conv => whnf); repeat ((first | refine And.intro (rfl : (_ : Nat) = _) ?_ | refine And.intro (rfl : (_ : Bool) = true) ?_ | refine And.intro (Nat.le_of_ble_eq_true rfl) ?_ | refine And.intro ⟨Nat.le_of_ble_eq_true rfl, rfl, rfl⟩ ?_); conv => whnf))
  refine CarryGoal.sub h0 k0 z01 fun x0 d0 l0 m0 e0 => ?_
  ((conv => whnf); repeat ((first | refine And.intro (rfl : (_ : Nat) = _) ?_ | refine And.intro (rfl : (_ : Bool) = true) ?_ | refine And.intro (Nat.le_of_ble_eq_true rfl) ?_ | refine And.intro ⟨Nat.le_of_ble_eq_true rfl, rfl, rfl⟩ ?_); conv => whnf))
  refine CarryGoal.sub h1 k1 m0 fun x1 d1 l1 m1 e1 => ?_
  ((conv => whnf); repeat ((first | refine And.intro (rfl : (_ : Nat) = _) ?_ | refine And.intro (rfl : (_ : Bool) = true) ?_ | refine And.intro (Nat.le_of_ble_eq_true rfl) ?_ | refine And.intro ⟨Nat.le_of_ble_eq_true rfl, rfl, rfl⟩ ?_); conv => whnf))
  refine CarryGoal.sub h2 k2 m1 fun x2 d2 l2 m2 e2 => ?_
  ((conv => whnf); repeat ((first | refine And.intro (rfl : (_ : Nat) = _) ?_ | refine And.intro (rfl : (_ : Bool) = true) ?_ | refine And.intro (Nat.le_of_ble_eq_true rfl) ?_ | refine And.intro ⟨Nat.le_of_ble_eq_true rfl, rfl, rfl⟩ ?_); conv => whnf))
  refine CarryGoal.sub h3 k3 m2 fun x3 d3 l3 m3 e3 => ?_
  ((conv => whnf); repeat ((first | refine And.intro (rfl : (_ : Nat) = _) ?_ | refine And.intro (rfl : (_ : Bool) = true) ?_ | refine And.intro (Nat.le_of_ble_eq_true rfl) ?_ | refine And.intro ⟨Nat.le_of_ble_eq_true rfl, rfl, rfl⟩ ?_); conv => whnf))
  refine ⟨.inl rfl, .drop ?_⟩
  ((conv => whnf); repeat ((first | refine And.intro (rfl : (_ : Nat) = _) ?_ | refine And.intro (rfl : (_ : Bool) = true) ?_ | refine And.intro (Nat.le_of_ble_eq_true rfl) ?_ | refine And.intro ⟨Nat.le_of_ble_eq_true rfl, rfl, rfl⟩ ?_); conv => whnf))
  refine ⟨?_, rfl⟩
  obtain ⟨r1, r2⟩ := sub4 va vb l0 l1 l2 l3 e0 e1 e2 e3 m3 ha hb
  rw [num_dig ((a - b) % 18446744073709551616 ^ 4), r1, ← r2]
  rfl
def WsubOk (P : Program) (G : Nat → AV) : Prop := ∀ {a b : Int}, N4 a → N4 b → Ans P G 47 [num a, num b] (.tup [num ((a - b) % 18446744073709551616 ^ 4), u64 (if a < b then 1 else 0)])

theorem bits64 {x : Int} (h : W1 x) : (BitVec.ofInt IntKind.u64.bits x).toNat = x.toNat := by
  simp only [IntKind.bits, BitVec.toNat_ofInt]; omega
theorem band_ones {x : Int} (h : W1 x) : band .u64 x (IntKind.u64.wrap (0 - 1)) = x := by
  unfold band
  rw [show IntKind.u64.wrap (0 - 1) = 18446744073709551615 from by rw [wrap_u64]; rfl, BitVec.toNat_and, bits64 h, bits64 (by omega), show (18446744073709551615 : Int).toNat = 2 ^ 64 - 1 from rfl, Nat.and_two_pow_sub_one_eq_mod, wrap_u64]
  omega
theorem band_zero {x : Int} (h : W1 x) : band .u64 x (IntKind.u64.wrap (0 - 0)) = 0 := by
  unfold band
  rw [show IntKind.u64.wrap (0 - 0) = 0 from by rw [wrap_u64]; rfl, BitVec.toNat_and, bits64 h, bits64 (by omega), show (0 : Int).toNat = 0 from rfl, Nat.and_zero]
  rfl
theorem bandn_zero {x : Int} (h : W1 x) : bandn .u64 x (IntKind.u64.wrap (0 - 0)) = x := by
  unfold bandn
  rw [show IntKind.u64.wrap (0 - 0) = 0 from by rw [wrap_u64]; rfl, show ~~~ BitVec.ofInt IntKind.u64.bits 0 = BitVec.ofInt IntKind.u64.bits 18446744073709551615 from by decide, BitVec.toNat_and, bits64 h, bits64 (by omega), show (18446744073709551615 : Int).toNat = 2 ^ 64 - 1 from rfl, Nat.and_two_pow_sub_one_eq_mod, wrap_u64]
  omega
theorem bandn_ones {x : Int} (h : W1 x) : bandn .u64 x (IntKind.u64.wrap (0 - 1)) = 0 := by
  unfold bandn
  rw [show IntKind.u64.wrap (0 - 1) = 18446744073709551615 from by rw [wrap_u64]; rfl, show ~~~ BitVec.ofInt IntKind.u64.bits 18446744073709551615 = BitVec.ofInt IntKind.u64.bits 0 from by decide, BitVec.toNat_and, bits64 h, bits64 (by omega), show (0 : Int).toNat = 0 from rfl, Nat.and_zero]
  rfl
theorem bor_zero {x : Int} (h : W1 x) : bor .u64 x 0 = x := by
  unfold bor
  rw [BitVec.toNat_or, bits64 h, bits64 (by omega), show (0 : Int).toNat = 0 from rfl, Nat.or_zero, wrap_u64]; omega
theorem zero_bor {x : Int} (h : W1 x) : bor .u64 0 x = x := by
  unfold bor
  rw [BitVec.toNat_or, bits64 h, bits64 (by omega), show (0 : Int).toNat = 0 from rfl, Nat.zero_or, wrap_u64]; omega
theorem band_one {x : Int} (h : W1 x) : band .u64 x 1 = x % 2 := by
  unfold band
  rw [BitVec.toNat_and, bits64 h, bits64 (by omega), show (1 : Int).toNat = 2 ^ 1 - 1 from rfl, Nat.and_two_pow_sub_one_eq_mod, wrap_u64]
  omega

theorem pick_vc {x a b : Int} (hx : x = 0 ∨ x = 1) (ha : N4 a) (hb : N4 b) : vc P G c48 (Ret [.cell 6 4 true] (num (if x = 1 then a else b))) (argFr 0 [u64 x, num a, num b]) [] := by
  obtain ⟨a0, a1, a2, a3, ea, h0, h1, h2, h3, va⟩ := fourN ha
  obtain ⟨b0, b1, b2, b3, eb, k0, k1, k2, k3, vb⟩ := fourN hb
  rw [num_dig a, num_dig b, ea, eb]
  conv => whnf
  intro t4 t6
  conv => whnf
  refine LoopGoal.rounds P G 5 ?_
  ((conv => whnf); repeat ((first | refine And.intro (rfl : (_ : Nat) = _) ?_ | refine And.intro (rfl : (_ : Bool) = true) ?_ | refine And.intro (Nat.le_of_ble_eq_true rfl) ?_ | refine And.intro ⟨Nat.le_of_ble_eq_true rfl, rfl, rfl⟩ ?_); conv => whnf))
  refine ⟨.inl rfl, .drop ?_⟩
  ((conv => whnf); repeat ((first | refine And.intro (rfl : (_ : Nat) = _) ?_ | refine And.intro (rfl : (_ : Bool) = true) ?_ | refine And.intro (Nat.le_of_ble_eq_true rfl) ?_ | refine And.intro ⟨Nat.le_of_ble_eq_true rfl, rfl, rfl⟩ ?_); conv => whnf))
  refine ⟨?_, rfl⟩
  rcases hx with rfl | rfl
  · rw [if_neg (by decide), ← num_eq eb]
    refine congrArg AV.agg ?_
    have e : band .u64 0 1 = 0 := by decide
    show [u64 (bor .u64 (band .u64 a0 (IntKind.u64.wrap (0 - band .u64 0 1))) (bandn .u64 b0 (IntKind.u64.wrap (0 - band .u64 0 1)))), u64 (bor .u64 (band .u64 a1 (IntKind.u64.wrap (0 - band .u64 0 1))) (bandn .u64 b1 (IntKind.u64.wrap (0 - band .u64 0 1)))),
      u64 (bor .u64 (band .u64 a2 (IntKind.u64.wrap (0 - band .u64 0 1))) (bandn .u64 b2 (IntKind.u64.wrap (0 - band .u64 0 1)))), u64 (bor .u64 (band .u64 a3 (IntKind.u64.wrap (0 - band .u64 0 1))) (bandn .u64 b3 (IntKind.u64.wrap (0 - band .u64 0 1))))] = _
    rw [e, band_zero h0, band_zero h1, band_zero h2, band_zero h3, bandn_zero k0, bandn_zero k1, bandn_zero k2, bandn_zero k3, zero_bor k0, zero_bor k1, zero_bor k2, zero_bor k3]
  · rw [if_pos rfl, ← num_eq ea]
    refine congrArg AV.agg ?_
    have e : band .u64 1 1 = 1 := by decide
    show [u64 (bor .u64 (band .u64 a0 (IntKind.u64.wrap (0 - band .u64 1 1))) (bandn .u64 b0 (IntKind.u64.wrap (0 - band .u64 1 1)))), u64 (bor .u64 (band .u64 a1 (IntKind.u64.wrap (0 - band .u64 1 1))) (bandn .u64 b1 (IntKind.u64.wrap (0 - band .u64 1 1)))),
      u64 (bor .u64 (band .u64 a2 (IntKind.u64.wrap (0 - band .u64 1 1))) (bandn .u64 b2 (IntKind.u64.wrap (0 - band .u64 1 1)))), u64 (bor .u64 (band .u64 a3 (IntKind.u64.wrap (0 - band .u64 1 1))) (bandn .u64 b3 (IntKind.u64.wrap (0 - band .u64 1 1))))] = _
    rw [e, band_ones h0, band_ones h1, band_ones h2, band_ones h3, bandn_ones k0, bandn_ones k1, bandn_ones k2, bandn_ones k3, bor_zero h0, bor_zero h1, bor_zero h2, bor_zero h3]
def PickOk (P : Program) (G : Nat → AV) : Prop := ∀ {x a b : Int}, x = 0 ∨ x = 1 → N4 a → N4 b → Ans P G 48 [u64 x, num a, num b] (num (if x = 1 then a else b))

theorem mod4 (a : Int) : N4 (a % 18446744073709551616 ^ 4) := by rw [N4, B4]; omega
theorem less_vc {a b : Int} (hS : WsubOk P G) (ha : N4 a) (hb : N4 b) : vc P G c65 (Ret [.t 4] (.bool (decide (a < b)))) (argFr 0 [num a, num b]) [] := by
  conv => whnf
  first | refine CallGoal.pure ((hS ha hb)) ?_ | refine PCallGoal.pure ((hS ha hb)) ?_
  ((conv => whnf); repeat ((first | refine And.intro (rfl : (_ : Nat) = _) ?_ | refine And.intro (rfl : (_ : Bool) = true) ?_ | refine And.intro (Nat.le_of_ble_eq_true rfl) ?_ | refine And.intro ⟨Nat.le_of_ble_eq_true rfl, rfl, rfl⟩ ?_); conv => whnf))
  intro t5
  ((conv => whnf); repeat ((first | refine And.intro (rfl : (_ : Nat) = _) ?_ | refine And.intro (rfl : (_ : Bool) = true) ?_ | refine And.intro (Nat.le_of_ble_eq_true rfl) ?_ | refine And.intro ⟨Nat.le_of_ble_eq_true rfl, rfl, rfl⟩ ?_); conv => whnf))
  refine ⟨.inl rfl, .drop ⟨?_, rfl⟩⟩
  show AV.bool ((if a < b then (1 : Int) else 0) == 1) = _
  by_cases h : a < b <;> simp [h]
def LessOk (P : Program) (G : Nat → AV) : Prop := ∀ {a b : Int}, N4 a → N4 b → Ans P G 65 [num a, num b] (.bool (decide (a < b)))

theorem once_vc {m k r a o : Int} (hS : WsubOk P G) (hP : PickOk P G) (hm : Md m) (ha : N4 a) (ho : o = 0 ∨ o = 1) (h2 : o * 18446744073709551616 ^ 4 + a < 2 * m) : vc P G c45 (Ret [.cell 6 4 true] (num ((o * 18446744073709551616 ^ 4 + a) % m))) (argFr 0 [mp m k r, num a, u64 o]) [] := by
  conv => whnf
  intro t6
  conv => whnf
  first | refine CallGoal.pure ((hS ha hm.n4)) ?_ | refine PCallGoal.pure ((hS ha hm.n4)) ?_
  ((conv => whnf); repeat ((first | refine And.intro (rfl : (_ : Nat) = _) ?_ | refine And.intro (rfl : (_ : Bool) = true) ?_ | refine And.intro (Nat.le_of_ble_eq_true rfl) ?_ | refine And.intro ⟨Nat.le_of_ble_eq_true rfl, rfl, rfl⟩ ?_); conv => whnf))
  intro t7
  ((conv => whnf); repeat ((first | refine And.intro (rfl : (_ : Nat) = _) ?_ | refine And.intro (rfl : (_ : Bool) = true) ?_ | refine And.intro (Nat.le_of_ble_eq_true rfl) ?_ | refine And.intro ⟨Nat.le_of_ble_eq_true rfl, rfl, rfl⟩ ?_); conv => whnf))
  have hx : bor .u64 o (IntKind.u64.wrap (1 - if a < m then 1 else 0)) = if o = 1 ∨ m ≤ a then 1 else 0 := by
    rcases ho with rfl | rfl
    · by_cases h : a < m
      · rw [if_pos h, if_neg (by omega)]; decide
      · rw [if_neg h, if_pos (by omega)]; decide
    · by_cases h : a < m
      · rw [if_pos h, if_pos (by omega)]; decide
      · rw [if_neg h, if_pos (by omega)]; decide
  have hc := hP (x := bor .u64 o (IntKind.u64.wrap (1 - if a < m then 1 else 0))) (by rw [hx]; split <;> simp) (mod4 (a - m)) ha
  first | refine CallGoal.pure (hc) ?_ | refine PCallGoal.pure (hc) ?_
  ((conv => whnf); repeat ((first | refine And.intro (rfl : (_ : Nat) = _) ?_ | refine And.intro (rfl : (_ : Bool) = true) ?_ | refine And.intro (Nat.le_of_ble_eq_true rfl) ?_ | refine And.intro ⟨Nat.le_of_ble_eq_true rfl, rfl, rfl⟩ ?_); conv => whnf))
  refine ⟨.inl rfl, .drop ?_⟩
  ((conv => whnf); repeat ((first | refine And.intro (rfl : (_ : Nat) = _) ?_ | refine And.intro (rfl : (_ : Bool) = true) ?_ | refine And.intro (Nat.le_of_ble_eq_true rfl) ?_ | refine And.intro ⟨Nat.le_of_ble_eq_true rfl, rfl, rfl⟩ ?_); conv => whnf))
  refine ⟨?_, rfl⟩
  rw [hx]
  refine congrArg num ?_
  have := hm.one
  have := hm.lt
  obtain ⟨ha1, ha2⟩ := ha
  rw [B4] at *
  rcases ho with rfl | rfl
  · by_cases h : m ≤ a
    · rw [if_pos (by simp [h]), Int.emod_eq_of_lt (by omega) (by omega)]
      rw [show 0 * 115792089237316195423570985008687907853269984665640564039457584007913129639936 + a = (a - m) + m from by omega, Int.add_emod_right, Int.emod_eq_of_lt (by omega) (by omega)]
    · rw [if_neg (by simp [h]), Int.emod_eq_of_lt (by omega) (by omega)]; omega
  · rw [if_pos (by simp)]
    rw [show (a - m) % 115792089237316195423570985008687907853269984665640564039457584007913129639936 = a - m + 115792089237316195423570985008687907853269984665640564039457584007913129639936 from by omega]
    exact (emod_of (q := 1) (by omega) (by omega) (by omega)).symm
def OnceOk (P : Program) (G : Nat → AV) : Prop := ∀ {m k r a o : Int}, Md m → N4 a → o = 0 ∨ o = 1 → o * 18446744073709551616 ^ 4 + a < 2 * m → Ans P G 45 [mp m k r, num a, u64 o] (num ((o * 18446744073709551616 ^ 4 + a) % m))
end Go.Proofs.Yteknjhamekpfjaa
