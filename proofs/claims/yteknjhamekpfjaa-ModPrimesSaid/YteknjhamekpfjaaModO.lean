/- Walks: two words divided by one, walked. -/
import Derived.Test.YteknjhamekpfjaaModN
namespace Go.Proofs.Yteknjhamekpfjaa
open Go.Eng Go.Num
set_option maxHeartbeats 4000000
set_option maxRecDepth 10000
set_option linter.unusedVariables false
set_option linter.unusedSimpArgs false
variable {P : Program} {G : Nat → AV}

theorem nzB_pos {y : Int} (h : 0 < y) : nzB y = true := by
  cases y with
  | ofNat n => cases n with
    | zero => exact absurd h (by decide)
    | succ n => rfl
  | negSucc n => rfl
theorem nonneg_nat (n : Nat) : nonnegB (n : Int) = true := rfl
theorem shl_nn {x : Int} (n : Nat) (hn : n ≤ 64) : shl .u64 x (n : Int) = (x * 2 ^ n) % 18446744073709551616 := by
  unfold shl
  rw [wrap_u64, show min ((n : Int).toNat) IntKind.u64.bits = n from by simp [IntKind.bits]; omega]
theorem bor_add {a b : Int} (n : Nat) (hn : n ≤ 64) (ha : 0 ≤ a) (hlt : a * 2 ^ n < 18446744073709551616) (hb : 0 ≤ b ∧ b < 2 ^ n) : bor .u64 (a * 2 ^ n) b = a * 2 ^ n + b := by
  have hp : (0 : Int) < 2 ^ n := Int.pow_pos (by omega)
  have ha2 : 0 ≤ a * 2 ^ n := Int.mul_nonneg ha (by omega)
  have hn2 : (2 : Int) ^ n ≤ 18446744073709551616 := by
    have := Nat.pow_le_pow_right (n := 2) (by omega) hn
    have e : ((2 ^ n : Nat) : Int) ≤ ((2 ^ 64 : Nat) : Int) := by exact_mod_cast this
    simpa using e
  obtain ⟨x, rfl⟩ : ∃ x : Nat, a = x := ⟨a.toNat, by omega⟩
  obtain ⟨y, rfl⟩ : ∃ y : Nat, b = y := ⟨b.toNat, by omega⟩
  have hy : y < 2 ^ n := by have := hb.2; exact_mod_cast this
  unfold bor
  rw [BitVec.toNat_or, bits64 ⟨ha2, hlt⟩, bits64 ⟨hb.1, by omega⟩]
  have e1 : ((x : Int) * 2 ^ n).toNat = x <<< n := by
    rw [Nat.shiftLeft_eq, show ((x : Int) * 2 ^ n) = ((x * 2 ^ n : Nat) : Int) from by simp]; rfl
  rw [e1, show ((y : Int)).toNat = y from rfl, ← Nat.shiftLeft_add_eq_or_of_lt hy, wrap_u64, Nat.shiftLeft_eq]
  have e2 : ((x * 2 ^ n + y : Nat) : Int) = (x : Int) * 2 ^ n + y := by simp
  rw [e2]
  refine Int.emod_eq_of_lt (by omega) ?_
  -- the sum is below 2^64, for the product is a multiple of 2^n that lies below it
  have hd : (18446744073709551616 : Int) = 2 ^ n * 2 ^ (64 - n) := by rw [← Int.pow_add, show n + (64 - n) = 64 from by omega]; rfl
  have : (x : Int) + 1 ≤ 2 ^ (64 - n) := by
    rw [hd, Int.mul_comm (x : Int)] at hlt
    have := Int.lt_of_mul_lt_mul_left hlt (Int.le_of_lt hp)
    omega
  have := Int.mul_le_mul_of_nonneg_left this (Int.le_of_lt hp)
  rw [← hd, Int.mul_add, Int.mul_comm (2 ^ n)] at this
  omega
/-- What is divided by what, made great. -/
theorem div_norm {hi lo y : Int} (hy : W1 y) (hlo : W1 lo) (hhi : 0 ≤ hi) (hlt : hi < y) (h0 : 0 < y) (s : Nat) (hs : (s : Int) = 64 - bl y) :
    9223372036854775808 ≤ y * 2 ^ s ∧ y * 2 ^ s < 18446744073709551616 ∧ hi * 2 ^ s + lo / 2 ^ (64 - s) < y * 2 ^ s ∧ 0 ≤ lo / 2 ^ (64 - s) ∧ lo / 2 ^ (64 - s) < 2 ^ s ∧ 0 ≤ hi * 2 ^ s ∧ hi * 2 ^ s < 18446744073709551616 ∧
    (hi * 18446744073709551616 + lo) * 2 ^ s = (hi * 2 ^ s + lo / 2 ^ (64 - s)) * 18446744073709551616 + lo * 2 ^ s % 18446744073709551616 := by
  have hb := bl_le h0 hy.2
  obtain ⟨b1, b2⟩ := bl_spec h0
  have hp : (0 : Int) < 2 ^ s := Int.pow_pos (by omega)
  have hp2 : (0 : Int) < 2 ^ (64 - s) := Int.pow_pos (by omega)
  have hd : (18446744073709551616 : Int) = 2 ^ (64 - s) * 2 ^ s := by rw [← Int.pow_add, show 64 - s + s = 64 from by omega]; rfl
  have k1 : y * 2 ^ s < 18446744073709551616 := by
    have := Int.mul_lt_mul_of_pos_right b2 hp
    rwa [← Int.pow_add, show bl y + s = 64 from by omega, show (2 : Int) ^ 64 = 18446744073709551616 from by decide] at this
  have k0 : 9223372036854775808 ≤ y * 2 ^ s := by
    have := Int.mul_le_mul_of_nonneg_right b1 (Int.le_of_lt hp)
    rwa [← Int.pow_add, show bl y - 1 + s = 63 from by unfold bl at *; omega, show (2 : Int) ^ 63 = 9223372036854775808 from by decide] at this
  have k2 : 0 ≤ lo / 2 ^ (64 - s) := Int.ediv_nonneg hlo.1 (Int.le_of_lt hp2)
  have k3 : lo / 2 ^ (64 - s) < 2 ^ s := Int.ediv_lt_of_lt_mul hp2 (by rw [Int.mul_comm, ← hd]; exact hlo.2)
  have k4 : 0 ≤ hi * 2 ^ s := Int.mul_nonneg hhi (by omega)
  have k5 : (hi + 1) * 2 ^ s ≤ y * 2 ^ s := Int.mul_le_mul_of_nonneg_right (by omega) (Int.le_of_lt hp)
  rw [Int.add_mul, Int.one_mul] at k5
  refine ⟨k0, k1, by omega, k2, k3, k4, by omega, ?_⟩
  have e1 := Int.mul_ediv_add_emod lo (2 ^ (64 - s))
  have e2 : lo * 2 ^ s % 18446744073709551616 = lo % 2 ^ (64 - s) * 2 ^ s := by rw [hd, Int.mul_comm lo, Int.mul_comm (2 ^ (64 - s)), Int.mul_emod_mul_of_pos _ _ hp, Int.mul_comm]
  rw [e2]
  have e3 : (lo / 2 ^ (64 - s)) * 18446744073709551616 = (2 ^ (64 - s) * (lo / 2 ^ (64 - s))) * 2 ^ s := by rw [hd]; grind
  have e4 : lo * 2 ^ s = 2 ^ (64 - s) * (lo / 2 ^ (64 - s)) * 2 ^ s + lo % 2 ^ (64 - s) * 2 ^ s := by rw [← Int.add_mul, e1]
  rw [Int.add_mul, Int.add_mul, e3, Int.add_assoc, ← e4]
  grind
theorem wsub_eq {a b r : Int} (h : r = a - b) (h0 : 0 ≤ r) (h1 : r < 18446744073709551616) : (a % 18446744073709551616 - b % 18446744073709551616) % 18446744073709551616 = r := by omega

def DivL1 (Y y1 y0 U u1 u0 : Int) (s : Nat) (n : Nat) (fr : Fr) (st : St) : Prop :=
  ∃ q r : Int, DivI U y1 y0 u1 q r ∧ r < 4294967296 ∧ n = q.toNat ∧ fr = [(2, u64 Y), (8, u64 (s : Nat)), (9, u64 y1), (10, u64 y0), (11, u64 U), (13, u64 u1), (14, u64 u0), (15, u64 q), (16, u64 r)] ∧ st = []
def DivL2 (Y y1 y0 U u1 u0 Q1 R1 : Int) (s : Nat) (n : Nat) (fr : Fr) (st : St) : Prop :=
  ∃ q r : Int, DivI R1 y1 y0 u0 q r ∧ r < 4294967296 ∧ n = q.toNat ∧ fr = [(2, u64 Y), (8, u64 (s : Nat)), (9, u64 y1), (10, u64 y0), (11, u64 U), (13, u64 u1), (14, u64 u0), (15, u64 Q1), (17, u64 R1), (18, u64 q), (16, u64 r)] ∧ st = []
theorem div64_vc {hi lo y : Int} (hZ : LzOk P G) (hy : W1 y) (hlo : W1 lo) (hhi : 0 ≤ hi) (hlt : hi < y) (hnz : 0 < hi) :
    vc P G c69 (Ret [.t 6, .t 7] (.tup [u64 ((hi * 18446744073709551616 + lo) / y), u64 ((hi * 18446744073709551616 + lo) % y)])) (argFr 0 [u64 hi, u64 lo, u64 y]) [] := by
  have h0 : 0 < y := by omega
  have hb := bl_le h0 hy.2
  obtain ⟨s, hs⟩ : ∃ s : Nat, (s : Int) = 64 - bl y := ⟨64 - bl y, by omega⟩
  obtain ⟨n1, n2, n3, n4, n5, n6, n7, n8⟩ := div_norm hy hlo hhi hlt h0 s hs
  have hs64 : s ≤ 64 := by omega
  conv => whnf
  rw [show (y == 0) = false from by simp; omega]
  ((conv => whnf); repeat ((first | refine And.intro (rfl : (_ : Nat) = _) ?_ | refine And.intro (rfl : (_ : Bool) = true) ?_ | refine And.intro (Nat.le_of_ble_eq_true rfl) ?_ | refine And.intro ⟨Nat.le_of_ble_eq_true rfl, rfl, rfl⟩ ?_); conv => whnf))
  rw [show lssB hi y = true from by rw [lssB_eq]; simp [hlt]]
  ((conv => whnf); repeat ((first | refine And.intro (rfl : (_ : Nat) = _) ?_ | refine And.intro (rfl : (_ : Bool) = true) ?_ | refine And.intro (Nat.le_of_ble_eq_true rfl) ?_ | refine And.intro ⟨Nat.le_of_ble_eq_true rfl, rfl, rfl⟩ ?_); conv => whnf))
  rw [show (hi == 0) = false from by simp; omega]
  ((conv => whnf); repeat ((first | refine And.intro (rfl : (_ : Nat) = _) ?_ | refine And.intro (rfl : (_ : Bool) = true) ?_ | refine And.intro (Nat.le_of_ble_eq_true rfl) ?_ | refine And.intro ⟨Nat.le_of_ble_eq_true rfl, rfl, rfl⟩ ?_); conv => whnf))
  first | refine CallGoal.pure (hZ hy h0) ?_ | refine PCallGoal.pure (hZ hy h0) ?_
  ((conv => whnf); repeat ((first | refine And.intro (rfl : (_ : Nat) = _) ?_ | refine And.intro (rfl : (_ : Bool) = true) ?_ | refine And.intro (Nat.le_of_ble_eq_true rfl) ?_ | refine And.intro ⟨Nat.le_of_ble_eq_true rfl, rfl, rfl⟩ ?_); conv => whnf))
  rw [show IntKind.u64.wrap (64 - (bl y : Int)) = ((s : Nat) : Int) from by rw [← hs, wrap_u64]; omega]
  have ey : shl .u64 y (s : Int) = y * 2 ^ s := by rw [shl_nn s hs64, Int.emod_eq_of_lt (by omega) n2]
  have ehi : shl .u64 hi (s : Int) = hi * 2 ^ s := by rw [shl_nn s hs64, Int.emod_eq_of_lt n6 n7]
  have elo : shl .u64 lo (s : Int) = lo * 2 ^ s % 18446744073709551616 := shl_nn s hs64
  have e64 : IntKind.u64.wrap (64 - (s : Int)) = ((64 - s : Nat) : Int) := by rw [wrap_u64]; omega
  have esh : shr .u64 lo ((64 - s : Nat) : Int) = lo / 2 ^ (64 - s) := shr_nn (k := .u64) (64 - s) (by show 64 - s ≤ 64; omega)
  have eor : bor .u64 (hi * 2 ^ s) (lo / 2 ^ (64 - s)) = hi * 2 ^ s + lo / 2 ^ (64 - s) := bor_add s hs64 hhi n7 ⟨n4, n5⟩
  ((conv => whnf); repeat ((first | refine And.intro (rfl : (_ : Nat) = _) ?_ | refine And.intro (rfl : (_ : Bool) = true) ?_ | refine And.intro (Nat.le_of_ble_eq_true rfl) ?_ | refine And.intro ⟨Nat.le_of_ble_eq_true rfl, rfl, rfl⟩ ?_); conv => whnf))
  refine ifB_mk (by rw [e64]; exact nonneg_nat _) ?_
  rw [e64]
  ((conv => whnf); repeat ((first | refine And.intro (rfl : (_ : Nat) = _) ?_ | refine And.intro (rfl : (_ : Bool) = true) ?_ | refine And.intro (Nat.le_of_ble_eq_true rfl) ?_ | refine And.intro ⟨Nat.le_of_ble_eq_true rfl, rfl, rfl⟩ ?_); conv => whnf))
  rw [ey, ehi, esh, eor]
  rw [elo]
  have hw : W1 (lo * 2 ^ s % 18446744073709551616) := by omega
  -- names
  have hq1 : (hi * 18446744073709551616 + lo) * 2 ^ s = (hi * 2 ^ s + lo / 2 ^ (64 - s)) * 18446744073709551616 + lo * 2 ^ s % 18446744073709551616 := n8
  have hq : (hi * 18446744073709551616 + lo) / y = ((hi * 18446744073709551616 + lo) * 2 ^ s) / (y * 2 ^ s) := (Int.mul_ediv_mul_of_pos_left _ _ (Int.pow_pos (by omega))).symm
  have hr : (hi * 18446744073709551616 + lo) % y = ((hi * 18446744073709551616 + lo) * 2 ^ s) % (y * 2 ^ s) / 2 ^ s := by
    rw [Int.mul_comm (hi * 18446744073709551616 + lo), Int.mul_comm y, Int.mul_emod_mul_of_pos _ _ (Int.pow_pos (by omega)), Int.mul_comm (2 ^ s), Int.mul_ediv_cancel _ (Int.ne_of_gt (Int.pow_pos (by omega)))]
  rw [hq, hr, hq1]
  clear hq hr hq1 n8
  have hU0 : 0 ≤ hi * 2 ^ s + lo / 2 ^ (64 - s) := by omega
  generalize hYe : y * 2 ^ s = Y at *
  generalize hUe : hi * 2 ^ s + lo / 2 ^ (64 - s) = U at *
  generalize hVe : lo * 2 ^ s % 18446744073709551616 = V at *
  obtain ⟨y1, y0, hy1, hy0, hYs⟩ : ∃ y1 y0, (2147483648 ≤ y1 ∧ y1 < 4294967296) ∧ (0 ≤ y0 ∧ y0 < 4294967296) ∧ Y = y1 * 4294967296 + y0 := ⟨Y / 4294967296, Y % 4294967296, by omega, by omega, by omega⟩
  obtain ⟨u1, u0, hu1, hu0, hVs⟩ : ∃ u1 u0, (0 ≤ u1 ∧ u1 < 4294967296) ∧ (0 ≤ u0 ∧ u0 < 4294967296) ∧ V = u1 * 4294967296 + u0 := ⟨V / 4294967296, V % 4294967296, by omega, by omega, by omega⟩
  have g1 : shr .u64 Y 32 = y1 := by rw [sh32]; omega
  have g0 : band .u64 Y 4294967295 = y0 := by rw [band32 (by omega)]; omega
  have g3 : shr .u64 V 32 = u1 := by rw [sh32]; omega
  have g2 : band .u64 V 4294967295 = u0 := by rw [band32 hw]; omega
  rw [g1, g3]
  rw [show nzB y1 = true from nzB_pos (by omega)]
  have N1 : DivN U y1 y0 u1 := ⟨hy1, hy0, hU0, by omega, hu1⟩
  obtain ⟨D1, D1r⟩ := div_first N1
  have t1 : Int.tdiv U y1 = U / y1 := Int.tdiv_eq_ediv_of_nonneg hU0
  have hUlt : U < 18446744073709551616 := by omega
  have w1 : IntKind.u64.wrap (Int.tdiv U y1) = U / y1 := by rw [t1, wrap_u64]; have := D1.q0; have := D1.q1; omega
  have w2 : IntKind.u64.wrap (U - IntKind.u64.wrap (U / y1 * y1)) = U - U / y1 * y1 := by
    rw [wrap_u64, wrap_u64]
    have := D1.r0
    generalize U / y1 * y1 = z at *
    omega
  ((conv => whnf); repeat ((first | refine And.intro (rfl : (_ : Nat) = _) ?_ | refine And.intro (rfl : (_ : Bool) = true) ?_ | refine And.intro (Nat.le_of_ble_eq_true rfl) ?_ | refine And.intro ⟨Nat.le_of_ble_eq_true rfl, rfl, rfl⟩ ?_); conv => whnf))
  refine LoopGoal.inv (DivL1 Y y1 y0 U u1 u0 s) (U / y1).toNat (Frz.keep (fr' := [(2, u64 Y), (8, u64 (s : Nat)), (9, u64 y1), (10, u64 y0), (11, u64 U), (13, u64 u1), (14, u64 u0), (15, u64 (U / y1)), (16, u64 (U - U / y1 * y1))]) (Fr.sub_cons rfl (Fr.sub_cons rfl (Fr.sub_cons rfl (Fr.sub_cons (congrArg (fun z => some (AV.int .u64 z)) g0) (Fr.sub_cons rfl (Fr.sub_cons rfl (Fr.sub_cons (congrArg (fun z => some (AV.int .u64 z)) g2) (Fr.sub_cons (congrArg (fun z => some (AV.int .u64 z)) w1) (Fr.sub_cons (by show some (AV.int .u64 (IntKind.u64.wrap (U - IntKind.u64.wrap (IntKind.u64.wrap (Int.tdiv U y1) * y1)))) = _; rw [w1, w2]) (Fr.sub_nil _))))))))))) ⟨_, _, D1, D1r, rfl, rfl, rfl⟩ ?_
  clear D1 D1r t1 w1 w2
  rintro n fr st ⟨q, r, D, Dr, hn, rfl, rfl⟩
  have hQ := div_lt32 N1
  conv => whnf
  have q0 := D.q0
  have q1 := D.q1
  have r0 := D.r0
  by_cases hq : q < 4294967296
  · rw [show lssB q 4294967296 = true from by rw [lssB_eq]; simp [hq]]
    ((conv => whnf); repeat ((first | refine And.intro (rfl : (_ : Nat) = _) ?_ | refine And.intro (rfl : (_ : Bool) = true) ?_ | refine And.intro (Nat.le_of_ble_eq_true rfl) ?_ | refine And.intro ⟨Nat.le_of_ble_eq_true rfl, rfl, rfl⟩ ?_); conv => whnf))
    have m1 := mul_half (x := q) (y := y0) ⟨q0, hq⟩ hy0
    have e1 : IntKind.u64.wrap (q * y0) = q * y0 := by rw [wrap_u64]; omega
    have e2 : IntKind.u64.wrap (IntKind.u64.wrap (4294967296 * r) + u1) = 4294967296 * r + u1 := by rw [wrap_u64, wrap_u64]; omega
    rw [e1, e2]
    by_cases ht : 4294967296 * r + u1 < q * y0
    · rw [show lssB (4294967296 * r + u1) (q * y0) = true from by rw [lssB_eq]; simp [ht]]
      obtain ⟨D2, D2q⟩ := div_down N1 D (.inr ht)
      have ge := D2.ge
      have wq : IntKind.u64.wrap (q - 1) = q - 1 := by rw [wrap_u64]; omega
      have wr : IntKind.u64.wrap (r + y1) = r + y1 := by rw [wrap_u64]; omega
      ((conv => whnf); repeat ((first | refine And.intro (rfl : (_ : Nat) = _) ?_ | refine And.intro (rfl : (_ : Bool) = true) ?_ | refine And.intro (Nat.le_of_ble_eq_true rfl) ?_ | refine And.intro ⟨Nat.le_of_ble_eq_true rfl, rfl, rfl⟩ ?_); conv => whnf))
      rw [wr]
      by_cases hbr : r + y1 < 4294967296
      · rw [show lssB (r + y1) 4294967296 = true from by rw [lssB_eq]; simp [hbr]]
        ((conv => whnf); repeat ((first | refine And.intro (rfl : (_ : Nat) = _) ?_ | refine And.intro (rfl : (_ : Bool) = true) ?_ | refine And.intro (Nat.le_of_ble_eq_true rfl) ?_ | refine And.intro ⟨Nat.le_of_ble_eq_true rfl, rfl, rfl⟩ ?_); conv => whnf))
        refine ⟨(q - 1).toNat, by omega, _, _, Frz.keep (fr' := [(2, u64 Y), (8, u64 (s : Nat)), (9, u64 y1), (10, u64 y0), (11, u64 U), (13, u64 u1), (14, u64 u0), (15, u64 (q - 1)), (16, u64 (r + y1))]) (Fr.sub_cons rfl (Fr.sub_cons rfl (Fr.sub_cons rfl (Fr.sub_cons rfl (Fr.sub_cons rfl (Fr.sub_cons rfl (Fr.sub_cons rfl (Fr.sub_cons (congrArg (fun z => some (AV.int .u64 z)) wq) (Fr.sub_cons rfl (Fr.sub_nil _)))))))))), _, _, D2, hbr, rfl, rfl, rfl⟩
      · rw [show lssB (r + y1) 4294967296 = false from by rw [lssB_eq]; simp; omega]
        ((conv => whnf); repeat ((first | refine And.intro (rfl : (_ : Nat) = _) ?_ | refine And.intro (rfl : (_ : Bool) = true) ?_ | refine And.intro (Nat.le_of_ble_eq_true rfl) ?_ | refine And.intro ⟨Nat.le_of_ble_eq_true rfl, rfl, rfl⟩ ?_); conv => whnf))
        have hfit := div_brk N1 D2 D2q (by omega)
        rw [← wq] at hfit
        generalize hQe : (IntKind.u64.wrap (q - 1)) = Q1 at *
        have hR : (U * 4294967296 + u1) % Y = U * 4294967296 + u1 - Q1 * Y := by rw [hfit, ← hYs, Int.emod_def, Int.mul_comm Y]
        have R0 := Int.emod_nonneg (U * 4294967296 + u1) (b := Y) (by omega)
        have R1l := Int.emod_lt_of_pos (U * 4294967296 + u1) (b := Y) (by omega)
        have Q1b := hQ
        rw [← hfit] at Q1b
        have wR : IntKind.u64.wrap (IntKind.u64.wrap (IntKind.u64.wrap (U * 4294967296) + u1) - IntKind.u64.wrap (Q1 * Y)) = (U * 4294967296 + u1) % Y := by
          rw [hR, wrap_u64, wrap_u64, wrap_u64, wrap_u64]
          rw [hR] at R0 R1l
          generalize Q1 * Y = z at *
          omega
        rw [wR]
        have hR1e : (U * 4294967296 + u1) % Y = (U * 4294967296 + u1) % Y := rfl
        generalize hR1 : (U * 4294967296 + u1) % Y = R1 at *
        rw [show nzB y1 = true from nzB_pos (by omega)]
        have N2 : DivN R1 y1 y0 u0 := ⟨hy1, hy0, R0, by omega, hu0⟩
        obtain ⟨D1, D1r⟩ := div_first N2
        have t1 : Int.tdiv R1 y1 = R1 / y1 := Int.tdiv_eq_ediv_of_nonneg R0
        have w1 : IntKind.u64.wrap (Int.tdiv R1 y1) = R1 / y1 := by rw [t1, wrap_u64]; have := D1.q0; have := D1.q1; omega
        have w2 : IntKind.u64.wrap (R1 - IntKind.u64.wrap (R1 / y1 * y1)) = R1 - R1 / y1 * y1 := by
          rw [wrap_u64, wrap_u64]
          have := D1.r0
          generalize R1 / y1 * y1 = z at *
          omega
        have hQ2 := div_lt32 N2
        have hfin : ∀ Q0 : Int, Q0 = (R1 * 4294967296 + u0) / (y1 * 4294967296 + y0) → AV.tup [AV.int .u64 (IntKind.u64.wrap (IntKind.u64.wrap (Q1 * 4294967296) + Q0)), AV.int .u64 (shr .u64 (IntKind.u64.wrap (IntKind.u64.wrap (IntKind.u64.wrap (R1 * 4294967296) + u0) - IntKind.u64.wrap (Q0 * Y))) (s : Nat))] = .tup [u64 ((U * 18446744073709551616 + V) / Y), u64 ((U * 18446744073709551616 + V) % Y / 2 ^ s)] := fun Q0 hQ0 => by
          have hQ0b := hQ2
          rw [← hQ0] at hQ0b
          rw [← hYs] at hQ0 hfit
          have htwo := div_two (A := U) (y := Y) (u1 := u1) (u0 := u0) (by omega) hfit hR1.symm hQ0
          have hV : (U * 4294967296 + u1) * 4294967296 + u0 = U * 18446744073709551616 + V := by omega
          rw [hV] at htwo
          have e1 : IntKind.u64.wrap (IntKind.u64.wrap (Q1 * 4294967296) + Q0) = (U * 18446744073709551616 + V) / Y := by rw [← htwo, wrap_u64, wrap_u64]; omega
          have hR0 : (R1 * 4294967296 + u0) % Y = R1 * 4294967296 + u0 - Q0 * Y := by rw [hQ0, Int.emod_def, Int.mul_comm Y]
          have hmm : (U * 18446744073709551616 + V) % Y = (R1 * 4294967296 + u0) % Y := by
            rw [← hV, ← hR1, Int.add_emod ((U * 4294967296 + u1) % Y * 4294967296), mul_mod_l, ← Int.add_emod]
          have P0 := Int.emod_nonneg (R1 * 4294967296 + u0) (b := Y) (by omega)
          have P1 := Int.emod_lt_of_pos (R1 * 4294967296 + u0) (b := Y) (by omega)
          have e2 : IntKind.u64.wrap (IntKind.u64.wrap (IntKind.u64.wrap (R1 * 4294967296) + u0) - IntKind.u64.wrap (Q0 * Y)) = (U * 18446744073709551616 + V) % Y := by
            rw [hmm, hR0, wrap_u64, wrap_u64, wrap_u64, wrap_u64]
            rw [hR0] at P0 P1
            generalize Q0 * Y = z at *
            omega
          rw [e1, e2, shr_nn (k := .u64) s hs64]
        ((conv => whnf); repeat ((first | refine And.intro (rfl : (_ : Nat) = _) ?_ | refine And.intro (rfl : (_ : Bool) = true) ?_ | refine And.intro (Nat.le_of_ble_eq_true rfl) ?_ | refine And.intro ⟨Nat.le_of_ble_eq_true rfl, rfl, rfl⟩ ?_); conv => whnf))
        refine LoopGoal.inv (DivL2 Y y1 y0 U u1 u0 Q1 R1 s) (R1 / y1).toNat (Frz.keep (fr' := [(2, u64 Y), (8, u64 (s : Nat)), (9, u64 y1), (10, u64 y0), (11, u64 U), (13, u64 u1), (14, u64 u0), (15, u64 Q1), (17, u64 R1), (18, u64 (R1 / y1)), (16, u64 (R1 - R1 / y1 * y1))]) (Fr.sub_cons rfl (Fr.sub_cons rfl (Fr.sub_cons rfl (Fr.sub_cons rfl (Fr.sub_cons rfl (Fr.sub_cons rfl (Fr.sub_cons rfl (Fr.sub_cons rfl (Fr.sub_cons rfl (Fr.sub_cons (congrArg (fun z => some (AV.int .u64 z)) w1) (Fr.sub_cons (by show some (AV.int .u64 (IntKind.u64.wrap (R1 - IntKind.u64.wrap (IntKind.u64.wrap (Int.tdiv R1 y1) * y1)))) = _; rw [w1, w2]) (Fr.sub_nil _))))))))))))) ⟨_, _, D1, D1r, rfl, rfl, rfl⟩ ?_
        clear D1 D1r t1 w1 w2
        clear D Dr hn
        rintro n fr st ⟨q, r, D, Dr, hn, rfl, rfl⟩
        conv => whnf
        have q0 := D.q0
        have q1 := D.q1
        have r0 := D.r0
        by_cases hq : q < 4294967296
        · rw [show lssB q 4294967296 = true from by rw [lssB_eq]; simp [hq]]
          ((conv => whnf); repeat ((first | refine And.intro (rfl : (_ : Nat) = _) ?_ | refine And.intro (rfl : (_ : Bool) = true) ?_ | refine And.intro (Nat.le_of_ble_eq_true rfl) ?_ | refine And.intro ⟨Nat.le_of_ble_eq_true rfl, rfl, rfl⟩ ?_); conv => whnf))
          have m1 := mul_half (x := q) (y := y0) ⟨q0, hq⟩ hy0
          have e1 : IntKind.u64.wrap (q * y0) = q * y0 := by rw [wrap_u64]; omega
          have e2 : IntKind.u64.wrap (IntKind.u64.wrap (4294967296 * r) + u0) = 4294967296 * r + u0 := by rw [wrap_u64, wrap_u64]; omega
          rw [e1, e2]
          by_cases ht : 4294967296 * r + u0 < q * y0
          · rw [show lssB (4294967296 * r + u0) (q * y0) = true from by rw [lssB_eq]; simp [ht]]
            obtain ⟨D2, D2q⟩ := div_down N2 D (.inr ht)
            have ge := D2.ge
            have wq : IntKind.u64.wrap (q - 1) = q - 1 := by rw [wrap_u64]; omega
            have wr : IntKind.u64.wrap (r + y1) = r + y1 := by rw [wrap_u64]; omega
            ((conv => whnf); repeat ((first | refine And.intro (rfl : (_ : Nat) = _) ?_ | refine And.intro (rfl : (_ : Bool) = true) ?_ | refine And.intro (Nat.le_of_ble_eq_true rfl) ?_ | refine And.intro ⟨Nat.le_of_ble_eq_true rfl, rfl, rfl⟩ ?_); conv => whnf))
            rw [wr]
            by_cases hbr : r + y1 < 4294967296
            · rw [show lssB (r + y1) 4294967296 = true from by rw [lssB_eq]; simp [hbr]]
              ((conv => whnf); repeat ((first | refine And.intro (rfl : (_ : Nat) = _) ?_ | refine And.intro (rfl : (_ : Bool) = true) ?_ | refine And.intro (Nat.le_of_ble_eq_true rfl) ?_ | refine And.intro ⟨Nat.le_of_ble_eq_true rfl, rfl, rfl⟩ ?_); conv => whnf))
              refine ⟨(q - 1).toNat, by omega, _, _, Frz.keep (fr' := [(2, u64 Y), (8, u64 (s : Nat)), (9, u64 y1), (10, u64 y0), (11, u64 U), (13, u64 u1), (14, u64 u0), (15, u64 Q1), (17, u64 R1), (18, u64 (q - 1)), (16, u64 (r + y1))]) (Fr.sub_cons rfl (Fr.sub_cons rfl (Fr.sub_cons rfl (Fr.sub_cons rfl (Fr.sub_cons rfl (Fr.sub_cons rfl (Fr.sub_cons rfl (Fr.sub_cons rfl (Fr.sub_cons rfl (Fr.sub_cons (congrArg (fun z => some (AV.int .u64 z)) wq) (Fr.sub_cons rfl (Fr.sub_nil _)))))))))))), _, _, D2, hbr, rfl, rfl, rfl⟩
            · rw [show lssB (r + y1) 4294967296 = false from by rw [lssB_eq]; simp; omega]
              ((conv => whnf); repeat ((first | refine And.intro (rfl : (_ : Nat) = _) ?_ | refine And.intro (rfl : (_ : Bool) = true) ?_ | refine And.intro (Nat.le_of_ble_eq_true rfl) ?_ | refine And.intro ⟨Nat.le_of_ble_eq_true rfl, rfl, rfl⟩ ?_); conv => whnf))
              have hfit := div_brk N2 D2 D2q (by omega)
              rw [← wq] at hfit
              refine ifB_mk (nonneg_nat s) ?_
              ((conv => whnf); repeat ((first | refine And.intro (rfl : (_ : Nat) = _) ?_ | refine And.intro (rfl : (_ : Bool) = true) ?_ | refine And.intro (Nat.le_of_ble_eq_true rfl) ?_ | refine And.intro ⟨Nat.le_of_ble_eq_true rfl, rfl, rfl⟩ ?_); conv => whnf))
              refine ⟨.inl rfl, .drop ⟨?_, rfl⟩⟩
              generalize (IntKind.u64.wrap (q - 1)) = Q0 at *
              exact hfin Q0 hfit
          · rw [show lssB (4294967296 * r + u0) (q * y0) = false from by rw [lssB_eq]; simp; omega]
            ((conv => whnf); repeat ((first | refine And.intro (rfl : (_ : Nat) = _) ?_ | refine And.intro (rfl : (_ : Bool) = true) ?_ | refine And.intro (Nat.le_of_ble_eq_true rfl) ?_ | refine And.intro ⟨Nat.le_of_ble_eq_true rfl, rfl, rfl⟩ ?_); conv => whnf))
            have hfit := div_fit N2 D hq (by omega)
            refine ifB_mk (nonneg_nat s) ?_
            ((conv => whnf); repeat ((first | refine And.intro (rfl : (_ : Nat) = _) ?_ | refine And.intro (rfl : (_ : Bool) = true) ?_ | refine And.intro (Nat.le_of_ble_eq_true rfl) ?_ | refine And.intro ⟨Nat.le_of_ble_eq_true rfl, rfl, rfl⟩ ?_); conv => whnf))
            refine ⟨.inl rfl, .drop ⟨?_, rfl⟩⟩
            generalize q = Q0 at *
            exact hfin Q0 hfit
        · rw [show lssB q 4294967296 = false from by rw [lssB_eq]; simp; omega]
          obtain ⟨D2, D2q⟩ := div_down N2 D (.inl (by omega))
          have ge := D2.ge
          have wq : IntKind.u64.wrap (q - 1) = q - 1 := by rw [wrap_u64]; omega
          have wr : IntKind.u64.wrap (r + y1) = r + y1 := by rw [wrap_u64]; omega
          ((conv => whnf); repeat ((first | refine And.intro (rfl : (_ : Nat) = _) ?_ | refine And.intro (rfl : (_ : Bool) = true) ?_ | refine And.intro (Nat.le_of_ble_eq_true rfl) ?_ | refine And.intro ⟨Nat.le_of_ble_eq_true rfl, rfl, rfl⟩ ?_); conv => whnf))
          rw [wr]
          by_cases hbr : r + y1 < 4294967296
          · rw [show lssB (r + y1) 4294967296 = true from by rw [lssB_eq]; simp [hbr]]
            ((conv => whnf); repeat ((first | refine And.intro (rfl : (_ : Nat) = _) ?_ | refine And.intro (rfl : (_ : Bool) = true) ?_ | refine And.intro (Nat.le_of_ble_eq_true rfl) ?_ | refine And.intro ⟨Nat.le_of_ble_eq_true rfl, rfl, rfl⟩ ?_); conv => whnf))
            refine ⟨(q - 1).toNat, by omega, _, _, Frz.keep (fr' := [(2, u64 Y), (8, u64 (s : Nat)), (9, u64 y1), (10, u64 y0), (11, u64 U), (13, u64 u1), (14, u64 u0), (15, u64 Q1), (17, u64 R1), (18, u64 (q - 1)), (16, u64 (r + y1))]) (Fr.sub_cons rfl (Fr.sub_cons rfl (Fr.sub_cons rfl (Fr.sub_cons rfl (Fr.sub_cons rfl (Fr.sub_cons rfl (Fr.sub_cons rfl (Fr.sub_cons rfl (Fr.sub_cons rfl (Fr.sub_cons (congrArg (fun z => some (AV.int .u64 z)) wq) (Fr.sub_cons rfl (Fr.sub_nil _)))))))))))), _, _, D2, hbr, rfl, rfl, rfl⟩
          · rw [show lssB (r + y1) 4294967296 = false from by rw [lssB_eq]; simp; omega]
            ((conv => whnf); repeat ((first | refine And.intro (rfl : (_ : Nat) = _) ?_ | refine And.intro (rfl : (_ : Bool) = true) ?_ | refine And.intro (Nat.le_of_ble_eq_true rfl) ?_ | refine And.intro ⟨Nat.le_of_ble_eq_true rfl, rfl, rfl⟩ ?_); conv => whnf))
            have hfit := div_brk N2 D2 D2q (by omega)
            rw [← wq] at hfit
            refine ifB_mk (nonneg_nat s) ?_
            ((conv => whnf); repeat ((first | refine And.intro (rfl : (_ : Nat) = _) ?_ | refine And.intro (rfl : (_ : Bool) = true) ?_ | refine And.intro (Nat.le_of_ble_eq_true rfl) ?_ | refine And.intro ⟨Nat.le_of_ble_eq_true rfl, rfl, rfl⟩ ?_); conv => whnf))
            refine ⟨.inl rfl, .drop ⟨?_, rfl⟩⟩
            generalize (IntKind.u64.wrap (q - 1)) = Q0 at *
            exact hfin Q0 hfit
    · rw [show lssB (4294967296 * r + u1) (q * y0) = false from by rw [lssB_eq]; simp; omega]
      ((conv => whnf); repeat ((first | refine And.intro (rfl : (_ : Nat) = _) ?_ | refine And.intro (rfl : (_ : Bool) = true) ?_ | refine And.intro (Nat.le_of_ble_eq_true rfl) ?_ | refine And.intro ⟨Nat.le_of_ble_eq_true rfl, rfl, rfl⟩ ?_); conv => whnf))
      have hfit := div_fit N1 D hq (by omega)
      generalize hQe : q = Q1 at *
      have hR : (U * 4294967296 + u1) % Y = U * 4294967296 + u1 - Q1 * Y := by rw [hfit, ← hYs, Int.emod_def, Int.mul_comm Y]
      have R0 := Int.emod_nonneg (U * 4294967296 + u1) (b := Y) (by omega)
      have R1l := Int.emod_lt_of_pos (U * 4294967296 + u1) (b := Y) (by omega)
      have Q1b := hQ
      rw [← hfit] at Q1b
      have wR : IntKind.u64.wrap (IntKind.u64.wrap (IntKind.u64.wrap (U * 4294967296) + u1) - IntKind.u64.wrap (Q1 * Y)) = (U * 4294967296 + u1) % Y := by
        rw [hR, wrap_u64, wrap_u64, wrap_u64, wrap_u64]
        rw [hR] at R0 R1l
        generalize Q1 * Y = z at *
        omega
      rw [wR]
      have hR1e : (U * 4294967296 + u1) % Y = (U * 4294967296 + u1) % Y := rfl
      generalize hR1 : (U * 4294967296 + u1) % Y = R1 at *
      rw [show nzB y1 = true from nzB_pos (by omega)]
      have N2 : DivN R1 y1 y0 u0 := ⟨hy1, hy0, R0, by omega, hu0⟩
      obtain ⟨D1, D1r⟩ := div_first N2
      have t1 : Int.tdiv R1 y1 = R1 / y1 := Int.tdiv_eq_ediv_of_nonneg R0
      have w1 : IntKind.u64.wrap (Int.tdiv R1 y1) = R1 / y1 := by rw [t1, wrap_u64]; have := D1.q0; have := D1.q1; omega
      have w2 : IntKind.u64.wrap (R1 - IntKind.u64.wrap (R1 / y1 * y1)) = R1 - R1 / y1 * y1 := by
        rw [wrap_u64, wrap_u64]
        have := D1.r0
        generalize R1 / y1 * y1 = z at *
        omega
      have hQ2 := div_lt32 N2
      have hfin : ∀ Q0 : Int, Q0 = (R1 * 4294967296 + u0) / (y1 * 4294967296 + y0) → AV.tup [AV.int .u64 (IntKind.u64.wrap (IntKind.u64.wrap (Q1 * 4294967296) + Q0)), AV.int .u64 (shr .u64 (IntKind.u64.wrap (IntKind.u64.wrap (IntKind.u64.wrap (R1 * 4294967296) + u0) - IntKind.u64.wrap (Q0 * Y))) (s : Nat))] = .tup [u64 ((U * 18446744073709551616 + V) / Y), u64 ((U * 18446744073709551616 + V) % Y / 2 ^ s)] := fun Q0 hQ0 => by
        have hQ0b := hQ2
        rw [← hQ0] at hQ0b
        rw [← hYs] at hQ0 hfit
        have htwo := div_two (A := U) (y := Y) (u1 := u1) (u0 := u0) (by omega) hfit hR1.symm hQ0
        have hV : (U * 4294967296 + u1) * 4294967296 + u0 = U * 18446744073709551616 + V := by omega
        rw [hV] at htwo
        have e1 : IntKind.u64.wrap (IntKind.u64.wrap (Q1 * 4294967296) + Q0) = (U * 18446744073709551616 + V) / Y := by rw [← htwo, wrap_u64, wrap_u64]; omega
        have hR0 : (R1 * 4294967296 + u0) % Y = R1 * 4294967296 + u0 - Q0 * Y := by rw [hQ0, Int.emod_def, Int.mul_comm Y]
        have hmm : (U * 18446744073709551616 + V) % Y = (R1 * 4294967296 + u0) % Y := by
          rw [← hV, ← hR1, Int.add_emod ((U * 4294967296 + u1) % Y * 4294967296), mul_mod_l, ← Int.add_emod]
        have P0 := Int.emod_nonneg (R1 * 4294967296 + u0) (b := Y) (by omega)
        have P1 := Int.emod_lt_of_pos (R1 * 4294967296 + u0) (b := Y) (by omega)
        have e2 : IntKind.u64.wrap (IntKind.u64.wrap (IntKind.u64.wrap (R1 * 4294967296) + u0) - IntKind.u64.wrap (Q0 * Y)) = (U * 18446744073709551616 + V) % Y := by
          rw [hmm, hR0, wrap_u64, wrap_u64, wrap_u64, wrap_u64]
          rw [hR0] at P0 P1
          generalize Q0 * Y = z at *
          omega
        rw [e1, e2, shr_nn (k := .u64) s hs64]
      ((conv => whnf); repeat ((first | refine And.intro (rfl : (_ : Nat) = _) ?_ | refine And.intro (rfl : (_ : Bool) = true) ?_ | refine And.intro (Nat.le_of_ble_eq_true rfl) ?_ | refine And.intro ⟨Nat.le_of_ble_eq_true rfl, rfl, rfl⟩ ?_); conv => whnf))
      refine LoopGoal.inv (DivL2 Y y1 y0 U u1 u0 Q1 R1 s) (R1 / y1).toNat (Frz.keep (fr' := [(2, u64 Y), (8, u64 (s : Nat)), (9, u64 y1), (10, u64 y0), (11, u64 U), (13, u64 u1), (14, u64 u0), (15, u64 Q1), (17, u64 R1), (18, u64 (R1 / y1)), (16, u64 (R1 - R1 / y1 * y1))]) (Fr.sub_cons rfl (Fr.sub_cons rfl (Fr.sub_cons rfl (Fr.sub_cons rfl (Fr.sub_cons rfl (Fr.sub_cons rfl (Fr.sub_cons rfl (Fr.sub_cons rfl (Fr.sub_cons rfl (Fr.sub_cons (congrArg (fun z => some (AV.int .u64 z)) w1) (Fr.sub_cons (by show some (AV.int .u64 (IntKind.u64.wrap (R1 - IntKind.u64.wrap (IntKind.u64.wrap (Int.tdiv R1 y1) * y1)))) = _; rw [w1, w2]) (Fr.sub_nil _))))))))))))) ⟨_, _, D1, D1r, rfl, rfl, rfl⟩ ?_
      clear D1 D1r t1 w1 w2
      clear D Dr hn
      rintro n fr st ⟨q, r, D, Dr, hn, rfl, rfl⟩
      conv => whnf
      have q0 := D.q0
      have q1 := D.q1
      have r0 := D.r0
      by_cases hq : q < 4294967296
      · rw [show lssB q 4294967296 = true from by rw [lssB_eq]; simp [hq]]
        ((conv => whnf); repeat ((first | refine And.intro (rfl : (_ : Nat) = _) ?_ | refine And.intro (rfl : (_ : Bool) = true) ?_ | refine And.intro (Nat.le_of_ble_eq_true rfl) ?_ | refine And.intro ⟨Nat.le_of_ble_eq_true rfl, rfl, rfl⟩ ?_); conv => whnf))
        have m1 := mul_half (x := q) (y := y0) ⟨q0, hq⟩ hy0
        have e1 : IntKind.u64.wrap (q * y0) = q * y0 := by rw [wrap_u64]; omega
        have e2 : IntKind.u64.wrap (IntKind.u64.wrap (4294967296 * r) + u0) = 4294967296 * r + u0 := by rw [wrap_u64, wrap_u64]; omega
        rw [e1, e2]
        by_cases ht : 4294967296 * r + u0 < q * y0
        · rw [show lssB (4294967296 * r + u0) (q * y0) = true from by rw [lssB_eq]; simp [ht]]
          obtain ⟨D2, D2q⟩ := div_down N2 D (.inr ht)
          have ge := D2.ge
          have wq : IntKind.u64.wrap (q - 1) = q - 1 := by rw [wrap_u64]; omega
          have wr : IntKind.u64.wrap (r + y1) = r + y1 := by rw [wrap_u64]; omega
          ((conv => whnf); repeat ((first | refine And.intro (rfl : (_ : Nat) = _) ?_ | refine And.intro (rfl : (_ : Bool) = true) ?_ | refine And.intro (Nat.le_of_ble_eq_true rfl) ?_ | refine And.intro ⟨Nat.le_of_ble_eq_true rfl, rfl, rfl⟩ ?_); conv => whnf))
          rw [wr]
          by_cases hbr : r + y1 < 4294967296
          · rw [show lssB (r + y1) 4294967296 = true from by rw [lssB_eq]; simp [hbr]]
            ((conv => whnf); repeat ((first | refine And.intro (rfl : (_ : Nat) = _) ?_ | refine And.intro (rfl : (_ : Bool) = true) ?_ | refine And.intro (Nat.le_of_ble_eq_true rfl) ?_ | refine And.intro ⟨Nat.le_of_ble_eq_true rfl, rfl, rfl⟩ ?_); conv => whnf))
            refine ⟨(q - 1).toNat, by omega, _, _, Frz.keep (fr' := [(2, u64 Y), (8, u64 (s : Nat)), (9, u64 y1), (10, u64 y0), (11, u64 U), (13, u64 u1), (14, u64 u0), (15, u64 Q1), (17, u64 R1), (18, u64 (q - 1)), (16, u64 (r + y1))]) (Fr.sub_cons rfl (Fr.sub_cons rfl (Fr.sub_cons rfl (Fr.sub_cons rfl (Fr.sub_cons rfl (Fr.sub_cons rfl (Fr.sub_cons rfl (Fr.sub_cons rfl (Fr.sub_cons rfl (Fr.sub_cons (congrArg (fun z => some (AV.int .u64 z)) wq) (Fr.sub_cons rfl (Fr.sub_nil _)))))))))))), _, _, D2, hbr, rfl, rfl, rfl⟩
          · rw [show lssB (r + y1) 4294967296 = false from by rw [lssB_eq]; simp; omega]
            ((conv => whnf); repeat ((first | refine And.intro (rfl : (_ : Nat) = _) ?_ | refine And.intro (rfl : (_ : Bool) = true) ?_ | refine And.intro (Nat.le_of_ble_eq_true rfl) ?_ | refine And.intro ⟨Nat.le_of_ble_eq_true rfl, rfl, rfl⟩ ?_); conv => whnf))
            have hfit := div_brk N2 D2 D2q (by omega)
            rw [← wq] at hfit
            refine ifB_mk (nonneg_nat s) ?_
            ((conv => whnf); repeat ((first | refine And.intro (rfl : (_ : Nat) = _) ?_ | refine And.intro (rfl : (_ : Bool) = true) ?_ | refine And.intro (Nat.le_of_ble_eq_true rfl) ?_ | refine And.intro ⟨Nat.le_of_ble_eq_true rfl, rfl, rfl⟩ ?_); conv => whnf))
            refine ⟨.inl rfl, .drop ⟨?_, rfl⟩⟩
            generalize (IntKind.u64.wrap (q - 1)) = Q0 at *
            exact hfin Q0 hfit
        · rw [show lssB (4294967296 * r + u0) (q * y0) = false from by rw [lssB_eq]; simp; omega]
          ((conv => whnf); repeat ((first | refine And.intro (rfl : (_ : Nat) = _) ?_ | refine And.intro (rfl : (_ : Bool) = true) ?_ | refine And.intro (Nat.le_of_ble_eq_true rfl) ?_ | refine And.intro ⟨Nat.le_of_ble_eq_true rfl, rfl, rfl⟩ ?_); conv => whnf))
          have hfit := div_fit N2 D hq (by omega)
          refine ifB_mk (nonneg_nat s) ?_
          ((conv => whnf); repeat ((first | refine And.intro (rfl : (_ : Nat) = _) ?_ | refine And.intro (rfl : (_ : Bool) = true) ?_ | refine And.intro (Nat.le_of_ble_eq_true rfl) ?_ | refine And.intro ⟨Nat.le_of_ble_eq_true rfl, rfl, rfl⟩ ?_); conv => whnf))
          refine ⟨.inl rfl, .drop ⟨?_, rfl⟩⟩
          generalize q = Q0 at *
          exact hfin Q0 hfit
      · rw [show lssB q 4294967296 = false from by rw [lssB_eq]; simp; omega]
        obtain ⟨D2, D2q⟩ := div_down N2 D (.inl (by omega))
        have ge := D2.ge
        have wq : IntKind.u64.wrap (q - 1) = q - 1 := by rw [wrap_u64]; omega
        have wr : IntKind.u64.wrap (r + y1) = r + y1 := by rw [wrap_u64]; omega
        ((conv => whnf); repeat ((first | refine And.intro (rfl : (_ : Nat) = _) ?_ | refine And.intro (rfl : (_ : Bool) = true) ?_ | refine And.intro (Nat.le_of_ble_eq_true rfl) ?_ | refine And.intro ⟨Nat.le_of_ble_eq_true rfl, rfl, rfl⟩ ?_); conv => whnf))
        rw [wr]
        by_cases hbr : r + y1 < 4294967296
        · rw [show lssB (r + y1) 4294967296 = true from by rw [lssB_eq]; simp [hbr]]
          ((conv => whnf); repeat ((first | refine And.intro (rfl : (_ : Nat) = _) ?_ | refine And.intro (rfl : (_ : Bool) = true) ?_ | refine And.intro (Nat.le_of_ble_eq_true rfl) ?_ | refine And.intro ⟨Nat.le_of_ble_eq_true rfl, rfl, rfl⟩ ?_); conv => whnf))
          refine ⟨(q - 1).toNat, by omega, _, _, Frz.keep (fr' := [(2, u64 Y), (8, u64 (s : Nat)), (9, u64 y1), (10, u64 y0), (11, u64 U), (13, u64 u1), (14, u64 u0), (15, u64 Q1), (17, u64 R1), (18, u64 (q - 1)), (16, u64 (r + y1))]) (Fr.sub_cons rfl (Fr.sub_cons rfl (Fr.sub_cons rfl (Fr.sub_cons rfl (Fr.sub_cons rfl (Fr.sub_cons rfl (Fr.sub_cons rfl (Fr.sub_cons rfl (Fr.sub_cons rfl (Fr.sub_cons (congrArg (fun z => some (AV.int .u64 z)) wq) (Fr.sub_cons rfl (Fr.sub_nil _)))))))))))), _, _, D2, hbr, rfl, rfl, rfl⟩
        · rw [show lssB (r + y1) 4294967296 = false from by rw [lssB_eq]; simp; omega]
          ((conv => whnf); repeat ((first | refine And.intro (rfl : (_ : Nat) = _) ?_ | refine And.intro (rfl : (_ : Bool) = true) ?_ | refine And.intro (Nat.le_of_ble_eq_true rfl) ?_ | refine And.intro ⟨Nat.le_of_ble_eq_true rfl, rfl, rfl⟩ ?_); conv => whnf))
          have hfit := div_brk N2 D2 D2q (by omega)
          rw [← wq] at hfit
          refine ifB_mk (nonneg_nat s) ?_
          ((conv => whnf); repeat ((first | refine And.intro (rfl : (_ : Nat) = _) ?_ | refine And.intro (rfl : (_ : Bool) = true) ?_ | refine And.intro (Nat.le_of_ble_eq_true rfl) ?_ | refine And.intro ⟨Nat.le_of_ble_eq_true rfl, rfl, rfl⟩ ?_); conv => whnf))
          refine ⟨.inl rfl, .drop ⟨?_, rfl⟩⟩
          generalize (IntKind.u64.wrap (q - 1)) = Q0 at *
          exact hfin Q0 hfit
  · rw [show lssB q 4294967296 = false from by rw [lssB_eq]; simp; omega]
    obtain ⟨D2, D2q⟩ := div_down N1 D (.inl (by omega))
    have ge := D2.ge
    have wq : IntKind.u64.wrap (q - 1) = q - 1 := by rw [wrap_u64]; omega
    have wr : IntKind.u64.wrap (r + y1) = r + y1 := by rw [wrap_u64]; omega
    ((conv => whnf); repeat ((first | refine And.intro (rfl : (_ : Nat) = _) ?_ | refine And.intro (rfl : (_ : Bool) = true) ?_ | refine And.intro (Nat.le_of_ble_eq_true rfl) ?_ | refine And.intro ⟨Nat.le_of_ble_eq_true rfl, rfl, rfl⟩ ?_); conv => whnf))
    rw [wr]
    by_cases hbr : r + y1 < 4294967296
    · rw [show lssB (r + y1) 4294967296 = true from by rw [lssB_eq]; simp [hbr]]
      ((conv => whnf); repeat ((first | refine And.intro (rfl : (_ : Nat) = _) ?_ | refine And.intro (rfl : (_ : Bool) = true) ?_ | refine And.intro (Nat.le_of_ble_eq_true rfl) ?_ | refine And.intro ⟨Nat.le_of_ble_eq_true rfl, rfl, rfl⟩ ?_); conv => whnf))
      refine ⟨(q - 1).toNat, by omega, _, _, Frz.keep (fr' := [(2, u64 Y), (8, u64 (s : Nat)), (9, u64 y1), (10, u64 y0), (11, u64 U), (13, u64 u1), (14, u64 u0), (15, u64 (q - 1)), (16, u64 (r + y1))]) (Fr.sub_cons rfl (Fr.sub_cons rfl (Fr.sub_cons rfl (Fr.sub_cons rfl (Fr.sub_cons rfl (Fr.sub_cons rfl (Fr.sub_cons rfl (Fr.sub_cons (congrArg (fun z => some (AV.int .u64 z)) wq) (Fr.sub_cons rfl (Fr.sub_nil _)))))))))), _, _, D2, hbr, rfl, rfl, rfl⟩
    · rw [show lssB (r + y1) 4294967296 = false from by rw [lssB_eq]; simp; omega]
      ((conv => whnf); repeat ((first | refine And.intro (rfl : (_ : Nat) = _) ?_ | refine And.intro (rfl : (_ : Bool) = true) ?_ | refine And.intro (Nat.le_of_ble_eq_true rfl) ?_ | refine And.intro ⟨Nat.le_of_ble_eq_true rfl, rfl, rfl⟩ ?_); conv => whnf))
      have hfit := div_brk N1 D2 D2q (by omega)
      rw [← wq] at hfit
      generalize hQe : (IntKind.u64.wrap (q - 1)) = Q1 at *
      have hR : (U * 4294967296 + u1) % Y = U * 4294967296 + u1 - Q1 * Y := by rw [hfit, ← hYs, Int.emod_def, Int.mul_comm Y]
      have R0 := Int.emod_nonneg (U * 4294967296 + u1) (b := Y) (by omega)
      have R1l := Int.emod_lt_of_pos (U * 4294967296 + u1) (b := Y) (by omega)
      have Q1b := hQ
      rw [← hfit] at Q1b
      have wR : IntKind.u64.wrap (IntKind.u64.wrap (IntKind.u64.wrap (U * 4294967296) + u1) - IntKind.u64.wrap (Q1 * Y)) = (U * 4294967296 + u1) % Y := by
        rw [hR, wrap_u64, wrap_u64, wrap_u64, wrap_u64]
        rw [hR] at R0 R1l
        generalize Q1 * Y = z at *
        omega
      rw [wR]
      have hR1e : (U * 4294967296 + u1) % Y = (U * 4294967296 + u1) % Y := rfl
      generalize hR1 : (U * 4294967296 + u1) % Y = R1 at *
      rw [show nzB y1 = true from nzB_pos (by omega)]
      have N2 : DivN R1 y1 y0 u0 := ⟨hy1, hy0, R0, by omega, hu0⟩
      obtain ⟨D1, D1r⟩ := div_first N2
      have t1 : Int.tdiv R1 y1 = R1 / y1 := Int.tdiv_eq_ediv_of_nonneg R0
      have w1 : IntKind.u64.wrap (Int.tdiv R1 y1) = R1 / y1 := by rw [t1, wrap_u64]; have := D1.q0; have := D1.q1; omega
      have w2 : IntKind.u64.wrap (R1 - IntKind.u64.wrap (R1 / y1 * y1)) = R1 - R1 / y1 * y1 := by
        rw [wrap_u64, wrap_u64]
        have := D1.r0
        generalize R1 / y1 * y1 = z at *
        omega
      have hQ2 := div_lt32 N2
      have hfin : ∀ Q0 : Int, Q0 = (R1 * 4294967296 + u0) / (y1 * 4294967296 + y0) → AV.tup [AV.int .u64 (IntKind.u64.wrap (IntKind.u64.wrap (Q1 * 4294967296) + Q0)), AV.int .u64 (shr .u64 (IntKind.u64.wrap (IntKind.u64.wrap (IntKind.u64.wrap (R1 * 4294967296) + u0) - IntKind.u64.wrap (Q0 * Y))) (s : Nat))] = .tup [u64 ((U * 18446744073709551616 + V) / Y), u64 ((U * 18446744073709551616 + V) % Y / 2 ^ s)] := fun Q0 hQ0 => by
        have hQ0b := hQ2
        rw [← hQ0] at hQ0b
        rw [← hYs] at hQ0 hfit
        have htwo := div_two (A := U) (y := Y) (u1 := u1) (u0 := u0) (by omega) hfit hR1.symm hQ0
        have hV : (U * 4294967296 + u1) * 4294967296 + u0 = U * 18446744073709551616 + V := by omega
        rw [hV] at htwo
        have e1 : IntKind.u64.wrap (IntKind.u64.wrap (Q1 * 4294967296) + Q0) = (U * 18446744073709551616 + V) / Y := by rw [← htwo, wrap_u64, wrap_u64]; omega
        have hR0 : (R1 * 4294967296 + u0) % Y = R1 * 4294967296 + u0 - Q0 * Y := by rw [hQ0, Int.emod_def, Int.mul_comm Y]
        have hmm : (U * 18446744073709551616 + V) % Y = (R1 * 4294967296 + u0) % Y := by
          rw [← hV, ← hR1, Int.add_emod ((U * 4294967296 + u1) % Y * 4294967296), mul_mod_l, ← Int.add_emod]
        have P0 := Int.emod_nonneg (R1 * 4294967296 + u0) (b := Y) (by omega)
        have P1 := Int.emod_lt_of_pos (R1 * 4294967296 + u0) (b := Y) (by omega)
        have e2 : IntKind.u64.wrap (IntKind.u64.wrap (IntKind.u64.wrap (R1 * 4294967296) + u0) - IntKind.u64.wrap (Q0 * Y)) = (U * 18446744073709551616 + V) % Y := by
          rw [hmm, hR0, wrap_u64, wrap_u64, wrap_u64, wrap_u64]
          rw [hR0] at P0 P1
          generalize Q0 * Y = z at *
          omega
        rw [e1, e2, shr_nn (k := .u64) s hs64]
      ((conv => whnf); repeat ((first | refine And.intro (rfl : (_ : Nat) = _) ?_ | refine And.intro (rfl : (_ : Bool) = true) ?_ | refine And.intro (Nat.le_of_ble_eq_true rfl) ?_ | refine And.intro ⟨Nat.le_of_ble_eq_true rfl, rfl, rfl⟩ ?_); conv => whnf))
      refine LoopGoal.inv (DivL2 Y y1 y0 U u1 u0 Q1 R1 s) (R1 / y1).toNat (Frz.keep (fr' := [(2, u64 Y), (8, u64 (s : Nat)), (9, u64 y1), (10, u64 y0), (11, u64 U), (13, u64 u1), (14, u64 u0), (15, u64 Q1), (17, u64 R1), (18, u64 (R1 / y1)), (16, u64 (R1 - R1 / y1 * y1))]) (Fr.sub_cons rfl (Fr.sub_cons rfl (Fr.sub_cons rfl (Fr.sub_cons rfl (Fr.sub_cons rfl (Fr.sub_cons rfl (Fr.sub_cons rfl (Fr.sub_cons rfl (Fr.sub_cons rfl (Fr.sub_cons (congrArg (fun z => some (AV.int .u64 z)) w1) (Fr.sub_cons (by show some (AV.int .u64 (IntKind.u64.wrap (R1 - IntKind.u64.wrap (IntKind.u64.wrap (Int.tdiv R1 y1) * y1)))) = _; rw [w1, w2]) (Fr.sub_nil _))))))))))))) ⟨_, _, D1, D1r, rfl, rfl, rfl⟩ ?_
      clear D1 D1r t1 w1 w2
      clear D Dr hn
      rintro n fr st ⟨q, r, D, Dr, hn, rfl, rfl⟩
      conv => whnf
      have q0 := D.q0
      have q1 := D.q1
      have r0 := D.r0
      by_cases hq : q < 4294967296
      · rw [show lssB q 4294967296 = true from by rw [lssB_eq]; simp [hq]]
        ((conv => whnf); repeat ((first | refine And.intro (rfl : (_ : Nat) = _) ?_ | refine And.intro (rfl : (_ : Bool) = true) ?_ | refine And.intro (Nat.le_of_ble_eq_true rfl) ?_ | refine And.intro ⟨Nat.le_of_ble_eq_true rfl, rfl, rfl⟩ ?_); conv => whnf))
        have m1 := mul_half (x := q) (y := y0) ⟨q0, hq⟩ hy0
        have e1 : IntKind.u64.wrap (q * y0) = q * y0 := by rw [wrap_u64]; omega
        have e2 : IntKind.u64.wrap (IntKind.u64.wrap (4294967296 * r) + u0) = 4294967296 * r + u0 := by rw [wrap_u64, wrap_u64]; omega
        rw [e1, e2]
        by_cases ht : 4294967296 * r + u0 < q * y0
        · rw [show lssB (4294967296 * r + u0) (q * y0) = true from by rw [lssB_eq]; simp [ht]]
          obtain ⟨D2, D2q⟩ := div_down N2 D (.inr ht)
          have ge := D2.ge
          have wq : IntKind.u64.wrap (q - 1) = q - 1 := by rw [wrap_u64]; omega
          have wr : IntKind.u64.wrap (r + y1) = r + y1 := by rw [wrap_u64]; omega
          ((conv => whnf); repeat ((first | refine And.intro (rfl : (_ : Nat) = _) ?_ | refine And.intro (rfl : (_ : Bool) = true) ?_ | refine And.intro (Nat.le_of_ble_eq_true rfl) ?_ | refine And.intro ⟨Nat.le_of_ble_eq_true rfl, rfl, rfl⟩ ?_); conv => whnf))
          rw [wr]
          by_cases hbr : r + y1 < 4294967296
          · rw [show lssB (r + y1) 4294967296 = true from by rw [lssB_eq]; simp [hbr]]
            ((conv => whnf); repeat ((first | refine And.intro (rfl : (_ : Nat) = _) ?_ | refine And.intro (rfl : (_ : Bool) = true) ?_ | refine And.intro (Nat.le_of_ble_eq_true rfl) ?_ | refine And.intro ⟨Nat.le_of_ble_eq_true rfl, rfl, rfl⟩ ?_); conv => whnf))
            refine ⟨(q - 1).toNat, by omega, _, _, Frz.keep (fr' := [(2, u64 Y), (8, u64 (s : Nat)), (9, u64 y1), (10, u64 y0), (11, u64 U), (13, u64 u1), (14, u64 u0), (15, u64 Q1), (17, u64 R1), (18, u64 (q - 1)), (16, u64 (r + y1))]) (Fr.sub_cons rfl (Fr.sub_cons rfl (Fr.sub_cons rfl (Fr.sub_cons rfl (Fr.sub_cons rfl (Fr.sub_cons rfl (Fr.sub_cons rfl (Fr.sub_cons rfl (Fr.sub_cons rfl (Fr.sub_cons (congrArg (fun z => some (AV.int .u64 z)) wq) (Fr.sub_cons rfl (Fr.sub_nil _)))))))))))), _, _, D2, hbr, rfl, rfl, rfl⟩
          · rw [show lssB (r + y1) 4294967296 = false from by rw [lssB_eq]; simp; omega]
            ((conv => whnf); repeat ((first | refine And.intro (rfl : (_ : Nat) = _) ?_ | refine And.intro (rfl : (_ : Bool) = true) ?_ | refine And.intro (Nat.le_of_ble_eq_true rfl) ?_ | refine And.intro ⟨Nat.le_of_ble_eq_true rfl, rfl, rfl⟩ ?_); conv => whnf))
            have hfit := div_brk N2 D2 D2q (by omega)
            rw [← wq] at hfit
            refine ifB_mk (nonneg_nat s) ?_
            ((conv => whnf); repeat ((first | refine And.intro (rfl : (_ : Nat) = _) ?_ | refine And.intro (rfl : (_ : Bool) = true) ?_ | refine And.intro (Nat.le_of_ble_eq_true rfl) ?_ | refine And.intro ⟨Nat.le_of_ble_eq_true rfl, rfl, rfl⟩ ?_); conv => whnf))
            refine ⟨.inl rfl, .drop ⟨?_, rfl⟩⟩
            generalize (IntKind.u64.wrap (q - 1)) = Q0 at *
            exact hfin Q0 hfit
        · rw [show lssB (4294967296 * r + u0) (q * y0) = false from by rw [lssB_eq]; simp; omega]
          ((conv => whnf); repeat ((first | refine And.intro (rfl : (_ : Nat) = _) ?_ | refine And.intro (rfl : (_ : Bool) = true) ?_ | refine And.intro (Nat.le_of_ble_eq_true rfl) ?_ | refine And.intro ⟨Nat.le_of_ble_eq_true rfl, rfl, rfl⟩ ?_); conv => whnf))
          have hfit := div_fit N2 D hq (by omega)
          refine ifB_mk (nonneg_nat s) ?_
          ((conv => whnf); repeat ((first | refine And.intro (rfl : (_ : Nat) = _) ?_ | refine And.intro (rfl : (_ : Bool) = true) ?_ | refine And.intro (Nat.le_of_ble_eq_true rfl) ?_ | refine And.intro ⟨Nat.le_of_ble_eq_true rfl, rfl, rfl⟩ ?_); conv => whnf))
          refine ⟨.inl rfl, .drop ⟨?_, rfl⟩⟩
          generalize q = Q0 at *
          exact hfin Q0 hfit
      · rw [show lssB q 4294967296 = false from by rw [lssB_eq]; simp; omega]
        obtain ⟨D2, D2q⟩ := div_down N2 D (.inl (by omega))
        have ge := D2.ge
        have wq : IntKind.u64.wrap (q - 1) = q - 1 := by rw [wrap_u64]; omega
        have wr : IntKind.u64.wrap (r + y1) = r + y1 := by rw [wrap_u64]; omega
        ((conv => whnf); repeat ((first | refine And.intro (rfl : (_ : Nat) = _) ?_ | refine And.intro (rfl : (_ : Bool) = true) ?_ | refine And.intro (Nat.le_of_ble_eq_true rfl) ?_ | refine And.intro ⟨Nat.le_of_ble_eq_true rfl, rfl, rfl⟩ ?_); conv => whnf))
        rw [wr]
        by_cases hbr : r + y1 < 4294967296
        · rw [show lssB (r + y1) 4294967296 = true from by rw [lssB_eq]; simp [hbr]]
          ((conv => whnf); repeat ((first | refine And.intro (rfl : (_ : Nat) = _) ?_ | refine And.intro (rfl : (_ : Bool) = true) ?_ | refine And.intro (Nat.le_of_ble_eq_true rfl) ?_ | refine And.intro ⟨Nat.le_of_ble_eq_true rfl, rfl, rfl⟩ ?_); conv => whnf))
          refine ⟨(q - 1).toNat, by omega, _, _, Frz.keep (fr' := [(2, u64 Y), (8, u64 (s : Nat)), (9, u64 y1), (10, u64 y0), (11, u64 U), (13, u64 u1), (14, u64 u0), (15, u64 Q1), (17, u64 R1), (18, u64 (q - 1)), (16, u64 (r + y1))]) (Fr.sub_cons rfl (Fr.sub_cons rfl (Fr.sub_cons rfl (Fr.sub_cons rfl (Fr.sub_cons rfl (Fr.sub_cons rfl (Fr.sub_cons rfl (Fr.sub_cons rfl (Fr.sub_cons rfl (Fr.sub_cons (congrArg (fun z => some (AV.int .u64 z)) wq) (Fr.sub_cons rfl (Fr.sub_nil _)))))))))))), _, _, D2, hbr, rfl, rfl, rfl⟩
        · rw [show lssB (r + y1) 4294967296 = false from by rw [lssB_eq]; simp; omega]
          ((conv => whnf); repeat ((first | refine And.intro (rfl : (_ : Nat) = _) ?_ | refine And.intro (rfl : (_ : Bool) = true) ?_ | refine And.intro (Nat.le_of_ble_eq_true rfl) ?_ | refine And.intro ⟨Nat.le_of_ble_eq_true rfl, rfl, rfl⟩ ?_); conv => whnf))
          have hfit := div_brk N2 D2 D2q (by omega)
          rw [← wq] at hfit
          refine ifB_mk (nonneg_nat s) ?_
          ((conv => whnf); repeat ((first | refine And.intro (rfl : (_ : Nat) = _) ?_ | refine And.intro (rfl : (_ : Bool) = true) ?_ | refine And.intro (Nat.le_of_ble_eq_true rfl) ?_ | refine And.intro ⟨Nat.le_of_ble_eq_true rfl, rfl, rfl⟩ ?_); conv => whnf))
          refine ⟨.inl rfl, .drop ⟨?_, rfl⟩⟩
          generalize (IntKind.u64.wrap (q - 1)) = Q0 at *
          exact hfin Q0 hfit
theorem div64z_vc {lo y : Int} (hy : W1 y) (hlo : W1 lo) (h0 : 0 < y) : vc P G c69 (Ret [.t 6, .t 7] (.tup [u64 ((0 * 18446744073709551616 + lo) / y), u64 ((0 * 18446744073709551616 + lo) % y)])) (argFr 0 [u64 0, u64 lo, u64 y]) [] := by
  conv => whnf
  rw [show (y == 0) = false from by simp; omega]
  ((conv => whnf); repeat ((first | refine And.intro (rfl : (_ : Nat) = _) ?_ | refine And.intro (rfl : (_ : Bool) = true) ?_ | refine And.intro (Nat.le_of_ble_eq_true rfl) ?_ | refine And.intro ⟨Nat.le_of_ble_eq_true rfl, rfl, rfl⟩ ?_); conv => whnf))
  rw [show lssB 0 y = true from by rw [lssB_eq]; simp [h0]]
  ((conv => whnf); repeat ((first | refine And.intro (rfl : (_ : Nat) = _) ?_ | refine And.intro (rfl : (_ : Bool) = true) ?_ | refine And.intro (Nat.le_of_ble_eq_true rfl) ?_ | refine And.intro ⟨Nat.le_of_ble_eq_true rfl, rfl, rfl⟩ ?_); conv => whnf))
  rw [show nzB y = true from nzB_pos h0]
  ((conv => whnf); repeat ((first | refine And.intro (rfl : (_ : Nat) = _) ?_ | refine And.intro (rfl : (_ : Bool) = true) ?_ | refine And.intro (Nat.le_of_ble_eq_true rfl) ?_ | refine And.intro ⟨Nat.le_of_ble_eq_true rfl, rfl, rfl⟩ ?_); conv => whnf))
  rw [show nzB y = true from nzB_pos h0]
  ((conv => whnf); repeat ((first | refine And.intro (rfl : (_ : Nat) = _) ?_ | refine And.intro (rfl : (_ : Bool) = true) ?_ | refine And.intro (Nat.le_of_ble_eq_true rfl) ?_ | refine And.intro ⟨Nat.le_of_ble_eq_true rfl, rfl, rfl⟩ ?_); conv => whnf))
  refine ⟨.inl rfl, .drop ⟨?_, rfl⟩⟩
  have e1 : IntKind.u64.wrap (Int.tdiv lo y) = (0 * 18446744073709551616 + lo) / y := by
    rw [Int.tdiv_eq_ediv_of_nonneg hlo.1, wrap_u64, Int.zero_mul, Int.zero_add]
    have := Int.ediv_nonneg hlo.1 hy.1
    have := Int.ediv_le_self y hlo.1
    omega
  have e2 : Int.tmod lo y = (0 * 18446744073709551616 + lo) % y := by rw [Int.tmod_eq_emod_of_nonneg hlo.1, Int.zero_mul, Int.zero_add]
  rw [← e1, ← e2]
def Div64Ok (P : Program) (G : Nat → AV) : Prop := ∀ {hi lo y : Int}, W1 y → W1 lo → 0 ≤ hi → hi < y → Ans P G 69 [u64 hi, u64 lo, u64 y] (.tup [u64 ((hi * 18446744073709551616 + lo) / y), u64 ((hi * 18446744073709551616 + lo) % y)])
end Go.Proofs.Yteknjhamekpfjaa
