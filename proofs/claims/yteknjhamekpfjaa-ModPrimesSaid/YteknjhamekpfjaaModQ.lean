/- Walks: long division by digits of 64 bits. -/
import Derived.Test.YteknjhamekpfjaaModP
namespace Go.Proofs.Yteknjhamekpfjaa
open Go.Eng Go.Num
set_option maxHeartbeats 4000000
set_option maxRecDepth 10000
set_option linter.unusedVariables false
set_option linter.unusedSimpArgs false
variable {P : Program} {G : Nat → AV}

theorem i64_add {i j : Nat} (h : i + j < 1000000) : IntKind.i64.wrap ((i : Int) + (j : Int)) = ((i + j : Nat) : Int) := by rw [wr64 (by omega) (by omega)]; omega
theorem i64_pred {i : Nat} (h : i < 1000000) (h1 : 1 ≤ i) : IntKind.i64.wrap ((i : Int) - 1) = ((i - 1 : Nat) : Int) := by rw [wr64 (by omega) (by omega)]; omega
theorem lo_w1 (x : Int) : W1 (x % 18446744073709551616) := by omega

def RemN (ul : List Int) (m : Int) (b4 : Nat) (n : Nat) (fr : Fr) (st : St) : Prop :=
  ∃ N : Nat, N = n ∧ 1 ≤ N ∧ N ≤ 4 ∧ m < 18446744073709551616 ^ N ∧ fr = [(2, .ptr (ws ul)), (3, .ptr (ws (dig 4 m))), (4, .optr 51004 b4 0), (5, .int .i64 (N : Nat))] ∧ st = [.obj 51004 b4 [u64 0, u64 0, u64 0, u64 0]]
def RemB (ul : List Int) (m : Int) (N s b4 b7 b8 : Nat) (n : Nat) (fr : Fr) (st : St) : Prop :=
  ∃ i : Nat, i + n = N ∧ fr = [(2, .ptr (ws ul)), (3, .ptr (ws (dig 4 m))), (4, .optr 51004 b4 0), (5, .int .i64 (N : Nat)), (6, .int .i64 (s : Nat)), (7, .optr 51007 b7 0), (8, .optr 51008 b8 0), (9, .int .i64 (i : Nat))] ∧ st = [.obj 51004 b4 [u64 0, u64 0, u64 0, u64 0], .obj 51007 b7 (ws (dig 5 (m % 18446744073709551616 ^ i * 2 ^ s))), .obj 51008 b8 (ws (dig 10 0))]
def RemA (ul : List Int) (m U : Int) (N s b4 b7 b8 : Nat) (n : Nat) (fr : Fr) (st : St) : Prop :=
  ∃ i : Nat, i + n = 9 ∧ fr = [(2, .ptr (ws ul)), (3, .ptr (ws (dig 4 m))), (4, .optr 51004 b4 0), (5, .int .i64 (N : Nat)), (6, .int .i64 (s : Nat)), (7, .optr 51007 b7 0), (8, .optr 51008 b8 0), (10, .int .i64 (i : Nat))] ∧ st = [.obj 51004 b4 [u64 0, u64 0, u64 0, u64 0], .obj 51007 b7 (ws (dig 5 (m * 2 ^ s))), .obj 51008 b8 (ws (dig 10 (U % 18446744073709551616 ^ i * 2 ^ s)))]
def RemJ (M X : Int) (N s b4 b7 b8 : Nat) (n : Nat) (fr : Fr) (st : St) : Prop :=
  ∃ (k : Nat) (al : List Int), k = n ∧ k + N ≤ 10 ∧ al.length = 10 ∧ Wd al ∧ val (al.take (k + N)) < M * 18446744073709551616 ^ k ∧ val (al.take (k + N)) % M = X % M ∧ (k + N < 10 → al[k + N]? = some 0) ∧ fr = [(4, .optr 51004 b4 0), (5, .int .i64 (N : Nat)), (6, .int .i64 (s : Nat)), (7, .optr 51007 b7 0), (8, .optr 51008 b8 0), (11, .int .i64 ((k : Int) - 1))] ∧ st = [.obj 51004 b4 [u64 0, u64 0, u64 0, u64 0], .obj 51007 b7 (ws (dig 5 M)), .obj 51008 b8 (ws al)]
def RemS (M A q : Int) (tk : List Int) (N s j b4 b7 b8 : Nat) (n : Nat) (fr : Fr) (st : St) : Prop :=
  ∃ (i : Nat) (al : List Int) (brw car : Int), i + n = N ∧ al.length = 10 ∧ Wd al ∧ al.take j = tk ∧ (0 ≤ brw ∧ brw ≤ 1) ∧ W1 car ∧ seg al j (N + 1) = A - q * (M % 18446744073709551616 ^ i) + 18446744073709551616 ^ i * (brw + car) ∧ fr = [(4, .optr 51004 b4 0), (5, .int .i64 (N : Nat)), (6, .int .i64 (s : Nat)), (7, .optr 51007 b7 0), (8, .optr 51008 b8 0), (11, .int .i64 (j : Nat)), (12, u64 q), (13, u64 brw), (14, u64 car), (15, .int .i64 (i : Nat))] ∧ st = [.obj 51004 b4 [u64 0, u64 0, u64 0, u64 0], .obj 51007 b7 (ws (dig 5 M)), .obj 51008 b8 (ws al)]
def RemK (M A : Int) (tk : List Int) (N s j b4 b7 b8 : Nat) (n : Nat) (fr : Fr) (st : St) : Prop :=
  ∃ (al : List Int) (brw D : Int), n = (M - D).toNat ∧ al.length = 10 ∧ Wd al ∧ al.take j = tk ∧ (brw = 0 ∨ brw = 1) ∧ seg al j (N + 1) = D + 18446744073709551616 ^ (N + 1) * brw ∧ D < M ∧ D % M = A % M ∧ fr = [(4, .optr 51004 b4 0), (5, .int .i64 (N : Nat)), (6, .int .i64 (s : Nat)), (7, .optr 51007 b7 0), (8, .optr 51008 b8 0), (11, .int .i64 (j : Nat)), (13, u64 brw)] ∧ st = [.obj 51004 b4 [u64 0, u64 0, u64 0, u64 0], .obj 51007 b7 (ws (dig 5 M)), .obj 51008 b8 (ws al)]
def RemC (M A1 : Int) (tk : List Int) (N s j b4 b7 b8 : Nat) (n : Nat) (fr : Fr) (st : St) : Prop :=
  ∃ (i : Nat) (al : List Int) (c : Int), i + n = N ∧ al.length = 10 ∧ Wd al ∧ al.take j = tk ∧ (0 ≤ c ∧ c ≤ 1) ∧ seg al j (N + 1) = A1 + M % 18446744073709551616 ^ i - 18446744073709551616 ^ i * c ∧ fr = [(4, .optr 51004 b4 0), (5, .int .i64 (N : Nat)), (6, .int .i64 (s : Nat)), (7, .optr 51007 b7 0), (8, .optr 51008 b8 0), (11, .int .i64 (j : Nat)), (13, u64 1), (20, u64 c), (21, .int .i64 (i : Nat))] ∧ st = [.obj 51004 b4 [u64 0, u64 0, u64 0, u64 0], .obj 51007 b7 (ws (dig 5 M)), .obj 51008 b8 (ws al)]
def RemO (M r : Int) (al : List Int) (N s b4 b7 b8 b22 : Nat) (n : Nat) (fr : Fr) (st : St) : Prop :=
  ∃ i : Nat, i + n = N ∧ fr = [(4, .optr 51004 b4 0), (5, .int .i64 (N : Nat)), (6, .int .i64 (s : Nat)), (7, .optr 51007 b7 0), (8, .optr 51008 b8 0), (22, .optr 51022 b22 0), (23, .int .i64 (i : Nat))] ∧ st = [.obj 51004 b4 [u64 0, u64 0, u64 0, u64 0], .obj 51007 b7 (ws (dig 5 M)), .obj 51008 b8 (ws al), .obj 51022 b22 (ws (dig 4 (r % 18446744073709551616 ^ i)))]

theorem rem_vc {ul : List Int} {m : Int} (hZ : LzOk P G) (hM64 : Mul64Ok P G) (hD : Div64Ok P G) (hul : ul.length = 9) (hwl : Wd ul) (hm : N4 m) (hm0 : 0 < m) :
    vc P G c51 (Ret [.cell 4 4 true] (num (val ul % m))) (argFr 0 [.agg (ws ul), num m]) [] := by
  have hU := val_lt hwl
  rw [hul] at hU
  conv => whnf
  intro b4
  conv => whnf
  refine LoopGoal.inv (RemN ul m b4) 4 (Frz.keep (fr' := [(2, .ptr (ws ul)), (3, .ptr (ws (dig 4 m))), (4, .optr 51004 b4 0), (5, .int .i64 (4 : Nat))]) (Fr.sub_cons rfl (Fr.sub_cons rfl (Fr.sub_cons rfl (Fr.sub_cons rfl (Fr.sub_nil _)))))) ⟨4, rfl, by omega, by omega, hm.2, rfl, rfl⟩ ?_
  rintro n fr st ⟨N, rfl, h1, h4, hmN, rfl, rfl⟩
  have hN1 := i64_pred (i := N) (by omega) h1
  have hg := dig_get 4 m (N - 1) (by omega)
  conv => whnf
  rw [show lssB 0 (N : Int) = true from by rw [lssB_eq]; simp; omega]
  ((conv => whnf); repeat ((first | refine And.intro (rfl : (_ : Nat) = _) ?_ | refine And.intro (rfl : (_ : Bool) = true) ?_ | refine And.intro (Nat.le_of_ble_eq_true rfl) ?_ | refine And.intro ⟨Nat.le_of_ble_eq_true rfl, rfl, rfl⟩ ?_); conv => whnf))
  try rw [hN1]
  refine ifB_mk (inB_nat (by omega)) ?_
  ((conv => whnf); repeat ((first | refine And.intro (rfl : (_ : Nat) = _) ?_ | refine And.intro (rfl : (_ : Bool) = true) ?_ | refine And.intro (Nat.le_of_ble_eq_true rfl) ?_ | refine And.intro ⟨Nat.le_of_ble_eq_true rfl, rfl, rfl⟩ ?_); conv => whnf))
  refine ifB_mk (pble_ws (by rw [dig_len]; omega)) ?_
  rw [pload_ws hg]
  ((conv => whnf); repeat ((first | refine And.intro (rfl : (_ : Nat) = _) ?_ | refine And.intro (rfl : (_ : Bool) = true) ?_ | refine And.intro (Nat.le_of_ble_eq_true rfl) ?_ | refine And.intro ⟨Nat.le_of_ble_eq_true rfl, rfl, rfl⟩ ?_); conv => whnf))
  have hBp : (18446744073709551616 : Int) ^ N = 18446744073709551616 ^ (N - 1) * 18446744073709551616 := by rw [← Int.pow_succ, show (N - 1).succ = N from by omega]
  have hB1 := B_pow (N - 1)
  have ht0 : 0 ≤ m / 18446744073709551616 ^ (N - 1) := Int.ediv_nonneg hm.1 (by omega)
  have ht1 : m / 18446744073709551616 ^ (N - 1) < 18446744073709551616 := Int.ediv_lt_of_lt_mul hB1 (by rw [Int.mul_comm, ← hBp]; exact hmN)
  have htm : m / 18446744073709551616 ^ (N - 1) % 18446744073709551616 = m / 18446744073709551616 ^ (N - 1) := Int.emod_eq_of_lt ht0 ht1
  rw [htm] at hg ⊢
  have hdm := Int.mul_ediv_add_emod m (18446744073709551616 ^ (N - 1))
  have hdm1 := Int.emod_lt_of_pos m hB1
  by_cases hz : m / 18446744073709551616 ^ (N - 1) = 0
  · rw [show (m / 18446744073709551616 ^ (N - 1) == 0) = true from by simp [hz]]
    rw [hz, Int.mul_zero, Int.zero_add] at hdm
    have hN2 : 2 ≤ N := by
      have hlt' : m < 18446744073709551616 ^ (N - 1) := by omega
      rcases Nat.lt_or_ge N 2 with q | q
      · have : N - 1 = 0 := by omega
        rw [this, Int.pow_zero] at hlt'
        omega
      · exact q
    ((conv => whnf); repeat ((first | refine And.intro (rfl : (_ : Nat) = _) ?_ | refine And.intro (rfl : (_ : Bool) = true) ?_ | refine And.intro (Nat.le_of_ble_eq_true rfl) ?_ | refine And.intro ⟨Nat.le_of_ble_eq_true rfl, rfl, rfl⟩ ?_); conv => whnf))
    refine ⟨N - 1, by omega, _, _, Frz.keep (fr' := [(2, .ptr (ws ul)), (3, .ptr (ws (dig 4 m))), (4, .optr 51004 b4 0), (5, .int .i64 (N - 1 : Nat))]) (Fr.sub_cons rfl (Fr.sub_cons rfl (Fr.sub_cons rfl (Fr.sub_cons (congrArg (fun z => some (AV.int .i64 z)) hN1) (Fr.sub_nil _))))), N - 1, rfl, by omega, by omega, by omega, rfl, rfl⟩
  rw [show (m / 18446744073709551616 ^ (N - 1) == 0) = false from by simp [hz]]
  ((conv => whnf); repeat ((first | refine And.intro (rfl : (_ : Nat) = _) ?_ | refine And.intro (rfl : (_ : Bool) = true) ?_ | refine And.intro (Nat.le_of_ble_eq_true rfl) ?_ | refine And.intro ⟨Nat.le_of_ble_eq_true rfl, rfl, rfl⟩ ?_); conv => whnf))
  rw [show ((N : Int) == 0) = false from by simp; omega]
  ((conv => whnf); repeat ((first | refine And.intro (rfl : (_ : Nat) = _) ?_ | refine And.intro (rfl : (_ : Bool) = true) ?_ | refine And.intro (Nat.le_of_ble_eq_true rfl) ?_ | refine And.intro ⟨Nat.le_of_ble_eq_true rfl, rfl, rfl⟩ ?_); conv => whnf))
  try rw [hN1]
  refine ifB_mk (inB_nat (by omega)) ?_
  ((conv => whnf); repeat ((first | refine And.intro (rfl : (_ : Nat) = _) ?_ | refine And.intro (rfl : (_ : Bool) = true) ?_ | refine And.intro (Nat.le_of_ble_eq_true rfl) ?_ | refine And.intro ⟨Nat.le_of_ble_eq_true rfl, rfl, rfl⟩ ?_); conv => whnf))
  refine ifB_mk (pble_ws (by rw [dig_len]; omega)) ?_
  rw [pload_ws hg]
  ((conv => whnf); repeat ((first | refine And.intro (rfl : (_ : Nat) = _) ?_ | refine And.intro (rfl : (_ : Bool) = true) ?_ | refine And.intro (Nat.le_of_ble_eq_true rfl) ?_ | refine And.intro ⟨Nat.le_of_ble_eq_true rfl, rfl, rfl⟩ ?_); conv => whnf))
  clear hdm hdm1 htm
  obtain ⟨t, ht⟩ : ∃ t, t = m / 18446744073709551616 ^ (N - 1) := ⟨_, rfl⟩
  rw [← ht] at ht0 ht1 hz hg ⊢
  have hb := bl_le (x := t) (by omega) ht1
  obtain ⟨s, hs⟩ : ∃ s : Nat, (s : Int) = 64 - bl t := ⟨64 - bl t, by omega⟩
  have hlz := hZ (x := t) ⟨ht0, ht1⟩ (by omega)
  rw [← hs] at hlz
  first | refine CallGoal.pure (hlz) ?_ | refine PCallGoal.pure (hlz) ?_
  ((conv => whnf); repeat ((first | refine And.intro (rfl : (_ : Nat) = _) ?_ | refine And.intro (rfl : (_ : Bool) = true) ?_ | refine And.intro (Nat.le_of_ble_eq_true rfl) ?_ | refine And.intro ⟨Nat.le_of_ble_eq_true rfl, rfl, rfl⟩ ?_); conv => whnf))
  obtain ⟨hs63, hM0, hMN, hMt, hMt2⟩ := norm_facts h1 hm0 hmN ht (by omega) hs
  have e64 : IntKind.i64.wrap (64 - (s : Int)) = ((64 - s : Nat) : Int) := by rw [wr64 (by omega) (by omega)]; omega
  have eshl : ∀ x : Int, shl .u64 x (s : Int) = x * 2 ^ s % 18446744073709551616 := fun x => shl_nn s (by omega)
  have eshr : ∀ x : Int, shr .u64 x ((64 - s : Nat) : Int) = x / 2 ^ (64 - s) := fun x => shr_nn (k := .u64) (64 - s) (by show 64 - s ≤ 64; omega)
  have eshr2 : ∀ x : Int, shr .u64 x (s : Int) = x / 2 ^ s := fun x => shr_nn (k := .u64) s (by show s ≤ 64; omega)
  have eshl2 : ∀ x : Int, shl .u64 x ((64 - s : Nat) : Int) = x * 2 ^ (64 - s) % 18446744073709551616 := fun x => shl_nn (64 - s) (by omega)
  intro b7
  ((conv => whnf); repeat ((first | refine And.intro (rfl : (_ : Nat) = _) ?_ | refine And.intro (rfl : (_ : Bool) = true) ?_ | refine And.intro (Nat.le_of_ble_eq_true rfl) ?_ | refine And.intro ⟨Nat.le_of_ble_eq_true rfl, rfl, rfl⟩ ?_); conv => whnf))
  intro b8
  ((conv => whnf); repeat ((first | refine And.intro (rfl : (_ : Nat) = _) ?_ | refine And.intro (rfl : (_ : Bool) = true) ?_ | refine And.intro (Nat.le_of_ble_eq_true rfl) ?_ | refine And.intro ⟨Nat.le_of_ble_eq_true rfl, rfl, rfl⟩ ?_); conv => whnf))
  refine LoopGoal.inv (RemB ul m N s b4 b7 b8) N (Frz.keep (fr' := [(2, .ptr (ws ul)), (3, .ptr (ws (dig 4 m))), (4, .optr 51004 b4 0), (5, .int .i64 (N : Nat)), (6, .int .i64 (s : Nat)), (7, .optr 51007 b7 0), (8, .optr 51008 b8 0), (9, .int .i64 (0 : Nat))]) (Fr.sub_cons rfl (Fr.sub_cons rfl (Fr.sub_cons rfl (Fr.sub_cons rfl (Fr.sub_cons rfl (Fr.sub_cons rfl (Fr.sub_cons rfl (Fr.sub_cons rfl (Fr.sub_nil _)))))))))) ⟨0, by omega, rfl, ?_⟩ ?_
  · rw [Int.pow_zero, Int.emod_one, Int.zero_mul]; rfl
  rintro n2 fr st ⟨i, hi, rfl, rfl⟩
  conv => whnf
  rw [lss_nat (n := (N : Int)) N rfl]
  by_cases hiN : i < N
  · rw [decide_eq_true hiN]
    obtain ⟨g0, g1, wx, wy, hset⟩ := shift_step (k := 5) (s := s) (i := i) (m := m) hs63 (by omega) hm.1
    have hd := dig_get 4 m i (by omega)
    generalize m / 18446744073709551616 ^ i % 18446744073709551616 = d at *
    ((conv => whnf); repeat ((first | refine And.intro (rfl : (_ : Nat) = _) ?_ | refine And.intro (rfl : (_ : Bool) = true) ?_ | refine And.intro (Nat.le_of_ble_eq_true rfl) ?_ | refine And.intro ⟨Nat.le_of_ble_eq_true rfl, rfl, rfl⟩ ?_); conv => whnf))
    refine ifB_mk (inB_nat (by omega)) ?_
    ((conv => whnf); repeat ((first | refine And.intro (rfl : (_ : Nat) = _) ?_ | refine And.intro (rfl : (_ : Bool) = true) ?_ | refine And.intro (Nat.le_of_ble_eq_true rfl) ?_ | refine And.intro ⟨Nat.le_of_ble_eq_true rfl, rfl, rfl⟩ ?_); conv => whnf))
    refine ifB_mk (ble_ws (by rw [dig_len]; omega)) ?_
    rw [load_ws g0]
    ((conv => whnf); repeat ((first | refine And.intro (rfl : (_ : Nat) = _) ?_ | refine And.intro (rfl : (_ : Bool) = true) ?_ | refine And.intro (Nat.le_of_ble_eq_true rfl) ?_ | refine And.intro ⟨Nat.le_of_ble_eq_true rfl, rfl, rfl⟩ ?_); conv => whnf))
    refine ifB_mk (inB_nat (by omega)) ?_
    ((conv => whnf); repeat ((first | refine And.intro (rfl : (_ : Nat) = _) ?_ | refine And.intro (rfl : (_ : Bool) = true) ?_ | refine And.intro (Nat.le_of_ble_eq_true rfl) ?_ | refine And.intro ⟨Nat.le_of_ble_eq_true rfl, rfl, rfl⟩ ?_); conv => whnf))
    refine ifB_mk (pble_ws (by rw [dig_len]; omega)) ?_
    rw [pload_ws hd]
    ((conv => whnf); repeat ((first | refine And.intro (rfl : (_ : Nat) = _) ?_ | refine And.intro (rfl : (_ : Bool) = true) ?_ | refine And.intro (Nat.le_of_ble_eq_true rfl) ?_ | refine And.intro ⟨Nat.le_of_ble_eq_true rfl, rfl, rfl⟩ ?_); conv => whnf))
    refine ifB_mk (inB_nat (by omega)) ?_
    ((conv => whnf); repeat ((first | refine And.intro (rfl : (_ : Nat) = _) ?_ | refine And.intro (rfl : (_ : Bool) = true) ?_ | refine And.intro (Nat.le_of_ble_eq_true rfl) ?_ | refine And.intro ⟨Nat.le_of_ble_eq_true rfl, rfl, rfl⟩ ?_); conv => whnf))
    rw [eshl, wrap_u64, Int.emod_eq_of_lt wx.1 wx.2]
    refine ifB_mk (ble_ws' (by rw [dig_len]; omega)) ?_
    rw [store_ws (by rw [dig_len]; omega)]
    ((conv => whnf); repeat ((first | refine And.intro (rfl : (_ : Nat) = _) ?_ | refine And.intro (rfl : (_ : Bool) = true) ?_ | refine And.intro (Nat.le_of_ble_eq_true rfl) ?_ | refine And.intro ⟨Nat.le_of_ble_eq_true rfl, rfl, rfl⟩ ?_); conv => whnf))
    refine ifB_mk (inB_nat (by omega)) ?_
    ((conv => whnf); repeat ((first | refine And.intro (rfl : (_ : Nat) = _) ?_ | refine And.intro (rfl : (_ : Bool) = true) ?_ | refine And.intro (Nat.le_of_ble_eq_true rfl) ?_ | refine And.intro ⟨Nat.le_of_ble_eq_true rfl, rfl, rfl⟩ ?_); conv => whnf))
    refine ifB_mk (pble_ws (by rw [dig_len]; omega)) ?_
    rw [pload_ws hd]
    ((conv => whnf); repeat ((first | refine And.intro (rfl : (_ : Nat) = _) ?_ | refine And.intro (rfl : (_ : Bool) = true) ?_ | refine And.intro (Nat.le_of_ble_eq_true rfl) ?_ | refine And.intro ⟨Nat.le_of_ble_eq_true rfl, rfl, rfl⟩ ?_); conv => whnf))
    refine ifB_mk (by rw [e64]; exact nonneg_nat _) ?_
    rw [e64, eshr]
    ((conv => whnf); repeat ((first | refine And.intro (rfl : (_ : Nat) = _) ?_ | refine And.intro (rfl : (_ : Bool) = true) ?_ | refine And.intro (Nat.le_of_ble_eq_true rfl) ?_ | refine And.intro ⟨Nat.le_of_ble_eq_true rfl, rfl, rfl⟩ ?_); conv => whnf))
    rw [i64_succ (by omega)]
    refine ifB_mk (inB_nat (by omega)) ?_
    ((conv => whnf); repeat ((first | refine And.intro (rfl : (_ : Nat) = _) ?_ | refine And.intro (rfl : (_ : Bool) = true) ?_ | refine And.intro (Nat.le_of_ble_eq_true rfl) ?_ | refine And.intro ⟨Nat.le_of_ble_eq_true rfl, rfl, rfl⟩ ?_); conv => whnf))
    refine ifB_mk (ble_ws' (by rw [List.length_set, dig_len]; omega)) ?_
    rw [store_ws (by rw [List.length_set, dig_len]; omega), hset]
    ((conv => whnf); repeat ((first | refine And.intro (rfl : (_ : Nat) = _) ?_ | refine And.intro (rfl : (_ : Bool) = true) ?_ | refine And.intro (Nat.le_of_ble_eq_true rfl) ?_ | refine And.intro ⟨Nat.le_of_ble_eq_true rfl, rfl, rfl⟩ ?_); conv => whnf))
    refine ⟨n2 - 1, by omega, _, _, Frz.keep (fr' := [(2, .ptr (ws ul)), (3, .ptr (ws (dig 4 m))), (4, .optr 51004 b4 0), (5, .int .i64 (N : Nat)), (6, .int .i64 (s : Nat)), (7, .optr 51007 b7 0), (8, .optr 51008 b8 0), (9, .int .i64 (i + 1 : Nat))]) (Fr.sub_cons rfl (Fr.sub_cons rfl (Fr.sub_cons rfl (Fr.sub_cons rfl (Fr.sub_cons rfl (Fr.sub_cons rfl (Fr.sub_cons rfl (Fr.sub_cons (congrArg (fun z => some (AV.int .i64 z)) (i64_succ (by omega))) (Fr.sub_nil _))))))))), i + 1, by omega, rfl, rfl⟩
  rw [decide_eq_false hiN]
  obtain rfl : N = i := by omega
  rw [Int.emod_eq_of_lt hm.1 hmN]
  ((conv => whnf); repeat ((first | refine And.intro (rfl : (_ : Nat) = _) ?_ | refine And.intro (rfl : (_ : Bool) = true) ?_ | refine And.intro (Nat.le_of_ble_eq_true rfl) ?_ | refine And.intro ⟨Nat.le_of_ble_eq_true rfl, rfl, rfl⟩ ?_); conv => whnf))
  clear hi hiN
  refine LoopGoal.inv (RemA ul m (val ul) N s b4 b7 b8) 9 (Frz.keep (fr' := [(2, .ptr (ws ul)), (3, .ptr (ws (dig 4 m))), (4, .optr 51004 b4 0), (5, .int .i64 (N : Nat)), (6, .int .i64 (s : Nat)), (7, .optr 51007 b7 0), (8, .optr 51008 b8 0), (10, .int .i64 (0 : Nat))]) (Fr.sub_cons rfl (Fr.sub_cons rfl (Fr.sub_cons rfl (Fr.sub_cons rfl (Fr.sub_cons rfl (Fr.sub_cons rfl (Fr.sub_cons rfl (Fr.sub_cons rfl (Fr.sub_nil _)))))))))) ⟨0, by omega, rfl, ?_⟩ ?_
  · rw [Int.pow_zero, Int.emod_one, Int.zero_mul]
  rintro n3 fr st ⟨i, hi, rfl, rfl⟩
  conv => whnf
  rw [lss_nat (n := 9) 9 rfl]
  by_cases hiN : i < 9
  · rw [decide_eq_true hiN]
    obtain ⟨g0, g1, wx, wy, hset⟩ := shift_step (k := 10) (s := s) (i := i) (m := val ul) hs63 (by omega) hU.1
    have hd := get_val hwl (i := i) (by omega)
    generalize val ul / 18446744073709551616 ^ i % 18446744073709551616 = d at *
    ((conv => whnf); repeat ((first | refine And.intro (rfl : (_ : Nat) = _) ?_ | refine And.intro (rfl : (_ : Bool) = true) ?_ | refine And.intro (Nat.le_of_ble_eq_true rfl) ?_ | refine And.intro ⟨Nat.le_of_ble_eq_true rfl, rfl, rfl⟩ ?_); conv => whnf))
    refine ifB_mk (inB_nat (by omega)) ?_
    ((conv => whnf); repeat ((first | refine And.intro (rfl : (_ : Nat) = _) ?_ | refine And.intro (rfl : (_ : Bool) = true) ?_ | refine And.intro (Nat.le_of_ble_eq_true rfl) ?_ | refine And.intro ⟨Nat.le_of_ble_eq_true rfl, rfl, rfl⟩ ?_); conv => whnf))
    refine ifB_mk (ble_ws (by rw [dig_len]; omega)) ?_
    rw [load_ws g0]
    ((conv => whnf); repeat ((first | refine And.intro (rfl : (_ : Nat) = _) ?_ | refine And.intro (rfl : (_ : Bool) = true) ?_ | refine And.intro (Nat.le_of_ble_eq_true rfl) ?_ | refine And.intro ⟨Nat.le_of_ble_eq_true rfl, rfl, rfl⟩ ?_); conv => whnf))
    refine ifB_mk (inB_nat (by omega)) ?_
    ((conv => whnf); repeat ((first | refine And.intro (rfl : (_ : Nat) = _) ?_ | refine And.intro (rfl : (_ : Bool) = true) ?_ | refine And.intro (Nat.le_of_ble_eq_true rfl) ?_ | refine And.intro ⟨Nat.le_of_ble_eq_true rfl, rfl, rfl⟩ ?_); conv => whnf))
    refine ifB_mk (pble_ws (by omega)) ?_
    rw [pload_ws hd]
    ((conv => whnf); repeat ((first | refine And.intro (rfl : (_ : Nat) = _) ?_ | refine And.intro (rfl : (_ : Bool) = true) ?_ | refine And.intro (Nat.le_of_ble_eq_true rfl) ?_ | refine And.intro ⟨Nat.le_of_ble_eq_true rfl, rfl, rfl⟩ ?_); conv => whnf))
    refine ifB_mk (inB_nat (by omega)) ?_
    ((conv => whnf); repeat ((first | refine And.intro (rfl : (_ : Nat) = _) ?_ | refine And.intro (rfl : (_ : Bool) = true) ?_ | refine And.intro (Nat.le_of_ble_eq_true rfl) ?_ | refine And.intro ⟨Nat.le_of_ble_eq_true rfl, rfl, rfl⟩ ?_); conv => whnf))
    rw [eshl, wrap_u64, Int.emod_eq_of_lt wx.1 wx.2]
    refine ifB_mk (ble_ws' (by rw [dig_len]; omega)) ?_
    rw [store_ws (by rw [dig_len]; omega)]
    ((conv => whnf); repeat ((first | refine And.intro (rfl : (_ : Nat) = _) ?_ | refine And.intro (rfl : (_ : Bool) = true) ?_ | refine And.intro (Nat.le_of_ble_eq_true rfl) ?_ | refine And.intro ⟨Nat.le_of_ble_eq_true rfl, rfl, rfl⟩ ?_); conv => whnf))
    refine ifB_mk (inB_nat (by omega)) ?_
    ((conv => whnf); repeat ((first | refine And.intro (rfl : (_ : Nat) = _) ?_ | refine And.intro (rfl : (_ : Bool) = true) ?_ | refine And.intro (Nat.le_of_ble_eq_true rfl) ?_ | refine And.intro ⟨Nat.le_of_ble_eq_true rfl, rfl, rfl⟩ ?_); conv => whnf))
    refine ifB_mk (pble_ws (by omega)) ?_
    rw [pload_ws hd]
    ((conv => whnf); repeat ((first | refine And.intro (rfl : (_ : Nat) = _) ?_ | refine And.intro (rfl : (_ : Bool) = true) ?_ | refine And.intro (Nat.le_of_ble_eq_true rfl) ?_ | refine And.intro ⟨Nat.le_of_ble_eq_true rfl, rfl, rfl⟩ ?_); conv => whnf))
    refine ifB_mk (by rw [e64]; exact nonneg_nat _) ?_
    rw [e64, eshr]
    ((conv => whnf); repeat ((first | refine And.intro (rfl : (_ : Nat) = _) ?_ | refine And.intro (rfl : (_ : Bool) = true) ?_ | refine And.intro (Nat.le_of_ble_eq_true rfl) ?_ | refine And.intro ⟨Nat.le_of_ble_eq_true rfl, rfl, rfl⟩ ?_); conv => whnf))
    rw [i64_succ (by omega)]
    refine ifB_mk (inB_nat (by omega)) ?_
    ((conv => whnf); repeat ((first | refine And.intro (rfl : (_ : Nat) = _) ?_ | refine And.intro (rfl : (_ : Bool) = true) ?_ | refine And.intro (Nat.le_of_ble_eq_true rfl) ?_ | refine And.intro ⟨Nat.le_of_ble_eq_true rfl, rfl, rfl⟩ ?_); conv => whnf))
    refine ifB_mk (ble_ws' (by rw [List.length_set, dig_len]; omega)) ?_
    rw [store_ws (by rw [List.length_set, dig_len]; omega), hset]
    ((conv => whnf); repeat ((first | refine And.intro (rfl : (_ : Nat) = _) ?_ | refine And.intro (rfl : (_ : Bool) = true) ?_ | refine And.intro (Nat.le_of_ble_eq_true rfl) ?_ | refine And.intro ⟨Nat.le_of_ble_eq_true rfl, rfl, rfl⟩ ?_); conv => whnf))
    refine ⟨n3 - 1, by omega, _, _, Frz.keep (fr' := [(2, .ptr (ws ul)), (3, .ptr (ws (dig 4 m))), (4, .optr 51004 b4 0), (5, .int .i64 (N : Nat)), (6, .int .i64 (s : Nat)), (7, .optr 51007 b7 0), (8, .optr 51008 b8 0), (10, .int .i64 (i + 1 : Nat))]) (Fr.sub_cons rfl (Fr.sub_cons rfl (Fr.sub_cons rfl (Fr.sub_cons rfl (Fr.sub_cons rfl (Fr.sub_cons rfl (Fr.sub_cons rfl (Fr.sub_cons (congrArg (fun z => some (AV.int .i64 z)) (i64_succ (by omega))) (Fr.sub_nil _))))))))), i + 1, by omega, rfl, rfl⟩
  rw [decide_eq_false hiN]
  obtain rfl : i = 9 := by omega
  rw [Int.emod_eq_of_lt hU.1 hU.2]
  clear hi hiN
  have hXe : val ul * 2 ^ s % (m * 2 ^ s) = val ul % m * 2 ^ s := by rw [Int.mul_comm (val ul), Int.mul_comm m, Int.mul_emod_mul_of_pos _ _ (pos2 s), Int.mul_comm]
  have hX0 : 0 ≤ val ul * 2 ^ s := Int.mul_nonneg hU.1 (Int.le_of_lt (pos2 s))
  have hXl : val ul * 2 ^ s < 18446744073709551616 ^ 9 * 2 ^ s := Int.mul_lt_mul_of_pos_right hU.2 (pos2 s)
  have hr0 := Int.emod_nonneg (val ul) (b := m) (by omega)
  have hrm := Int.emod_lt_of_pos (val ul) hm0
  generalize hXd : val ul * 2 ^ s = X at *
  generalize hrd : val ul % m = r at *
  have hrN : r < 18446744073709551616 ^ N := by omega
  generalize hMd : m * 2 ^ s = M at *
  have hbt := dig_get 5 M (N - 1) (by omega)
  rw [Int.emod_eq_of_lt (by omega) hMt2] at hbt
  have hXtop : X < M * 18446744073709551616 ^ (10 - N) := by
    have h5 : (18446744073709551616 : Int) ^ 9 * 2 ^ s ≤ 18446744073709551616 ^ 9 * 9223372036854775808 := Int.mul_le_mul_of_nonneg_left (by
      have := Nat.pow_le_pow_right (n := 2) (by omega) hs63
      have e : ((2 ^ s : Nat) : Int) ≤ ((2 ^ 63 : Nat) : Int) := by exact_mod_cast this
      simpa using e) (Int.le_of_lt (B_pow 9))
    have h6 := (Int.le_ediv_iff_mul_le hB1).1 hMt
    have h7 := Int.mul_le_mul_of_nonneg_right h6 (Int.le_of_lt (B_pow (10 - N)))
    rw [Int.mul_assoc, ← Int.pow_add, show N - 1 + (10 - N) = 9 from by omega, Int.mul_comm] at h7
    omega
  have hX10 : X < 18446744073709551616 ^ 10 := by
    have h6 := Int.mul_lt_mul_of_pos_right hMN (B_pow (10 - N))
    rw [← Int.pow_add, show N + (10 - N) = 10 from by omega] at h6
    omega
  ((conv => whnf); repeat ((first | refine And.intro (rfl : (_ : Nat) = _) ?_ | refine And.intro (rfl : (_ : Bool) = true) ?_ | refine And.intro (Nat.le_of_ble_eq_true rfl) ?_ | refine And.intro ⟨Nat.le_of_ble_eq_true rfl, rfl, rfl⟩ ?_); conv => whnf))
  refine LoopGoal.inv (RemJ M X N s b4 b7 b8) (10 - N) (Frz.keep (fr' := [(4, .optr 51004 b4 0), (5, .int .i64 (N : Nat)), (6, .int .i64 (s : Nat)), (7, .optr 51007 b7 0), (8, .optr 51008 b8 0), (11, .int .i64 (((10 - N : Nat) : Int) - 1))]) (Fr.sub_cons rfl (Fr.sub_cons rfl (Fr.sub_cons rfl (Fr.sub_cons rfl (Fr.sub_cons rfl (Fr.sub_cons (by show some (AV.int .i64 (IntKind.i64.wrap (9 - (N : Int)))) = _; rw [wr64 (by omega) (by omega)]; exact congrArg (fun z => some (AV.int .i64 z)) (by omega)) (Fr.sub_nil _)))))))) ⟨10 - N, dig 10 X, rfl, by omega, dig_len _ _, dig_wd _ _, ?_, ?_, fun h => absurd h (by omega), rfl, rfl⟩ ?_
  · rw [List.take_of_length_le (by rw [dig_len]; omega), val_dig 10 X hX0 hX10]; exact hXtop
  · rw [List.take_of_length_le (by rw [dig_len]; omega), val_dig 10 X hX0 hX10]
  rintro n4 fr st ⟨k, al, rfl, hkN, hal, hwa, hV, hVm, hz0, rfl, rfl⟩
  conv => whnf
  by_cases hk0 : k = 0
  · subst hk0
    rw [show lssB (((0 : Nat) : Int) - 1) 0 = true from by decide]
    ((conv => whnf); repeat ((first | refine And.intro (rfl : (_ : Nat) = _) ?_ | refine And.intro (rfl : (_ : Bool) = true) ?_ | refine And.intro (Nat.le_of_ble_eq_true rfl) ?_ | refine And.intro ⟨Nat.le_of_ble_eq_true rfl, rfl, rfl⟩ ?_); conv => whnf))
    intro b22
    ((conv => whnf); repeat ((first | refine And.intro (rfl : (_ : Nat) = _) ?_ | refine And.intro (rfl : (_ : Bool) = true) ?_ | refine And.intro (Nat.le_of_ble_eq_true rfl) ?_ | refine And.intro ⟨Nat.le_of_ble_eq_true rfl, rfl, rfl⟩ ?_); conv => whnf))
    rw [Nat.zero_add] at hV hVm hz0
    rw [Int.pow_zero, Int.mul_one] at hV
    have hR0 : 0 ≤ val (al.take N) := (val_lt (wd_take hwa N)).1
    have hR : val (al.take N) = r * 2 ^ s := by rw [← hXe, ← hVm, Int.emod_eq_of_lt hR0 hV]
    have hRN : val (al.take N) < 18446744073709551616 ^ N := by omega
    have dg : ∀ i, i ≤ N → al[i]? = some (val (al.take N) / 18446744073709551616 ^ i % 18446744073709551616) := fun i hi => by
      rcases Nat.lt_or_eq_of_le hi with q | q
      · have := get_val (wd_take hwa N) (i := i) (by rw [List.length_take]; omega)
        rwa [List.getElem?_take_of_lt q] at this
      · subst q
        rw [hz0 (by omega), Int.ediv_eq_zero_of_lt hR0 hRN]; rfl
    refine LoopGoal.inv (RemO M r al N s b4 b7 b8 b22) N (Frz.keep (fr' := [(4, .optr 51004 b4 0), (5, .int .i64 (N : Nat)), (6, .int .i64 (s : Nat)), (7, .optr 51007 b7 0), (8, .optr 51008 b8 0), (22, .optr 51022 b22 0), (23, .int .i64 (0 : Nat))]) (Fr.sub_cons rfl (Fr.sub_cons rfl (Fr.sub_cons rfl (Fr.sub_cons rfl (Fr.sub_cons rfl (Fr.sub_cons rfl (Fr.sub_cons rfl (Fr.sub_nil _))))))))) ⟨0, by omega, rfl, ?_⟩ ?_
    · rw [Int.pow_zero, Int.emod_one]; rfl
    rintro n5 fr st ⟨i, hi, rfl, rfl⟩
    conv => whnf
    rw [lss_nat (n := (N : Int)) N rfl]
    by_cases hiN : i < N
    · rw [decide_eq_true hiN]
      obtain ⟨us, us0⟩ := unshift (s := s) (i := i) hs63 hr0 hR
      ((conv => whnf); repeat ((first | refine And.intro (rfl : (_ : Nat) = _) ?_ | refine And.intro (rfl : (_ : Bool) = true) ?_ | refine And.intro (Nat.le_of_ble_eq_true rfl) ?_ | refine And.intro ⟨Nat.le_of_ble_eq_true rfl, rfl, rfl⟩ ?_); conv => whnf))
      refine ifB_mk (inB_nat (by omega)) ?_
      ((conv => whnf); repeat ((first | refine And.intro (rfl : (_ : Nat) = _) ?_ | refine And.intro (rfl : (_ : Bool) = true) ?_ | refine And.intro (Nat.le_of_ble_eq_true rfl) ?_ | refine And.intro ⟨Nat.le_of_ble_eq_true rfl, rfl, rfl⟩ ?_); conv => whnf))
      refine ifB_mk (ble_ws (by omega)) ?_
      rw [load_ws (dg i (by omega))]
      ((conv => whnf); repeat ((first | refine And.intro (rfl : (_ : Nat) = _) ?_ | refine And.intro (rfl : (_ : Bool) = true) ?_ | refine And.intro (Nat.le_of_ble_eq_true rfl) ?_ | refine And.intro ⟨Nat.le_of_ble_eq_true rfl, rfl, rfl⟩ ?_); conv => whnf))
      rw [i64_succ (by omega)]
      refine ifB_mk (inB_nat (by omega)) ?_
      ((conv => whnf); repeat ((first | refine And.intro (rfl : (_ : Nat) = _) ?_ | refine And.intro (rfl : (_ : Bool) = true) ?_ | refine And.intro (Nat.le_of_ble_eq_true rfl) ?_ | refine And.intro ⟨Nat.le_of_ble_eq_true rfl, rfl, rfl⟩ ?_); conv => whnf))
      refine ifB_mk (ble_ws (by omega)) ?_
      rw [load_ws (dg (i + 1) (by omega))]
      ((conv => whnf); repeat ((first | refine And.intro (rfl : (_ : Nat) = _) ?_ | refine And.intro (rfl : (_ : Bool) = true) ?_ | refine And.intro (Nat.le_of_ble_eq_true rfl) ?_ | refine And.intro ⟨Nat.le_of_ble_eq_true rfl, rfl, rfl⟩ ?_); conv => whnf))
      refine ifB_mk (by rw [e64]; exact nonneg_nat _) ?_
      rw [e64, eshl2, eshr2]
      ((conv => whnf); repeat ((first | refine And.intro (rfl : (_ : Nat) = _) ?_ | refine And.intro (rfl : (_ : Bool) = true) ?_ | refine And.intro (Nat.le_of_ble_eq_true rfl) ?_ | refine And.intro ⟨Nat.le_of_ble_eq_true rfl, rfl, rfl⟩ ?_); conv => whnf))
      refine ifB_mk (inB_nat (by omega)) ?_
      ((conv => whnf); repeat ((first | refine And.intro (rfl : (_ : Nat) = _) ?_ | refine And.intro (rfl : (_ : Bool) = true) ?_ | refine And.intro (Nat.le_of_ble_eq_true rfl) ?_ | refine And.intro ⟨Nat.le_of_ble_eq_true rfl, rfl, rfl⟩ ?_); conv => whnf))
      rw [us, wrap_u64, mm_mod]
      refine ifB_mk (ble_ws' (by rw [dig_len]; omega)) ?_
      rw [store_ws (by rw [dig_len]; omega), dig_fill (by omega) hr0]
      ((conv => whnf); repeat ((first | refine And.intro (rfl : (_ : Nat) = _) ?_ | refine And.intro (rfl : (_ : Bool) = true) ?_ | refine And.intro (Nat.le_of_ble_eq_true rfl) ?_ | refine And.intro ⟨Nat.le_of_ble_eq_true rfl, rfl, rfl⟩ ?_); conv => whnf))
      refine ⟨n5 - 1, by omega, _, _, Frz.keep (fr' := [(4, .optr 51004 b4 0), (5, .int .i64 (N : Nat)), (6, .int .i64 (s : Nat)), (7, .optr 51007 b7 0), (8, .optr 51008 b8 0), (22, .optr 51022 b22 0), (23, .int .i64 (i + 1 : Nat))]) (Fr.sub_cons rfl (Fr.sub_cons rfl (Fr.sub_cons rfl (Fr.sub_cons rfl (Fr.sub_cons rfl (Fr.sub_cons rfl (Fr.sub_cons (congrArg (fun z => some (AV.int .i64 z)) (i64_succ (by omega))) (Fr.sub_nil _)))))))), i + 1, by omega, rfl, rfl⟩
    rw [decide_eq_false hiN]
    obtain rfl : N = i := by omega
    rw [Int.emod_eq_of_lt hr0 hrN]
    ((conv => whnf); repeat ((first | refine And.intro (rfl : (_ : Nat) = _) ?_ | refine And.intro (rfl : (_ : Bool) = true) ?_ | refine And.intro (Nat.le_of_ble_eq_true rfl) ?_ | refine And.intro ⟨Nat.le_of_ble_eq_true rfl, rfl, rfl⟩ ?_); conv => whnf))
    refine ⟨.inl rfl, .drop ?_⟩
    ((conv => whnf); repeat ((first | refine And.intro (rfl : (_ : Nat) = _) ?_ | refine And.intro (rfl : (_ : Bool) = true) ?_ | refine And.intro (Nat.le_of_ble_eq_true rfl) ?_ | refine And.intro ⟨Nat.le_of_ble_eq_true rfl, rfl, rfl⟩ ?_); conv => whnf))
    refine ⟨?_, rfl⟩
    rfl
  obtain ⟨j, rfl⟩ : ∃ j, k = j + 1 := ⟨k - 1, by omega⟩
  rw [show ((j + 1 : Nat) : Int) - 1 = (j : Int) from by omega]
  rw [show lssB (j : Int) 0 = false from by rw [lssB_eq]; simp]
  have hjN := i64_add (i := j) (j := N) (by omega)
  have hlj : j + N < al.length := by omega
  have hA0 := seg_bd hwa j (N + 1) (by omega)
  have gT := seg_get hwa (j := j) (n := N + 1) (i := N) (by omega) (by omega)
  have gT1 := seg_get hwa (j := j) (n := N + 1) (i := N - 1) (by omega) (by omega)
  rw [show j + (N - 1) = j + N - 1 from by omega] at gT1
  have hVs : val (al.take (j + 1 + N)) = val (al.take j) + 18446744073709551616 ^ j * seg al j (N + 1) := by rw [show j + 1 + N = j + (N + 1) from by omega, val_take_seg (by omega)]
  have hlow := val_lt (wd_take hwa j)
  rw [List.length_take, Nat.min_eq_left (by omega)] at hlow
  generalize hAe : seg al j (N + 1) = A at *
  have hBj := B_pow j
  have hAM : A < M * 18446744073709551616 := by
    have h6 : M * (18446744073709551616 ^ j * 18446744073709551616) = M * 18446744073709551616 * 18446744073709551616 ^ j := by grind
    have h5 : 18446744073709551616 ^ j * A < M * 18446744073709551616 * 18446744073709551616 ^ j := by
      rw [hVs, Int.pow_succ] at hV
      omega
    rw [Int.mul_comm (18446744073709551616 ^ j)] at h5
    exact Int.lt_of_mul_lt_mul_right h5 (Int.le_of_lt hBj)
  have hguess := guess (A := A) (M := M) (N := N - 1) hM0 hA0.1 (by omega)
  have hdig := digit_lt hM0 hAM
  have hAn : A / 18446744073709551616 ^ (N - 1) = A / 18446744073709551616 ^ N % 18446744073709551616 * 18446744073709551616 + A / 18446744073709551616 ^ (N - 1) % 18446744073709551616 := by
    have e1 : A / 18446744073709551616 ^ N = A / 18446744073709551616 ^ (N - 1) / 18446744073709551616 := by rw [hBp, Int.ediv_ediv_of_nonneg (by omega)]
    have e2 : A / 18446744073709551616 ^ N < 18446744073709551616 := Int.ediv_lt_of_lt_mul (B_pow N) (by rw [Int.pow_succ, Int.mul_comm] at hA0; exact hA0.2)
    have e3 : 0 ≤ A / 18446744073709551616 ^ N := Int.ediv_nonneg hA0.1 (Int.le_of_lt (B_pow N))
    rw [Int.emod_eq_of_lt e3 e2, e1]; omega
  have hwT := lo_w1 (A / 18446744073709551616 ^ N)
  have hwT1 := lo_w1 (A / 18446744073709551616 ^ (N - 1))
  rw [hAn] at hguess
  generalize A / 18446744073709551616 ^ N % 18446744073709551616 = ah at *
  generalize A / 18446744073709551616 ^ (N - 1) % 18446744073709551616 = ahl at *
  generalize hte : M / 18446744073709551616 ^ (N - 1) = tt at *
  have hq0 : 0 ≤ A / M := Int.ediv_nonneg hA0.1 (Int.le_of_lt hM0)
  ((conv => whnf); repeat ((first | refine And.intro (rfl : (_ : Nat) = _) ?_ | refine And.intro (rfl : (_ : Bool) = true) ?_ | refine And.intro (Nat.le_of_ble_eq_true rfl) ?_ | refine And.intro ⟨Nat.le_of_ble_eq_true rfl, rfl, rfl⟩ ?_); conv => whnf))
  try rw [hjN]
  refine ifB_mk (inB_nat (by omega)) ?_
  ((conv => whnf); repeat ((first | refine And.intro (rfl : (_ : Nat) = _) ?_ | refine And.intro (rfl : (_ : Bool) = true) ?_ | refine And.intro (Nat.le_of_ble_eq_true rfl) ?_ | refine And.intro ⟨Nat.le_of_ble_eq_true rfl, rfl, rfl⟩ ?_); conv => whnf))
  refine ifB_mk (ble_ws (by omega)) ?_
  rw [load_ws gT]
  ((conv => whnf); repeat ((first | refine And.intro (rfl : (_ : Nat) = _) ?_ | refine And.intro (rfl : (_ : Bool) = true) ?_ | refine And.intro (Nat.le_of_ble_eq_true rfl) ?_ | refine And.intro ⟨Nat.le_of_ble_eq_true rfl, rfl, rfl⟩ ?_); conv => whnf))
  try rw [hN1]
  refine ifB_mk (inB_nat (by omega)) ?_
  ((conv => whnf); repeat ((first | refine And.intro (rfl : (_ : Nat) = _) ?_ | refine And.intro (rfl : (_ : Bool) = true) ?_ | refine And.intro (Nat.le_of_ble_eq_true rfl) ?_ | refine And.intro ⟨Nat.le_of_ble_eq_true rfl, rfl, rfl⟩ ?_); conv => whnf))
  refine ifB_mk (ble_ws (by rw [dig_len]; omega)) ?_
  rw [load_ws hbt]
  ((conv => whnf); repeat ((first | refine And.intro (rfl : (_ : Nat) = _) ?_ | refine And.intro (rfl : (_ : Bool) = true) ?_ | refine And.intro (Nat.le_of_ble_eq_true rfl) ?_ | refine And.intro ⟨Nat.le_of_ble_eq_true rfl, rfl, rfl⟩ ?_); conv => whnf))
  by_cases hlt : ah < tt
  · rw [show lssB ah tt = true from by rw [lssB_eq]; simp [hlt]]
    have hjN1 : IntKind.i64.wrap (((j + N : Nat) : Int) - 1) = ((j + N - 1 : Nat) : Int) := i64_pred (by omega) (by omega)
    ((conv => whnf); repeat ((first | refine And.intro (rfl : (_ : Nat) = _) ?_ | refine And.intro (rfl : (_ : Bool) = true) ?_ | refine And.intro (Nat.le_of_ble_eq_true rfl) ?_ | refine And.intro ⟨Nat.le_of_ble_eq_true rfl, rfl, rfl⟩ ?_); conv => whnf))
    try rw [hjN]
    refine ifB_mk (inB_nat (by omega)) ?_
    ((conv => whnf); repeat ((first | refine And.intro (rfl : (_ : Nat) = _) ?_ | refine And.intro (rfl : (_ : Bool) = true) ?_ | refine And.intro (Nat.le_of_ble_eq_true rfl) ?_ | refine And.intro ⟨Nat.le_of_ble_eq_true rfl, rfl, rfl⟩ ?_); conv => whnf))
    refine ifB_mk (ble_ws (by omega)) ?_
    rw [load_ws gT]
    ((conv => whnf); repeat ((first | refine And.intro (rfl : (_ : Nat) = _) ?_ | refine And.intro (rfl : (_ : Bool) = true) ?_ | refine And.intro (Nat.le_of_ble_eq_true rfl) ?_ | refine And.intro ⟨Nat.le_of_ble_eq_true rfl, rfl, rfl⟩ ?_); conv => whnf))
    try rw [hjN, hjN1]
    refine ifB_mk (inB_nat (by omega)) ?_
    ((conv => whnf); repeat ((first | refine And.intro (rfl : (_ : Nat) = _) ?_ | refine And.intro (rfl : (_ : Bool) = true) ?_ | refine And.intro (Nat.le_of_ble_eq_true rfl) ?_ | refine And.intro ⟨Nat.le_of_ble_eq_true rfl, rfl, rfl⟩ ?_); conv => whnf))
    refine ifB_mk (ble_ws (by omega)) ?_
    rw [load_ws gT1]
    ((conv => whnf); repeat ((first | refine And.intro (rfl : (_ : Nat) = _) ?_ | refine And.intro (rfl : (_ : Bool) = true) ?_ | refine And.intro (Nat.le_of_ble_eq_true rfl) ?_ | refine And.intro ⟨Nat.le_of_ble_eq_true rfl, rfl, rfl⟩ ?_); conv => whnf))
    try rw [hN1]
    refine ifB_mk (inB_nat (by omega)) ?_
    ((conv => whnf); repeat ((first | refine And.intro (rfl : (_ : Nat) = _) ?_ | refine And.intro (rfl : (_ : Bool) = true) ?_ | refine And.intro (Nat.le_of_ble_eq_true rfl) ?_ | refine And.intro ⟨Nat.le_of_ble_eq_true rfl, rfl, rfl⟩ ?_); conv => whnf))
    refine ifB_mk (ble_ws (by rw [dig_len]; omega)) ?_
    rw [load_ws hbt]
    ((conv => whnf); repeat ((first | refine And.intro (rfl : (_ : Nat) = _) ?_ | refine And.intro (rfl : (_ : Bool) = true) ?_ | refine And.intro (Nat.le_of_ble_eq_true rfl) ?_ | refine And.intro ⟨Nat.le_of_ble_eq_true rfl, rfl, rfl⟩ ?_); conv => whnf))
    first | refine CallGoal.pure (hD (hi := ah) (lo := ahl) (y := tt) ⟨by omega, hMt2⟩ hwT1 hwT.1 hlt) ?_ | refine PCallGoal.pure (hD (hi := ah) (lo := ahl) (y := tt) ⟨by omega, hMt2⟩ hwT1 hwT.1 hlt) ?_
    ((conv => whnf); repeat ((first | refine And.intro (rfl : (_ : Nat) = _) ?_ | refine And.intro (rfl : (_ : Bool) = true) ?_ | refine And.intro (Nat.le_of_ble_eq_true rfl) ?_ | refine And.intro ⟨Nat.le_of_ble_eq_true rfl, rfl, rfl⟩ ?_); conv => whnf))
    have hwq : W1 ((ah * 18446744073709551616 + ahl) / tt) := ⟨by omega, Int.ediv_lt_of_lt_mul (by omega) (by
      have := Int.mul_le_mul_of_nonneg_right (show ah + 1 ≤ tt by omega) (show (0 : Int) ≤ 18446744073709551616 by decide)
      rw [Int.add_mul] at this
      rw [Int.mul_comm]; omega)⟩
    generalize (ah * 18446744073709551616 + ahl) / tt = q at *
    have hqg := hguess
    refine LoopGoal.inv (RemS M A q (al.take j) N s j b4 b7 b8) N (Frz.keep (fr' := [(4, .optr 51004 b4 0), (5, .int .i64 (N : Nat)), (6, .int .i64 (s : Nat)), (7, .optr 51007 b7 0), (8, .optr 51008 b8 0), (11, .int .i64 (j : Nat)), (12, u64 q), (13, u64 0), (14, u64 0), (15, .int .i64 (0 : Nat))]) (Fr.sub_cons rfl (Fr.sub_cons rfl (Fr.sub_cons rfl (Fr.sub_cons rfl (Fr.sub_cons rfl (Fr.sub_cons rfl (Fr.sub_cons rfl (Fr.sub_cons rfl (Fr.sub_cons rfl (Fr.sub_cons rfl (Fr.sub_nil _)))))))))))) ⟨0, al, 0, 0, by omega, hal, hwa, rfl, by omega, by omega, ?_, rfl, rfl⟩ ?_
    · rw [Int.pow_zero, Int.emod_one, hAe]; omega
    rintro n6 fr st ⟨i, al1, brw, car, hi, hal1, hwa1, htk, hbr, hca, hseg, rfl, rfl⟩
    conv => whnf
    rw [lss_nat (n := (N : Int)) N rfl]
    by_cases hiN : i < N
    · rw [decide_eq_true hiN]
      have hji := i64_add (i := j) (j := i) (by omega)
      have gb := dig_get 5 M i (by omega)
      have hms := mod_succ M i
      have hbi := lo_w1 (M / 18446744073709551616 ^ i)
      have gy := seg_get hwa1 (j := j) (n := N + 1) (i := i) (by omega) (by omega)
      have hyw := lo_w1 (seg al1 j (N + 1) / 18446744073709551616 ^ i)
      generalize M / 18446744073709551616 ^ i % 18446744073709551616 = bi at *
      generalize hye : seg al1 j (N + 1) / 18446744073709551616 ^ i % 18446744073709551616 = y at gy hyw
      have hub := mul_ub hwq hbi
      have hlw := lo_w1 (q * bi)
      ((conv => whnf); repeat ((first | refine And.intro (rfl : (_ : Nat) = _) ?_ | refine And.intro (rfl : (_ : Bool) = true) ?_ | refine And.intro (Nat.le_of_ble_eq_true rfl) ?_ | refine And.intro ⟨Nat.le_of_ble_eq_true rfl, rfl, rfl⟩ ?_); conv => whnf))
      refine ifB_mk (inB_nat (by omega)) ?_
      ((conv => whnf); repeat ((first | refine And.intro (rfl : (_ : Nat) = _) ?_ | refine And.intro (rfl : (_ : Bool) = true) ?_ | refine And.intro (Nat.le_of_ble_eq_true rfl) ?_ | refine And.intro ⟨Nat.le_of_ble_eq_true rfl, rfl, rfl⟩ ?_); conv => whnf))
      refine ifB_mk (ble_ws (by rw [dig_len]; omega)) ?_
      rw [load_ws gb]
      ((conv => whnf); repeat ((first | refine And.intro (rfl : (_ : Nat) = _) ?_ | refine And.intro (rfl : (_ : Bool) = true) ?_ | refine And.intro (Nat.le_of_ble_eq_true rfl) ?_ | refine And.intro ⟨Nat.le_of_ble_eq_true rfl, rfl, rfl⟩ ?_); conv => whnf))
      first | refine CallGoal.pure (hM64 hwq hbi) ?_ | refine PCallGoal.pure (hM64 hwq hbi) ?_
      ((conv => whnf); repeat ((first | refine And.intro (rfl : (_ : Nat) = _) ?_ | refine And.intro (rfl : (_ : Bool) = true) ?_ | refine And.intro (Nat.le_of_ble_eq_true rfl) ?_ | refine And.intro ⟨Nat.le_of_ble_eq_true rfl, rfl, rfl⟩ ?_); conv => whnf))
      refine CarryGoal.add hlw hca z01 fun low c hl hc e1 => ?_
      ((conv => whnf); repeat ((first | refine And.intro (rfl : (_ : Nat) = _) ?_ | refine And.intro (rfl : (_ : Bool) = true) ?_ | refine And.intro (Nat.le_of_ble_eq_true rfl) ?_ | refine And.intro ⟨Nat.le_of_ble_eq_true rfl, rfl, rfl⟩ ?_); conv => whnf))
      have hcar : IntKind.u64.wrap (q * bi / 18446744073709551616 + c) = q * bi / 18446744073709551616 + c := by rw [wrap_u64]; omega
      try rw [hji]
      refine ifB_mk (inB_nat (by omega)) ?_
      ((conv => whnf); repeat ((first | refine And.intro (rfl : (_ : Nat) = _) ?_ | refine And.intro (rfl : (_ : Bool) = true) ?_ | refine And.intro (Nat.le_of_ble_eq_true rfl) ?_ | refine And.intro ⟨Nat.le_of_ble_eq_true rfl, rfl, rfl⟩ ?_); conv => whnf))
      refine ifB_mk (ble_ws (by omega)) ?_
      rw [load_ws gy]
      ((conv => whnf); repeat ((first | refine And.intro (rfl : (_ : Nat) = _) ?_ | refine And.intro (rfl : (_ : Bool) = true) ?_ | refine And.intro (Nat.le_of_ble_eq_true rfl) ?_ | refine And.intro ⟨Nat.le_of_ble_eq_true rfl, rfl, rfl⟩ ?_); conv => whnf))
      refine CarryGoal.sub hyw hl hbr fun x b' hx hb' e2 => ?_
      ((conv => whnf); repeat ((first | refine And.intro (rfl : (_ : Nat) = _) ?_ | refine And.intro (rfl : (_ : Bool) = true) ?_ | refine And.intro (Nat.le_of_ble_eq_true rfl) ?_ | refine And.intro ⟨Nat.le_of_ble_eq_true rfl, rfl, rfl⟩ ?_); conv => whnf))
      try rw [hji]
      refine ifB_mk (inB_nat (by omega)) ?_
      ((conv => whnf); repeat ((first | refine And.intro (rfl : (_ : Nat) = _) ?_ | refine And.intro (rfl : (_ : Bool) = true) ?_ | refine And.intro (Nat.le_of_ble_eq_true rfl) ?_ | refine And.intro ⟨Nat.le_of_ble_eq_true rfl, rfl, rfl⟩ ?_); conv => whnf))
      refine ifB_mk (ble_ws' (by omega)) ?_
      rw [store_ws (by omega)]
      ((conv => whnf); repeat ((first | refine And.intro (rfl : (_ : Nat) = _) ?_ | refine And.intro (rfl : (_ : Bool) = true) ?_ | refine And.intro (Nat.le_of_ble_eq_true rfl) ?_ | refine And.intro ⟨Nat.le_of_ble_eq_true rfl, rfl, rfl⟩ ?_); conv => whnf))
      refine ⟨n6 - 1, by omega, _, _, Frz.keep (fr' := [(4, .optr 51004 b4 0), (5, .int .i64 (N : Nat)), (6, .int .i64 (s : Nat)), (7, .optr 51007 b7 0), (8, .optr 51008 b8 0), (11, .int .i64 (j : Nat)), (12, u64 q), (13, u64 b'), (14, u64 (q * bi / 18446744073709551616 + c)), (15, .int .i64 (i + 1 : Nat))]) (Fr.sub_cons rfl (Fr.sub_cons rfl (Fr.sub_cons rfl (Fr.sub_cons rfl (Fr.sub_cons rfl (Fr.sub_cons rfl (Fr.sub_cons rfl (Fr.sub_cons rfl (Fr.sub_cons (congrArg (fun z => some (AV.int .u64 z)) hcar) (Fr.sub_cons (congrArg (fun z => some (AV.int .i64 z)) (i64_succ (by omega))) (Fr.sub_nil _))))))))))), i + 1, al1.set (j + i) x, b', _, by omega, by rw [List.length_set]; exact hal1, wd_set hwa1 hx, by rw [take_set_ge]; exact htk, hb', by omega, ?_, rfl, rfl⟩
      rw [seg_set gy (by omega), hseg, hms, Int.pow_succ]
      have e3 : q * bi = 18446744073709551616 * (q * bi / 18446744073709551616) + q * bi % 18446744073709551616 := (Int.mul_ediv_add_emod _ _).symm
      have e4 : x - y = 18446744073709551616 * b' - low - brw := by omega
      have e5 : low = q * bi % 18446744073709551616 + car - 18446744073709551616 * c := by omega
      rw [e4, e5, Int.mul_add q, show q * (18446744073709551616 ^ i * bi) = 18446744073709551616 ^ i * (q * bi) from by grind]
      generalize q * bi / 18446744073709551616 = hh at *
      generalize q * bi % 18446744073709551616 = ll at *
      rw [e3]
      have key : ∀ p Q h l : Int, A - Q + p * (brw + car) + p * (18446744073709551616 * b' - (l + car - 18446744073709551616 * c) - brw) = A - (Q + p * (18446744073709551616 * h + l)) + p * 18446744073709551616 * (b' + (h + c)) := by intros; grind
      exact key _ _ _ _
    rw [decide_eq_false hiN]
    obtain rfl : N = i := by omega
    rw [Int.emod_eq_of_lt (Int.le_of_lt hM0) hMN] at hseg
    ((conv => whnf); repeat ((first | refine And.intro (rfl : (_ : Nat) = _) ?_ | refine And.intro (rfl : (_ : Bool) = true) ?_ | refine And.intro (Nat.le_of_ble_eq_true rfl) ?_ | refine And.intro ⟨Nat.le_of_ble_eq_true rfl, rfl, rfl⟩ ?_); conv => whnf))
    try rw [hjN]
    refine ifB_mk (inB_nat (by omega)) ?_
    have gy := seg_get hwa1 (j := j) (n := N + 1) (i := N) (by omega) (by omega)
    have hyw := lo_w1 (seg al1 j (N + 1) / 18446744073709551616 ^ N)
    generalize hye : seg al1 j (N + 1) / 18446744073709551616 ^ N % 18446744073709551616 = y at gy hyw
    ((conv => whnf); repeat ((first | refine And.intro (rfl : (_ : Nat) = _) ?_ | refine And.intro (rfl : (_ : Bool) = true) ?_ | refine And.intro (Nat.le_of_ble_eq_true rfl) ?_ | refine And.intro ⟨Nat.le_of_ble_eq_true rfl, rfl, rfl⟩ ?_); conv => whnf))
    refine ifB_mk (ble_ws (by omega)) ?_
    rw [load_ws gy]
    ((conv => whnf); repeat ((first | refine And.intro (rfl : (_ : Nat) = _) ?_ | refine And.intro (rfl : (_ : Bool) = true) ?_ | refine And.intro (Nat.le_of_ble_eq_true rfl) ?_ | refine And.intro ⟨Nat.le_of_ble_eq_true rfl, rfl, rfl⟩ ?_); conv => whnf))
    refine CarryGoal.sub hyw hca hbr fun x b' hx hb' e2 => ?_
    ((conv => whnf); repeat ((first | refine And.intro (rfl : (_ : Nat) = _) ?_ | refine And.intro (rfl : (_ : Bool) = true) ?_ | refine And.intro (Nat.le_of_ble_eq_true rfl) ?_ | refine And.intro ⟨Nat.le_of_ble_eq_true rfl, rfl, rfl⟩ ?_); conv => whnf))
    try rw [hjN]
    refine ifB_mk (inB_nat (by omega)) ?_
    ((conv => whnf); repeat ((first | refine And.intro (rfl : (_ : Nat) = _) ?_ | refine And.intro (rfl : (_ : Bool) = true) ?_ | refine And.intro (Nat.le_of_ble_eq_true rfl) ?_ | refine And.intro ⟨Nat.le_of_ble_eq_true rfl, rfl, rfl⟩ ?_); conv => whnf))
    refine ifB_mk (ble_ws' (by omega)) ?_
    rw [store_ws (by omega)]
    ((conv => whnf); repeat ((first | refine And.intro (rfl : (_ : Nat) = _) ?_ | refine And.intro (rfl : (_ : Bool) = true) ?_ | refine And.intro (Nat.le_of_ble_eq_true rfl) ?_ | refine And.intro ⟨Nat.le_of_ble_eq_true rfl, rfl, rfl⟩ ?_); conv => whnf))
    have hseg1 : seg (al1.set (j + N) x) j (N + 1) = (A - q * M) + 18446744073709551616 ^ (N + 1) * b' := by
      rw [seg_set gy (by omega), hseg, Int.pow_succ]
      have e4 : x - y = 18446744073709551616 * b' - car - brw := by omega
      rw [e4]
      have key : ∀ p Q : Int, A - Q + p * (brw + car) + p * (18446744073709551616 * b' - car - brw) = A - Q + p * 18446744073709551616 * b' := by intros; grind
      exact key _ _
    have hDM : A - q * M < M := by
      have h5 := Int.mul_ediv_add_emod A M
      have h6 := Int.emod_lt_of_pos A hM0
      have h7 := Int.mul_le_mul_of_nonneg_right hqg (Int.le_of_lt hM0)
      rw [Int.mul_comm (A / M)] at h7
      omega
    have hDmod : (A - q * M) % M = A % M := by rw [Int.sub_mul_emod_self_right]
    have hwa2 := wd_set (i := j + N) hwa1 hx
    have hal2 : (al1.set (j + N) x).length = 10 := by rw [List.length_set]; exact hal1
    have htk2 : (al1.set (j + N) x).take j = al.take j := by rw [take_set_ge]; exact htk
    generalize al1.set (j + N) x = al2 at *
    generalize A - q * M = D at *
    refine LoopGoal.inv (RemK M A (al.take j) N s j b4 b7 b8) (M - D).toNat (Frz.keep (fr' := [(4, .optr 51004 b4 0), (5, .int .i64 (N : Nat)), (6, .int .i64 (s : Nat)), (7, .optr 51007 b7 0), (8, .optr 51008 b8 0), (11, .int .i64 (j : Nat)), (13, u64 b')]) (Fr.sub_cons rfl (Fr.sub_cons rfl (Fr.sub_cons rfl (Fr.sub_cons rfl (Fr.sub_cons rfl (Fr.sub_cons rfl (Fr.sub_cons rfl (Fr.sub_nil _))))))))) ⟨al2, b', D, rfl, hal2, hwa2, htk2, by omega, hseg1, hDM, hDmod, rfl, rfl⟩ ?_
    clear hseg1 hDM hDmod hwa2 hal2 htk2 hye gy hyw hseg hwa1 hal1 htk e2 hx hb'
    rintro n7 fr st ⟨al3, brw3, D3, hn7, hal3, hwa3, htk3, hbr3, hseg3, hDM3, hDmod3, rfl, rfl⟩
    have hbd3 := seg_bd hwa3 j (N + 1) (by omega)
    conv => whnf
    rcases hbr3 with rfl | rfl
    · rw [show lssB 0 0 = false from by decide]
      ((conv => whnf); repeat ((first | refine And.intro (rfl : (_ : Nat) = _) ?_ | refine And.intro (rfl : (_ : Bool) = true) ?_ | refine And.intro (Nat.le_of_ble_eq_true rfl) ?_ | refine And.intro ⟨Nat.le_of_ble_eq_true rfl, rfl, rfl⟩ ?_); conv => whnf))
      rw [Int.mul_zero, Int.add_zero] at hseg3
      have gtop := seg_get hwa3 (j := j) (n := N + 1) (i := N) (by omega) (by omega)
      rw [hseg3, Int.ediv_eq_zero_of_lt (by omega) (by omega), show (0 : Int) % 18446744073709551616 = 0 from rfl] at gtop
      have hsg := seg_succ gtop
      rw [hseg3, Int.mul_zero, Int.add_zero] at hsg
      obtain ⟨r1, r2⟩ := rem_next hM0 hBj hVs hlow.1 hlow.2 hDM3 (by omega) hDmod3
      refine ⟨j, by omega, _, _, Frz.keep (fr' := [(4, .optr 51004 b4 0), (5, .int .i64 (N : Nat)), (6, .int .i64 (s : Nat)), (7, .optr 51007 b7 0), (8, .optr 51008 b8 0), (11, .int .i64 (((j : Nat) : Int) - 1))]) (Fr.sub_cons rfl (Fr.sub_cons rfl (Fr.sub_cons rfl (Fr.sub_cons rfl (Fr.sub_cons rfl (Fr.sub_cons (congrArg (fun z => some (AV.int .i64 z)) (wr64 (by omega) (by omega))) (Fr.sub_nil _))))))), j, al3, rfl, by omega, hal3, hwa3, ?_, ?_, fun _ => gtop, rfl, rfl⟩
      · rw [val_take_seg (by omega), htk3, ← hsg]; exact r1
      · rw [val_take_seg (by omega), htk3, ← hsg, r2]; exact hVm
    · rw [show lssB 0 1 = true from by decide]
      ((conv => whnf); repeat ((first | refine And.intro (rfl : (_ : Nat) = _) ?_ | refine And.intro (rfl : (_ : Bool) = true) ?_ | refine And.intro (Nat.le_of_ble_eq_true rfl) ?_ | refine And.intro ⟨Nat.le_of_ble_eq_true rfl, rfl, rfl⟩ ?_); conv => whnf))
      refine LoopGoal.inv (RemC M (seg al3 j (N + 1)) (al.take j) N s j b4 b7 b8) N (Frz.keep (fr' := [(4, .optr 51004 b4 0), (5, .int .i64 (N : Nat)), (6, .int .i64 (s : Nat)), (7, .optr 51007 b7 0), (8, .optr 51008 b8 0), (11, .int .i64 (j : Nat)), (13, u64 1), (20, u64 0), (21, .int .i64 (0 : Nat))]) (Fr.sub_cons rfl (Fr.sub_cons rfl (Fr.sub_cons rfl (Fr.sub_cons rfl (Fr.sub_cons rfl (Fr.sub_cons rfl (Fr.sub_cons rfl (Fr.sub_cons rfl (Fr.sub_cons rfl (Fr.sub_nil _))))))))))) ⟨0, al3, 0, by omega, hal3, hwa3, htk3, by omega, ?_, rfl, rfl⟩ ?_
      · rw [Int.pow_zero, Int.emod_one]; omega
      rintro n8 fr st ⟨i2, al4, c, hi2, hal4, hwa4, htk4, hc, hseg4, rfl, rfl⟩
      conv => whnf
      rw [lss_nat (n := (N : Int)) N rfl]
      by_cases hiN2 : i2 < N
      · rw [decide_eq_true hiN2]
        have hji := i64_add (i := j) (j := i2) (by omega)
        have gb := dig_get 5 M i2 (by omega)
        have hms := mod_succ M i2
        have hbi := lo_w1 (M / 18446744073709551616 ^ i2)
        have gy := seg_get hwa4 (j := j) (n := N + 1) (i := i2) (by omega) (by omega)
        have hyw := lo_w1 (seg al4 j (N + 1) / 18446744073709551616 ^ i2)
        generalize M / 18446744073709551616 ^ i2 % 18446744073709551616 = bi at *
        generalize hye : seg al4 j (N + 1) / 18446744073709551616 ^ i2 % 18446744073709551616 = y at gy hyw
        ((conv => whnf); repeat ((first | refine And.intro (rfl : (_ : Nat) = _) ?_ | refine And.intro (rfl : (_ : Bool) = true) ?_ | refine And.intro (Nat.le_of_ble_eq_true rfl) ?_ | refine And.intro ⟨Nat.le_of_ble_eq_true rfl, rfl, rfl⟩ ?_); conv => whnf))
        try rw [hji]
        refine ifB_mk (inB_nat (by omega)) ?_
        ((conv => whnf); repeat ((first | refine And.intro (rfl : (_ : Nat) = _) ?_ | refine And.intro (rfl : (_ : Bool) = true) ?_ | refine And.intro (Nat.le_of_ble_eq_true rfl) ?_ | refine And.intro ⟨Nat.le_of_ble_eq_true rfl, rfl, rfl⟩ ?_); conv => whnf))
        refine ifB_mk (ble_ws (by omega)) ?_
        rw [load_ws gy]
        ((conv => whnf); repeat ((first | refine And.intro (rfl : (_ : Nat) = _) ?_ | refine And.intro (rfl : (_ : Bool) = true) ?_ | refine And.intro (Nat.le_of_ble_eq_true rfl) ?_ | refine And.intro ⟨Nat.le_of_ble_eq_true rfl, rfl, rfl⟩ ?_); conv => whnf))
        refine ifB_mk (inB_nat (by omega)) ?_
        ((conv => whnf); repeat ((first | refine And.intro (rfl : (_ : Nat) = _) ?_ | refine And.intro (rfl : (_ : Bool) = true) ?_ | refine And.intro (Nat.le_of_ble_eq_true rfl) ?_ | refine And.intro ⟨Nat.le_of_ble_eq_true rfl, rfl, rfl⟩ ?_); conv => whnf))
        refine ifB_mk (ble_ws (by rw [dig_len]; omega)) ?_
        rw [load_ws gb]
        ((conv => whnf); repeat ((first | refine And.intro (rfl : (_ : Nat) = _) ?_ | refine And.intro (rfl : (_ : Bool) = true) ?_ | refine And.intro (Nat.le_of_ble_eq_true rfl) ?_ | refine And.intro ⟨Nat.le_of_ble_eq_true rfl, rfl, rfl⟩ ?_); conv => whnf))
        refine CarryGoal.add hyw hbi hc fun x c' hx hc' e1 => ?_
        ((conv => whnf); repeat ((first | refine And.intro (rfl : (_ : Nat) = _) ?_ | refine And.intro (rfl : (_ : Bool) = true) ?_ | refine And.intro (Nat.le_of_ble_eq_true rfl) ?_ | refine And.intro ⟨Nat.le_of_ble_eq_true rfl, rfl, rfl⟩ ?_); conv => whnf))
        try rw [hji]
        refine ifB_mk (inB_nat (by omega)) ?_
        ((conv => whnf); repeat ((first | refine And.intro (rfl : (_ : Nat) = _) ?_ | refine And.intro (rfl : (_ : Bool) = true) ?_ | refine And.intro (Nat.le_of_ble_eq_true rfl) ?_ | refine And.intro ⟨Nat.le_of_ble_eq_true rfl, rfl, rfl⟩ ?_); conv => whnf))
        refine ifB_mk (ble_ws' (by omega)) ?_
        rw [store_ws (by omega)]
        ((conv => whnf); repeat ((first | refine And.intro (rfl : (_ : Nat) = _) ?_ | refine And.intro (rfl : (_ : Bool) = true) ?_ | refine And.intro (Nat.le_of_ble_eq_true rfl) ?_ | refine And.intro ⟨Nat.le_of_ble_eq_true rfl, rfl, rfl⟩ ?_); conv => whnf))
        refine ⟨n8 - 1, by omega, _, _, Frz.keep (fr' := [(4, .optr 51004 b4 0), (5, .int .i64 (N : Nat)), (6, .int .i64 (s : Nat)), (7, .optr 51007 b7 0), (8, .optr 51008 b8 0), (11, .int .i64 (j : Nat)), (13, u64 1), (20, u64 c'), (21, .int .i64 (i2 + 1 : Nat))]) (Fr.sub_cons rfl (Fr.sub_cons rfl (Fr.sub_cons rfl (Fr.sub_cons rfl (Fr.sub_cons rfl (Fr.sub_cons rfl (Fr.sub_cons rfl (Fr.sub_cons rfl (Fr.sub_cons (congrArg (fun z => some (AV.int .i64 z)) (i64_succ (by omega))) (Fr.sub_nil _)))))))))), i2 + 1, al4.set (j + i2) x, c', by omega, by rw [List.length_set]; exact hal4, wd_set hwa4 hx, by rw [take_set_ge]; exact htk4, hc', ?_, rfl, rfl⟩
        rw [seg_set gy (by omega), hseg4, hms, Int.pow_succ]
        have e4 : x - y = bi + c - 18446744073709551616 * c' := by omega
        rw [e4]
        have key : ∀ p Q R : Int, Q + R - p * c + p * (bi + c - 18446744073709551616 * c') = Q + (R + p * bi) - p * 18446744073709551616 * c' := by intros; grind
        exact key _ _ _
      rw [decide_eq_false hiN2]
      obtain rfl : N = i2 := by omega
      rw [Int.emod_eq_of_lt (Int.le_of_lt hM0) hMN] at hseg4
      ((conv => whnf); repeat ((first | refine And.intro (rfl : (_ : Nat) = _) ?_ | refine And.intro (rfl : (_ : Bool) = true) ?_ | refine And.intro (Nat.le_of_ble_eq_true rfl) ?_ | refine And.intro ⟨Nat.le_of_ble_eq_true rfl, rfl, rfl⟩ ?_); conv => whnf))
      try rw [hjN]
      refine ifB_mk (inB_nat (by omega)) ?_
      have gy := seg_get hwa4 (j := j) (n := N + 1) (i := N) (by omega) (by omega)
      have hyw := lo_w1 (seg al4 j (N + 1) / 18446744073709551616 ^ N)
      generalize hye : seg al4 j (N + 1) / 18446744073709551616 ^ N % 18446744073709551616 = y at gy hyw
      ((conv => whnf); repeat ((first | refine And.intro (rfl : (_ : Nat) = _) ?_ | refine And.intro (rfl : (_ : Bool) = true) ?_ | refine And.intro (Nat.le_of_ble_eq_true rfl) ?_ | refine And.intro ⟨Nat.le_of_ble_eq_true rfl, rfl, rfl⟩ ?_); conv => whnf))
      refine ifB_mk (ble_ws (by omega)) ?_
      rw [load_ws gy]
      ((conv => whnf); repeat ((first | refine And.intro (rfl : (_ : Nat) = _) ?_ | refine And.intro (rfl : (_ : Bool) = true) ?_ | refine And.intro (Nat.le_of_ble_eq_true rfl) ?_ | refine And.intro ⟨Nat.le_of_ble_eq_true rfl, rfl, rfl⟩ ?_); conv => whnf))
      refine CarryGoal.add hyw (show W1 0 by omega) hc fun x c' hx hc' e1 => ?_
      ((conv => whnf); repeat ((first | refine And.intro (rfl : (_ : Nat) = _) ?_ | refine And.intro (rfl : (_ : Bool) = true) ?_ | refine And.intro (Nat.le_of_ble_eq_true rfl) ?_ | refine And.intro ⟨Nat.le_of_ble_eq_true rfl, rfl, rfl⟩ ?_); conv => whnf))
      try rw [hjN]
      refine ifB_mk (inB_nat (by omega)) ?_
      ((conv => whnf); repeat ((first | refine And.intro (rfl : (_ : Nat) = _) ?_ | refine And.intro (rfl : (_ : Bool) = true) ?_ | refine And.intro (Nat.le_of_ble_eq_true rfl) ?_ | refine And.intro ⟨Nat.le_of_ble_eq_true rfl, rfl, rfl⟩ ?_); conv => whnf))
      refine ifB_mk (ble_ws' (by omega)) ?_
      rw [store_ws (by omega)]
      ((conv => whnf); repeat ((first | refine And.intro (rfl : (_ : Nat) = _) ?_ | refine And.intro (rfl : (_ : Bool) = true) ?_ | refine And.intro (Nat.le_of_ble_eq_true rfl) ?_ | refine And.intro ⟨Nat.le_of_ble_eq_true rfl, rfl, rfl⟩ ?_); conv => whnf))
      have hw1 : IntKind.u64.wrap (1 - c') = 1 - c' := by rw [wrap_u64]; omega
      have hneg : D3 < 0 := by
        have := hbd3.2
        rw [hseg3] at this
        omega
      refine ⟨(M - (D3 + M)).toNat, by omega, _, _, Frz.keep (fr' := [(4, .optr 51004 b4 0), (5, .int .i64 (N : Nat)), (6, .int .i64 (s : Nat)), (7, .optr 51007 b7 0), (8, .optr 51008 b8 0), (11, .int .i64 (j : Nat)), (13, u64 (1 - c'))]) (Fr.sub_cons rfl (Fr.sub_cons rfl (Fr.sub_cons rfl (Fr.sub_cons rfl (Fr.sub_cons rfl (Fr.sub_cons rfl (Fr.sub_cons (congrArg (fun z => some (AV.int .u64 z)) hw1) (Fr.sub_nil _)))))))), al4.set (j + N) x, 1 - c', D3 + M, rfl, by rw [List.length_set]; exact hal4, wd_set hwa4 hx, by rw [take_set_ge]; exact htk4, by omega, ?_, by omega, by rw [Int.add_emod_right]; exact hDmod3, rfl, rfl⟩
      rw [seg_set gy (by omega), hseg4, hseg3, Int.pow_succ]
      have e4 : x - y = c - 18446744073709551616 * c' := by omega
      rw [e4]
      have key : ∀ p : Int, D3 + p * 18446744073709551616 * 1 + M - p * c + p * (c - 18446744073709551616 * c') = D3 + M + p * 18446744073709551616 * (1 - c') := by intros; grind
      exact key _
  · rw [show lssB ah tt = false from by rw [lssB_eq]; simp; omega]
    ((conv => whnf); repeat ((first | refine And.intro (rfl : (_ : Nat) = _) ?_ | refine And.intro (rfl : (_ : Bool) = true) ?_ | refine And.intro (Nat.le_of_ble_eq_true rfl) ?_ | refine And.intro ⟨Nat.le_of_ble_eq_true rfl, rfl, rfl⟩ ?_); conv => whnf))
    have hwq : W1 18446744073709551615 := by omega
    have hqg : A / M ≤ 18446744073709551615 := by omega
    obtain ⟨q, hqe⟩ : ∃ q : Int, q = 18446744073709551615 := ⟨_, rfl⟩
    rw [← hqe] at hwq hqg
    refine LoopGoal.inv (RemS M A q (al.take j) N s j b4 b7 b8) N (Frz.keep (fr' := [(4, .optr 51004 b4 0), (5, .int .i64 (N : Nat)), (6, .int .i64 (s : Nat)), (7, .optr 51007 b7 0), (8, .optr 51008 b8 0), (11, .int .i64 (j : Nat)), (12, u64 q), (13, u64 0), (14, u64 0), (15, .int .i64 (0 : Nat))]) (Fr.sub_cons rfl (Fr.sub_cons rfl (Fr.sub_cons rfl (Fr.sub_cons rfl (Fr.sub_cons rfl (Fr.sub_cons rfl (Fr.sub_cons (by rw [hqe]; rfl) (Fr.sub_cons rfl (Fr.sub_cons rfl (Fr.sub_cons rfl (Fr.sub_nil _)))))))))))) ⟨0, al, 0, 0, by omega, hal, hwa, rfl, by omega, by omega, ?_, rfl, rfl⟩ ?_
    · rw [Int.pow_zero, Int.emod_one, hAe]; omega
    rintro n6 fr st ⟨i, al1, brw, car, hi, hal1, hwa1, htk, hbr, hca, hseg, rfl, rfl⟩
    conv => whnf
    rw [lss_nat (n := (N : Int)) N rfl]
    by_cases hiN : i < N
    · rw [decide_eq_true hiN]
      have hji := i64_add (i := j) (j := i) (by omega)
      have gb := dig_get 5 M i (by omega)
      have hms := mod_succ M i
      have hbi := lo_w1 (M / 18446744073709551616 ^ i)
      have gy := seg_get hwa1 (j := j) (n := N + 1) (i := i) (by omega) (by omega)
      have hyw := lo_w1 (seg al1 j (N + 1) / 18446744073709551616 ^ i)
      generalize M / 18446744073709551616 ^ i % 18446744073709551616 = bi at *
      generalize hye : seg al1 j (N + 1) / 18446744073709551616 ^ i % 18446744073709551616 = y at gy hyw
      have hub := mul_ub hwq hbi
      have hlw := lo_w1 (q * bi)
      ((conv => whnf); repeat ((first | refine And.intro (rfl : (_ : Nat) = _) ?_ | refine And.intro (rfl : (_ : Bool) = true) ?_ | refine And.intro (Nat.le_of_ble_eq_true rfl) ?_ | refine And.intro ⟨Nat.le_of_ble_eq_true rfl, rfl, rfl⟩ ?_); conv => whnf))
      refine ifB_mk (inB_nat (by omega)) ?_
      ((conv => whnf); repeat ((first | refine And.intro (rfl : (_ : Nat) = _) ?_ | refine And.intro (rfl : (_ : Bool) = true) ?_ | refine And.intro (Nat.le_of_ble_eq_true rfl) ?_ | refine And.intro ⟨Nat.le_of_ble_eq_true rfl, rfl, rfl⟩ ?_); conv => whnf))
      refine ifB_mk (ble_ws (by rw [dig_len]; omega)) ?_
      rw [load_ws gb]
      ((conv => whnf); repeat ((first | refine And.intro (rfl : (_ : Nat) = _) ?_ | refine And.intro (rfl : (_ : Bool) = true) ?_ | refine And.intro (Nat.le_of_ble_eq_true rfl) ?_ | refine And.intro ⟨Nat.le_of_ble_eq_true rfl, rfl, rfl⟩ ?_); conv => whnf))
      first | refine CallGoal.pure (hM64 hwq hbi) ?_ | refine PCallGoal.pure (hM64 hwq hbi) ?_
      ((conv => whnf); repeat ((first | refine And.intro (rfl : (_ : Nat) = _) ?_ | refine And.intro (rfl : (_ : Bool) = true) ?_ | refine And.intro (Nat.le_of_ble_eq_true rfl) ?_ | refine And.intro ⟨Nat.le_of_ble_eq_true rfl, rfl, rfl⟩ ?_); conv => whnf))
      refine CarryGoal.add hlw hca z01 fun low c hl hc e1 => ?_
      ((conv => whnf); repeat ((first | refine And.intro (rfl : (_ : Nat) = _) ?_ | refine And.intro (rfl : (_ : Bool) = true) ?_ | refine And.intro (Nat.le_of_ble_eq_true rfl) ?_ | refine And.intro ⟨Nat.le_of_ble_eq_true rfl, rfl, rfl⟩ ?_); conv => whnf))
      have hcar : IntKind.u64.wrap (q * bi / 18446744073709551616 + c) = q * bi / 18446744073709551616 + c := by rw [wrap_u64]; omega
      try rw [hji]
      refine ifB_mk (inB_nat (by omega)) ?_
      ((conv => whnf); repeat ((first | refine And.intro (rfl : (_ : Nat) = _) ?_ | refine And.intro (rfl : (_ : Bool) = true) ?_ | refine And.intro (Nat.le_of_ble_eq_true rfl) ?_ | refine And.intro ⟨Nat.le_of_ble_eq_true rfl, rfl, rfl⟩ ?_); conv => whnf))
      refine ifB_mk (ble_ws (by omega)) ?_
      rw [load_ws gy]
      ((conv => whnf); repeat ((first | refine And.intro (rfl : (_ : Nat) = _) ?_ | refine And.intro (rfl : (_ : Bool) = true) ?_ | refine And.intro (Nat.le_of_ble_eq_true rfl) ?_ | refine And.intro ⟨Nat.le_of_ble_eq_true rfl, rfl, rfl⟩ ?_); conv => whnf))
      refine CarryGoal.sub hyw hl hbr fun x b' hx hb' e2 => ?_
      ((conv => whnf); repeat ((first | refine And.intro (rfl : (_ : Nat) = _) ?_ | refine And.intro (rfl : (_ : Bool) = true) ?_ | refine And.intro (Nat.le_of_ble_eq_true rfl) ?_ | refine And.intro ⟨Nat.le_of_ble_eq_true rfl, rfl, rfl⟩ ?_); conv => whnf))
      try rw [hji]
      refine ifB_mk (inB_nat (by omega)) ?_
      ((conv => whnf); repeat ((first | refine And.intro (rfl : (_ : Nat) = _) ?_ | refine And.intro (rfl : (_ : Bool) = true) ?_ | refine And.intro (Nat.le_of_ble_eq_true rfl) ?_ | refine And.intro ⟨Nat.le_of_ble_eq_true rfl, rfl, rfl⟩ ?_); conv => whnf))
      refine ifB_mk (ble_ws' (by omega)) ?_
      rw [store_ws (by omega)]
      ((conv => whnf); repeat ((first | refine And.intro (rfl : (_ : Nat) = _) ?_ | refine And.intro (rfl : (_ : Bool) = true) ?_ | refine And.intro (Nat.le_of_ble_eq_true rfl) ?_ | refine And.intro ⟨Nat.le_of_ble_eq_true rfl, rfl, rfl⟩ ?_); conv => whnf))
      refine ⟨n6 - 1, by omega, _, _, Frz.keep (fr' := [(4, .optr 51004 b4 0), (5, .int .i64 (N : Nat)), (6, .int .i64 (s : Nat)), (7, .optr 51007 b7 0), (8, .optr 51008 b8 0), (11, .int .i64 (j : Nat)), (12, u64 q), (13, u64 b'), (14, u64 (q * bi / 18446744073709551616 + c)), (15, .int .i64 (i + 1 : Nat))]) (Fr.sub_cons rfl (Fr.sub_cons rfl (Fr.sub_cons rfl (Fr.sub_cons rfl (Fr.sub_cons rfl (Fr.sub_cons rfl (Fr.sub_cons rfl (Fr.sub_cons rfl (Fr.sub_cons (congrArg (fun z => some (AV.int .u64 z)) hcar) (Fr.sub_cons (congrArg (fun z => some (AV.int .i64 z)) (i64_succ (by omega))) (Fr.sub_nil _))))))))))), i + 1, al1.set (j + i) x, b', _, by omega, by rw [List.length_set]; exact hal1, wd_set hwa1 hx, by rw [take_set_ge]; exact htk, hb', by omega, ?_, rfl, rfl⟩
      rw [seg_set gy (by omega), hseg, hms, Int.pow_succ]
      have e3 : q * bi = 18446744073709551616 * (q * bi / 18446744073709551616) + q * bi % 18446744073709551616 := (Int.mul_ediv_add_emod _ _).symm
      have e4 : x - y = 18446744073709551616 * b' - low - brw := by omega
      have e5 : low = q * bi % 18446744073709551616 + car - 18446744073709551616 * c := by omega
      rw [e4, e5, Int.mul_add q, show q * (18446744073709551616 ^ i * bi) = 18446744073709551616 ^ i * (q * bi) from by grind]
      generalize q * bi / 18446744073709551616 = hh at *
      generalize q * bi % 18446744073709551616 = ll at *
      rw [e3]
      have key : ∀ p Q h l : Int, A - Q + p * (brw + car) + p * (18446744073709551616 * b' - (l + car - 18446744073709551616 * c) - brw) = A - (Q + p * (18446744073709551616 * h + l)) + p * 18446744073709551616 * (b' + (h + c)) := by intros; grind
      exact key _ _ _ _
    rw [decide_eq_false hiN]
    obtain rfl : N = i := by omega
    rw [Int.emod_eq_of_lt (Int.le_of_lt hM0) hMN] at hseg
    ((conv => whnf); repeat ((first | refine And.intro (rfl : (_ : Nat) = _) ?_ | refine And.intro (rfl : (_ : Bool) = true) ?_ | refine And.intro (Nat.le_of_ble_eq_true rfl) ?_ | refine And.intro ⟨Nat.le_of_ble_eq_true rfl, rfl, rfl⟩ ?_); conv => whnf))
    try rw [hjN]
    refine ifB_mk (inB_nat (by omega)) ?_
    have gy := seg_get hwa1 (j := j) (n := N + 1) (i := N) (by omega) (by omega)
    have hyw := lo_w1 (seg al1 j (N + 1) / 18446744073709551616 ^ N)
    generalize hye : seg al1 j (N + 1) / 18446744073709551616 ^ N % 18446744073709551616 = y at gy hyw
    ((conv => whnf); repeat ((first | refine And.intro (rfl : (_ : Nat) = _) ?_ | refine And.intro (rfl : (_ : Bool) = true) ?_ | refine And.intro (Nat.le_of_ble_eq_true rfl) ?_ | refine And.intro ⟨Nat.le_of_ble_eq_true rfl, rfl, rfl⟩ ?_); conv => whnf))
    refine ifB_mk (ble_ws (by omega)) ?_
    rw [load_ws gy]
    ((conv => whnf); repeat ((first | refine And.intro (rfl : (_ : Nat) = _) ?_ | refine And.intro (rfl : (_ : Bool) = true) ?_ | refine And.intro (Nat.le_of_ble_eq_true rfl) ?_ | refine And.intro ⟨Nat.le_of_ble_eq_true rfl, rfl, rfl⟩ ?_); conv => whnf))
    refine CarryGoal.sub hyw hca hbr fun x b' hx hb' e2 => ?_
    ((conv => whnf); repeat ((first | refine And.intro (rfl : (_ : Nat) = _) ?_ | refine And.intro (rfl : (_ : Bool) = true) ?_ | refine And.intro (Nat.le_of_ble_eq_true rfl) ?_ | refine And.intro ⟨Nat.le_of_ble_eq_true rfl, rfl, rfl⟩ ?_); conv => whnf))
    try rw [hjN]
    refine ifB_mk (inB_nat (by omega)) ?_
    ((conv => whnf); repeat ((first | refine And.intro (rfl : (_ : Nat) = _) ?_ | refine And.intro (rfl : (_ : Bool) = true) ?_ | refine And.intro (Nat.le_of_ble_eq_true rfl) ?_ | refine And.intro ⟨Nat.le_of_ble_eq_true rfl, rfl, rfl⟩ ?_); conv => whnf))
    refine ifB_mk (ble_ws' (by omega)) ?_
    rw [store_ws (by omega)]
    ((conv => whnf); repeat ((first | refine And.intro (rfl : (_ : Nat) = _) ?_ | refine And.intro (rfl : (_ : Bool) = true) ?_ | refine And.intro (Nat.le_of_ble_eq_true rfl) ?_ | refine And.intro ⟨Nat.le_of_ble_eq_true rfl, rfl, rfl⟩ ?_); conv => whnf))
    have hseg1 : seg (al1.set (j + N) x) j (N + 1) = (A - q * M) + 18446744073709551616 ^ (N + 1) * b' := by
      rw [seg_set gy (by omega), hseg, Int.pow_succ]
      have e4 : x - y = 18446744073709551616 * b' - car - brw := by omega
      rw [e4]
      have key : ∀ p Q : Int, A - Q + p * (brw + car) + p * (18446744073709551616 * b' - car - brw) = A - Q + p * 18446744073709551616 * b' := by intros; grind
      exact key _ _
    have hDM : A - q * M < M := by
      have h5 := Int.mul_ediv_add_emod A M
      have h6 := Int.emod_lt_of_pos A hM0
      have h7 := Int.mul_le_mul_of_nonneg_right hqg (Int.le_of_lt hM0)
      rw [Int.mul_comm (A / M)] at h7
      omega
    have hDmod : (A - q * M) % M = A % M := by rw [Int.sub_mul_emod_self_right]
    have hwa2 := wd_set (i := j + N) hwa1 hx
    have hal2 : (al1.set (j + N) x).length = 10 := by rw [List.length_set]; exact hal1
    have htk2 : (al1.set (j + N) x).take j = al.take j := by rw [take_set_ge]; exact htk
    generalize al1.set (j + N) x = al2 at *
    generalize A - q * M = D at *
    refine LoopGoal.inv (RemK M A (al.take j) N s j b4 b7 b8) (M - D).toNat (Frz.keep (fr' := [(4, .optr 51004 b4 0), (5, .int .i64 (N : Nat)), (6, .int .i64 (s : Nat)), (7, .optr 51007 b7 0), (8, .optr 51008 b8 0), (11, .int .i64 (j : Nat)), (13, u64 b')]) (Fr.sub_cons rfl (Fr.sub_cons rfl (Fr.sub_cons rfl (Fr.sub_cons rfl (Fr.sub_cons rfl (Fr.sub_cons rfl (Fr.sub_cons rfl (Fr.sub_nil _))))))))) ⟨al2, b', D, rfl, hal2, hwa2, htk2, by omega, hseg1, hDM, hDmod, rfl, rfl⟩ ?_
    clear hseg1 hDM hDmod hwa2 hal2 htk2 hye gy hyw hseg hwa1 hal1 htk e2 hx hb'
    rintro n7 fr st ⟨al3, brw3, D3, hn7, hal3, hwa3, htk3, hbr3, hseg3, hDM3, hDmod3, rfl, rfl⟩
    have hbd3 := seg_bd hwa3 j (N + 1) (by omega)
    conv => whnf
    rcases hbr3 with rfl | rfl
    · rw [show lssB 0 0 = false from by decide]
      ((conv => whnf); repeat ((first | refine And.intro (rfl : (_ : Nat) = _) ?_ | refine And.intro (rfl : (_ : Bool) = true) ?_ | refine And.intro (Nat.le_of_ble_eq_true rfl) ?_ | refine And.intro ⟨Nat.le_of_ble_eq_true rfl, rfl, rfl⟩ ?_); conv => whnf))
      rw [Int.mul_zero, Int.add_zero] at hseg3
      have gtop := seg_get hwa3 (j := j) (n := N + 1) (i := N) (by omega) (by omega)
      rw [hseg3, Int.ediv_eq_zero_of_lt (by omega) (by omega), show (0 : Int) % 18446744073709551616 = 0 from rfl] at gtop
      have hsg := seg_succ gtop
      rw [hseg3, Int.mul_zero, Int.add_zero] at hsg
      obtain ⟨r1, r2⟩ := rem_next hM0 hBj hVs hlow.1 hlow.2 hDM3 (by omega) hDmod3
      refine ⟨j, by omega, _, _, Frz.keep (fr' := [(4, .optr 51004 b4 0), (5, .int .i64 (N : Nat)), (6, .int .i64 (s : Nat)), (7, .optr 51007 b7 0), (8, .optr 51008 b8 0), (11, .int .i64 (((j : Nat) : Int) - 1))]) (Fr.sub_cons rfl (Fr.sub_cons rfl (Fr.sub_cons rfl (Fr.sub_cons rfl (Fr.sub_cons rfl (Fr.sub_cons (congrArg (fun z => some (AV.int .i64 z)) (wr64 (by omega) (by omega))) (Fr.sub_nil _))))))), j, al3, rfl, by omega, hal3, hwa3, ?_, ?_, fun _ => gtop, rfl, rfl⟩
      · rw [val_take_seg (by omega), htk3, ← hsg]; exact r1
      · rw [val_take_seg (by omega), htk3, ← hsg, r2]; exact hVm
    · rw [show lssB 0 1 = true from by decide]
      ((conv => whnf); repeat ((first | refine And.intro (rfl : (_ : Nat) = _) ?_ | refine And.intro (rfl : (_ : Bool) = true) ?_ | refine And.intro (Nat.le_of_ble_eq_true rfl) ?_ | refine And.intro ⟨Nat.le_of_ble_eq_true rfl, rfl, rfl⟩ ?_); conv => whnf))
      refine LoopGoal.inv (RemC M (seg al3 j (N + 1)) (al.take j) N s j b4 b7 b8) N (Frz.keep (fr' := [(4, .optr 51004 b4 0), (5, .int .i64 (N : Nat)), (6, .int .i64 (s : Nat)), (7, .optr 51007 b7 0), (8, .optr 51008 b8 0), (11, .int .i64 (j : Nat)), (13, u64 1), (20, u64 0), (21, .int .i64 (0 : Nat))]) (Fr.sub_cons rfl (Fr.sub_cons rfl (Fr.sub_cons rfl (Fr.sub_cons rfl (Fr.sub_cons rfl (Fr.sub_cons rfl (Fr.sub_cons rfl (Fr.sub_cons rfl (Fr.sub_cons rfl (Fr.sub_nil _))))))))))) ⟨0, al3, 0, by omega, hal3, hwa3, htk3, by omega, ?_, rfl, rfl⟩ ?_
      · rw [Int.pow_zero, Int.emod_one]; omega
      rintro n8 fr st ⟨i2, al4, c, hi2, hal4, hwa4, htk4, hc, hseg4, rfl, rfl⟩
      conv => whnf
      rw [lss_nat (n := (N : Int)) N rfl]
      by_cases hiN2 : i2 < N
      · rw [decide_eq_true hiN2]
        have hji := i64_add (i := j) (j := i2) (by omega)
        have gb := dig_get 5 M i2 (by omega)
        have hms := mod_succ M i2
        have hbi := lo_w1 (M / 18446744073709551616 ^ i2)
        have gy := seg_get hwa4 (j := j) (n := N + 1) (i := i2) (by omega) (by omega)
        have hyw := lo_w1 (seg al4 j (N + 1) / 18446744073709551616 ^ i2)
        generalize M / 18446744073709551616 ^ i2 % 18446744073709551616 = bi at *
        generalize hye : seg al4 j (N + 1) / 18446744073709551616 ^ i2 % 18446744073709551616 = y at gy hyw
        ((conv => whnf); repeat ((first | refine And.intro (rfl : (_ : Nat) = _) ?_ | refine And.intro (rfl : (_ : Bool) = true) ?_ | refine And.intro (Nat.le_of_ble_eq_true rfl) ?_ | refine And.intro ⟨Nat.le_of_ble_eq_true rfl, rfl, rfl⟩ ?_); conv => whnf))
        try rw [hji]
        refine ifB_mk (inB_nat (by omega)) ?_
        ((conv => whnf); repeat ((first | refine And.intro (rfl : (_ : Nat) = _) ?_ | refine And.intro (rfl : (_ : Bool) = true) ?_ | refine And.intro (Nat.le_of_ble_eq_true rfl) ?_ | refine And.intro ⟨Nat.le_of_ble_eq_true rfl, rfl, rfl⟩ ?_); conv => whnf))
        refine ifB_mk (ble_ws (by omega)) ?_
        rw [load_ws gy]
        ((conv => whnf); repeat ((first | refine And.intro (rfl : (_ : Nat) = _) ?_ | refine And.intro (rfl : (_ : Bool) = true) ?_ | refine And.intro (Nat.le_of_ble_eq_true rfl) ?_ | refine And.intro ⟨Nat.le_of_ble_eq_true rfl, rfl, rfl⟩ ?_); conv => whnf))
        refine ifB_mk (inB_nat (by omega)) ?_
        ((conv => whnf); repeat ((first | refine And.intro (rfl : (_ : Nat) = _) ?_ | refine And.intro (rfl : (_ : Bool) = true) ?_ | refine And.intro (Nat.le_of_ble_eq_true rfl) ?_ | refine And.intro ⟨Nat.le_of_ble_eq_true rfl, rfl, rfl⟩ ?_); conv => whnf))
        refine ifB_mk (ble_ws (by rw [dig_len]; omega)) ?_
        rw [load_ws gb]
        ((conv => whnf); repeat ((first | refine And.intro (rfl : (_ : Nat) = _) ?_ | refine And.intro (rfl : (_ : Bool) = true) ?_ | refine And.intro (Nat.le_of_ble_eq_true rfl) ?_ | refine And.intro ⟨Nat.le_of_ble_eq_true rfl, rfl, rfl⟩ ?_); conv => whnf))
        refine CarryGoal.add hyw hbi hc fun x c' hx hc' e1 => ?_
        ((conv => whnf); repeat ((first | refine And.intro (rfl : (_ : Nat) = _) ?_ | refine And.intro (rfl : (_ : Bool) = true) ?_ | refine And.intro (Nat.le_of_ble_eq_true rfl) ?_ | refine And.intro ⟨Nat.le_of_ble_eq_true rfl, rfl, rfl⟩ ?_); conv => whnf))
        try rw [hji]
        refine ifB_mk (inB_nat (by omega)) ?_
        ((conv => whnf); repeat ((first | refine And.intro (rfl : (_ : Nat) = _) ?_ | refine And.intro (rfl : (_ : Bool) = true) ?_ | refine And.intro (Nat.le_of_ble_eq_true rfl) ?_ | refine And.intro ⟨Nat.le_of_ble_eq_true rfl, rfl, rfl⟩ ?_); conv => whnf))
        refine ifB_mk (ble_ws' (by omega)) ?_
        rw [store_ws (by omega)]
        ((conv => whnf); repeat ((first | refine And.intro (rfl : (_ : Nat) = _) ?_ | refine And.intro (rfl : (_ : Bool) = true) ?_ | refine And.intro (Nat.le_of_ble_eq_true rfl) ?_ | refine And.intro ⟨Nat.le_of_ble_eq_true rfl, rfl, rfl⟩ ?_); conv => whnf))
        refine ⟨n8 - 1, by omega, _, _, Frz.keep (fr' := [(4, .optr 51004 b4 0), (5, .int .i64 (N : Nat)), (6, .int .i64 (s : Nat)), (7, .optr 51007 b7 0), (8, .optr 51008 b8 0), (11, .int .i64 (j : Nat)), (13, u64 1), (20, u64 c'), (21, .int .i64 (i2 + 1 : Nat))]) (Fr.sub_cons rfl (Fr.sub_cons rfl (Fr.sub_cons rfl (Fr.sub_cons rfl (Fr.sub_cons rfl (Fr.sub_cons rfl (Fr.sub_cons rfl (Fr.sub_cons rfl (Fr.sub_cons (congrArg (fun z => some (AV.int .i64 z)) (i64_succ (by omega))) (Fr.sub_nil _)))))))))), i2 + 1, al4.set (j + i2) x, c', by omega, by rw [List.length_set]; exact hal4, wd_set hwa4 hx, by rw [take_set_ge]; exact htk4, hc', ?_, rfl, rfl⟩
        rw [seg_set gy (by omega), hseg4, hms, Int.pow_succ]
        have e4 : x - y = bi + c - 18446744073709551616 * c' := by omega
        rw [e4]
        have key : ∀ p Q R : Int, Q + R - p * c + p * (bi + c - 18446744073709551616 * c') = Q + (R + p * bi) - p * 18446744073709551616 * c' := by intros; grind
        exact key _ _ _
      rw [decide_eq_false hiN2]
      obtain rfl : N = i2 := by omega
      rw [Int.emod_eq_of_lt (Int.le_of_lt hM0) hMN] at hseg4
      ((conv => whnf); repeat ((first | refine And.intro (rfl : (_ : Nat) = _) ?_ | refine And.intro (rfl : (_ : Bool) = true) ?_ | refine And.intro (Nat.le_of_ble_eq_true rfl) ?_ | refine And.intro ⟨Nat.le_of_ble_eq_true rfl, rfl, rfl⟩ ?_); conv => whnf))
      try rw [hjN]
      refine ifB_mk (inB_nat (by omega)) ?_
      have gy := seg_get hwa4 (j := j) (n := N + 1) (i := N) (by omega) (by omega)
      have hyw := lo_w1 (seg al4 j (N + 1) / 18446744073709551616 ^ N)
      generalize hye : seg al4 j (N + 1) / 18446744073709551616 ^ N % 18446744073709551616 = y at gy hyw
      ((conv => whnf); repeat ((first | refine And.intro (rfl : (_ : Nat) = _) ?_ | refine And.intro (rfl : (_ : Bool) = true) ?_ | refine And.intro (Nat.le_of_ble_eq_true rfl) ?_ | refine And.intro ⟨Nat.le_of_ble_eq_true rfl, rfl, rfl⟩ ?_); conv => whnf))
      refine ifB_mk (ble_ws (by omega)) ?_
      rw [load_ws gy]
      ((conv => whnf); repeat ((first | refine And.intro (rfl : (_ : Nat) = _) ?_ | refine And.intro (rfl : (_ : Bool) = true) ?_ | refine And.intro (Nat.le_of_ble_eq_true rfl) ?_ | refine And.intro ⟨Nat.le_of_ble_eq_true rfl, rfl, rfl⟩ ?_); conv => whnf))
      refine CarryGoal.add hyw (show W1 0 by omega) hc fun x c' hx hc' e1 => ?_
      ((conv => whnf); repeat ((first | refine And.intro (rfl : (_ : Nat) = _) ?_ | refine And.intro (rfl : (_ : Bool) = true) ?_ | refine And.intro (Nat.le_of_ble_eq_true rfl) ?_ | refine And.intro ⟨Nat.le_of_ble_eq_true rfl, rfl, rfl⟩ ?_); conv => whnf))
      try rw [hjN]
      refine ifB_mk (inB_nat (by omega)) ?_
      ((conv => whnf); repeat ((first | refine And.intro (rfl : (_ : Nat) = _) ?_ | refine And.intro (rfl : (_ : Bool) = true) ?_ | refine And.intro (Nat.le_of_ble_eq_true rfl) ?_ | refine And.intro ⟨Nat.le_of_ble_eq_true rfl, rfl, rfl⟩ ?_); conv => whnf))
      refine ifB_mk (ble_ws' (by omega)) ?_
      rw [store_ws (by omega)]
      ((conv => whnf); repeat ((first | refine And.intro (rfl : (_ : Nat) = _) ?_ | refine And.intro (rfl : (_ : Bool) = true) ?_ | refine And.intro (Nat.le_of_ble_eq_true rfl) ?_ | refine And.intro ⟨Nat.le_of_ble_eq_true rfl, rfl, rfl⟩ ?_); conv => whnf))
      have hw1 : IntKind.u64.wrap (1 - c') = 1 - c' := by rw [wrap_u64]; omega
      have hneg : D3 < 0 := by
        have := hbd3.2
        rw [hseg3] at this
        omega
      refine ⟨(M - (D3 + M)).toNat, by omega, _, _, Frz.keep (fr' := [(4, .optr 51004 b4 0), (5, .int .i64 (N : Nat)), (6, .int .i64 (s : Nat)), (7, .optr 51007 b7 0), (8, .optr 51008 b8 0), (11, .int .i64 (j : Nat)), (13, u64 (1 - c'))]) (Fr.sub_cons rfl (Fr.sub_cons rfl (Fr.sub_cons rfl (Fr.sub_cons rfl (Fr.sub_cons rfl (Fr.sub_cons rfl (Fr.sub_cons (congrArg (fun z => some (AV.int .u64 z)) hw1) (Fr.sub_nil _)))))))), al4.set (j + N) x, 1 - c', D3 + M, rfl, by rw [List.length_set]; exact hal4, wd_set hwa4 hx, by rw [take_set_ge]; exact htk4, by omega, ?_, by omega, by rw [Int.add_emod_right]; exact hDmod3, rfl, rfl⟩
      rw [seg_set gy (by omega), hseg4, hseg3, Int.pow_succ]
      have e4 : x - y = c - 18446744073709551616 * c' := by omega
      rw [e4]
      have key : ∀ p : Int, D3 + p * 18446744073709551616 * 1 + M - p * c + p * (c - 18446744073709551616 * c') = D3 + M + p * 18446744073709551616 * (1 - c') := by intros; grind
      exact key _
def RemOk (P : Program) (G : Nat → AV) : Prop := ∀ {ul : List Int} {m : Int}, ul.length = 9 → Wd ul → N4 m → 0 < m → Ans P G 51 [.agg (ws ul), num m] (num (val ul % m))
end Go.Proofs.Yteknjhamekpfjaa
