/- Walks: a number's bytes. -/
import Derived.Test.YteknjhamekpfjaaModB
namespace Go.Proofs.Yteknjhamekpfjaa
open Go.Eng Go.Num
set_option maxHeartbeats 4000000
set_option maxRecDepth 10000
set_option linter.unusedVariables false
set_option linter.unusedSimpArgs false
variable {P : Program} {G : Nat → AV}

theorem leB_split {x y : Int} (h : W1 x) (k : Nat) : leB (8 + k) (x + 18446744073709551616 * y) = leB 8 x ++ leB k y := by
  have e : ∀ i, i < 8 → ∀ z : Int, z = x / 256 ^ i + 256 ^ (8 - i) * y → True := fun _ _ _ _ => trivial
  rw [show 8 + k = k + 1 + 1 + 1 + 1 + 1 + 1 + 1 + 1 from by omega]
  simp only [leB, List.cons_append, List.nil_append]
  obtain ⟨h0, h1⟩ := h
  have q1 : (x + 18446744073709551616 * y) / 256 = x / 256 + 72057594037927936 * y := by omega
  have q2 : (x + 18446744073709551616 * y) / 256 / 256 = x / 256 / 256 + 281474976710656 * y := by omega
  have q3 : (x + 18446744073709551616 * y) / 256 / 256 / 256 = x / 256 / 256 / 256 + 1099511627776 * y := by omega
  have q4 : (x + 18446744073709551616 * y) / 256 / 256 / 256 / 256 = x / 256 / 256 / 256 / 256 + 4294967296 * y := by omega
  have q5 : (x + 18446744073709551616 * y) / 256 / 256 / 256 / 256 / 256 = x / 256 / 256 / 256 / 256 / 256 + 16777216 * y := by omega
  have q6 : (x + 18446744073709551616 * y) / 256 / 256 / 256 / 256 / 256 / 256 = x / 256 / 256 / 256 / 256 / 256 / 256 + 65536 * y := by omega
  have q7 : (x + 18446744073709551616 * y) / 256 / 256 / 256 / 256 / 256 / 256 / 256 = x / 256 / 256 / 256 / 256 / 256 / 256 / 256 + 256 * y := by omega
  have q8 : (x + 18446744073709551616 * y) / 256 / 256 / 256 / 256 / 256 / 256 / 256 / 256 = y := by omega
  rw [q8, q7, q6, q5, q4, q3, q2, q1]
  have r0 : (x + 18446744073709551616 * y) % 256 = x % 256 := by omega
  have r1 : (x / 256 + 72057594037927936 * y) % 256 = x / 256 % 256 := by omega
  have r2 : (x / 256 / 256 + 281474976710656 * y) % 256 = x / 256 / 256 % 256 := by omega
  have r3 : (x / 256 / 256 / 256 + 1099511627776 * y) % 256 = x / 256 / 256 / 256 % 256 := by omega
  have r4 : (x / 256 / 256 / 256 / 256 + 4294967296 * y) % 256 = x / 256 / 256 / 256 / 256 % 256 := by omega
  have r5 : (x / 256 / 256 / 256 / 256 / 256 + 16777216 * y) % 256 = x / 256 / 256 / 256 / 256 / 256 % 256 := by omega
  have r6 : (x / 256 / 256 / 256 / 256 / 256 / 256 + 65536 * y) % 256 = x / 256 / 256 / 256 / 256 / 256 / 256 % 256 := by omega
  have r7 : (x / 256 / 256 / 256 / 256 / 256 / 256 / 256 + 256 * y) % 256 = x / 256 / 256 / 256 / 256 / 256 / 256 / 256 % 256 := by omega
  rw [r0, r1, r2, r3, r4, r5, r6, r7]
theorem byte_at {x : Int} (h : W1 x) (k : Nat) (hk : 8 * k ≤ 64) : AV.int .u8 (IntKind.u8.wrap (shr .u64 x ((8 * k : Nat) : Int))) = u8 (UInt8.ofNat (x / 256 ^ k % 256).toNat) := by
  rw [shr_nn (k := .u64) (8 * k) hk, byte_wrap (div_w1 (8 * k) h).1, show (2 : Int) ^ (8 * k) = 256 ^ k from by rw [Int.pow_mul]; rfl]
theorem le8 {x : Int} (h : W1 x) : (leB 8 x).map (fun c => u8 c) = [.int .u8 (IntKind.u8.wrap (shr .u64 x 0)), .int .u8 (IntKind.u8.wrap (shr .u64 x 8)), .int .u8 (IntKind.u8.wrap (shr .u64 x 16)), .int .u8 (IntKind.u8.wrap (shr .u64 x 24)),
    .int .u8 (IntKind.u8.wrap (shr .u64 x 32)), .int .u8 (IntKind.u8.wrap (shr .u64 x 40)), .int .u8 (IntKind.u8.wrap (shr .u64 x 48)), .int .u8 (IntKind.u8.wrap (shr .u64 x 56))] := by
  have e := fun k hk => byte_at h k hk
  have e0 := e 0 (by omega)
  have e1 := e 1 (by omega)
  have e2 := e 2 (by omega)
  have e3 := e 3 (by omega)
  have e4 := e 4 (by omega)
  have e5 := e 5 (by omega)
  have e6 := e 6 (by omega)
  have e7 := e 7 (by omega)
  have d : ∀ k : Nat, x / 256 ^ (k + 1) = x / 256 ^ k / 256 := fun k => by rw [Int.pow_succ, Int.ediv_ediv_of_nonneg (Int.le_of_lt (Int.pow_pos (by omega)))]
  simp only [d, Int.pow_zero, Int.ediv_one] at e0 e1 e2 e3 e4 e5 e6 e7
  have i0 : ((8 * 0 : Nat) : Int) = 0 := rfl
  have i1 : ((8 * 1 : Nat) : Int) = 8 := rfl
  have i2 : ((8 * 2 : Nat) : Int) = 16 := rfl
  have i3 : ((8 * 3 : Nat) : Int) = 24 := rfl
  have i4 : ((8 * 4 : Nat) : Int) = 32 := rfl
  have i5 : ((8 * 5 : Nat) : Int) = 40 := rfl
  have i6 : ((8 * 6 : Nat) : Int) = 48 := rfl
  have i7 : ((8 * 7 : Nat) : Int) = 56 := rfl
  rw [i0] at e0
  rw [i1] at e1
  rw [i2] at e2
  rw [i3] at e3
  rw [i4] at e4
  rw [i5] at e5
  rw [i6] at e6
  rw [i7] at e7
  simp only [leB, List.map_cons, List.map_nil]
  rw [e0, e1, e2, e3, e4, e5, e6, e7]
theorem le32 {x0 x1 x2 x3 : Int} (h0 : W1 x0) (h1 : W1 x1) (h2 : W1 x2) (h3 : W1 x3) : (leB 32 (x0 + 18446744073709551616 * (x1 + 18446744073709551616 * (x2 + 18446744073709551616 * x3)))).map (fun c => u8 c) = [.int .u8 (IntKind.u8.wrap (shr .u64 x0 0)), .int .u8 (IntKind.u8.wrap (shr .u64 x0 8)), .int .u8 (IntKind.u8.wrap (shr .u64 x0 16)), .int .u8 (IntKind.u8.wrap (shr .u64 x0 24)), .int .u8 (IntKind.u8.wrap (shr .u64 x0 32)), .int .u8 (IntKind.u8.wrap (shr .u64 x0 40)), .int .u8 (IntKind.u8.wrap (shr .u64 x0 48)), .int .u8 (IntKind.u8.wrap (shr .u64 x0 56)), .int .u8 (IntKind.u8.wrap (shr .u64 x1 0)), .int .u8 (IntKind.u8.wrap (shr .u64 x1 8)), .int .u8 (IntKind.u8.wrap (shr .u64 x1 16)), .int .u8 (IntKind.u8.wrap (shr .u64 x1 24)), .int .u8 (IntKind.u8.wrap (shr .u64 x1 32)), .int .u8 (IntKind.u8.wrap (shr .u64 x1 40)), .int .u8 (IntKind.u8.wrap (shr .u64 x1 48)), .int .u8 (IntKind.u8.wrap (shr .u64 x1 56)), .int .u8 (IntKind.u8.wrap (shr .u64 x2 0)), .int .u8 (IntKind.u8.wrap (shr .u64 x2 8)), .int .u8 (IntKind.u8.wrap (shr .u64 x2 16)), .int .u8 (IntKind.u8.wrap (shr .u64 x2 24)), .int .u8 (IntKind.u8.wrap (shr .u64 x2 32)), .int .u8 (IntKind.u8.wrap (shr .u64 x2 40)), .int .u8 (IntKind.u8.wrap (shr .u64 x2 48)), .int .u8 (IntKind.u8.wrap (shr .u64 x2 56)), .int .u8 (IntKind.u8.wrap (shr .u64 x3 0)), .int .u8 (IntKind.u8.wrap (shr .u64 x3 8)), .int .u8 (IntKind.u8.wrap (shr .u64 x3 16)), .int .u8 (IntKind.u8.wrap (shr .u64 x3 24)), .int .u8 (IntKind.u8.wrap (shr .u64 x3 32)), .int .u8 (IntKind.u8.wrap (shr .u64 x3 40)), .int .u8 (IntKind.u8.wrap (shr .u64 x3 48)), .int .u8 (IntKind.u8.wrap (shr .u64 x3 56))] := by
  rw [show (32 : Nat) = 8 + (8 + (8 + 8)) from rfl, leB_split h0, leB_split h1, leB_split h2]
  simp only [List.map_append]
  rw [le8 h0, le8 h1, le8 h2, le8 h3]
  rfl
/-- The bytes of a number as an array, the highest first. -/
abbrev arrB (n : Int) : AV := .agg ((leB 32 n).reverse.map fun c => u8 c)
abbrev arrL (n : Int) : AV := .agg ((leB 32 n).map fun c => u8 c)

theorem leB_snoc : ∀ (k : Nat) (n : Int), leB (k + 1) n = leB k n ++ [UInt8.ofNat (n / 256 ^ k % 256).toNat]
  | 0, n => by simp [leB]
  | k + 1, n => by
    rw [leB, leB_snoc k, leB, Int.pow_succ, Int.mul_comm, Int.ediv_ediv_of_nonneg (by omega)]; rfl
theorem set_mid {A B : List AV} {x y : AV} {i : Nat} (h : A.length = i) : (A ++ x :: B).take i ++ [y] ++ (A ++ x :: B).drop (i + 1) = A ++ y :: B := by
  subst h
  rw [List.take_left, show A.length + 1 = (A ++ [x]).length from by simp, show A ++ x :: B = (A ++ [x]) ++ B from by simp, List.drop_left]
  simp
/-- The n lowest bytes stand; the others are nothing. -/
def zc (N : Int) (n : Nat) : List AV := List.replicate (32 - n) (.int .u8 0) ++ (leB n N).reverse.map fun c => u8 c
theorem zc_len (N : Int) {n : Nat} (h : n ≤ 32) : (zc N n).length = 32 := by simp [zc, leB_len]; omega
theorem zc_next (N : Int) {n : Nat} (h : n < 32) : (zc N n).take (31 - n) ++ [u8 (UInt8.ofNat (N / 256 ^ n % 256).toNat)] ++ (zc N n).drop (31 - n + 1) = zc N (n + 1) := by
  have e : zc N n = List.replicate (31 - n) (.int .u8 0) ++ .int .u8 0 :: (leB n N).reverse.map fun c => u8 c := by
    rw [zc, show 32 - n = (31 - n) + 1 from by omega, List.replicate_succ', List.append_assoc]; rfl
  rw [e, set_mid (by simp), zc, leB_snoc, show 32 - (n + 1) = 31 - n from by omega]
  simp
theorem word_byte {N : Int} {i k : Nat} (hk : k < 8) (hN : 0 ≤ N) : N / 18446744073709551616 ^ i % 18446744073709551616 / 256 ^ k % 256 = N / 256 ^ (8 * i + k) % 256 := by
  rw [Int.pow_add, Int.pow_mul, show (256 : Int) ^ 8 = 18446744073709551616 from by decide, ← Int.ediv_ediv_of_nonneg (Int.le_of_lt (B_pow i))]
  have : 0 ≤ N / 18446744073709551616 ^ i := Int.ediv_nonneg hN (Int.le_of_lt (B_pow i))
  generalize N / 18446744073709551616 ^ i = y at *
  match k, hk with
  | 0, _ => omega
  | 1, _ => omega
  | 2, _ => omega
  | 3, _ => omega
  | 4, _ => omega
  | 5, _ => omega
  | 6, _ => omega
  | 7, _ => omega
theorem part_ws {l : List Int} {i : Nat} {x : Int} (h : l[i]? = some x) : partAV false 1 (ws l) i = u64 x := by
  simp [partAV, List.getD, h]
theorem dig_get : ∀ (k : Nat) (n : Int) (i : Nat), i < k → (dig k n)[i]? = some (n / 18446744073709551616 ^ i % 18446744073709551616)
  | 0, n, i, h => by omega
  | k + 1, n, 0, h => by simp [dig]
  | k + 1, n, i + 1, h => by
    simp only [dig, List.getElem?_cons_succ]
    rw [dig_get k _ i (by omega), Int.pow_succ, Int.mul_comm (18446744073709551616 ^ i), Int.ediv_ediv_of_nonneg (by omega)]
theorem ws_len (l : List Int) : (ws l).length = l.length := List.length_map _
theorem i64_succ {i : Nat} (h : i < 1000000) : IntKind.i64.wrap ((i : Int) + 1) = ((i + 1 : Nat) : Int) := by rw [wr64 (by omega) (by omega)]; omega
theorem lss_nat {i : Nat} {n : Int} (m : Nat) (hn : n = m) : lssB (i : Int) n = decide (i < m) := by subst hn; rw [lssB_eq]; simp
theorem z32_len : (List.replicate 32 (AV.int .u8 0)).length = 32 := by simp

def BytI (N : Int) (t2 t3 i : Nat) (n : Nat) (fr : Fr) (st : St) : Prop :=
  ∃ k : Nat, k + n = 8 ∧ fr = [(2, .optr 66002 t2 0), (3, .optr 66003 t3 0), (4, .int .i64 i), (5, u64 (N / 18446744073709551616 ^ i % 18446744073709551616)), (7, num N), (8, .int .i64 i), (12, .int .i64 k)] ∧
    st = [.obj 66002 t2 (List.replicate 32 (.int .u8 0)), .obj 66003 t3 (zc N (8 * i + k))]
def BytO (N : Int) (t2 t3 : Nat) (n : Nat) (fr : Fr) (st : St) : Prop :=
  ∃ i : Nat, i + n = 4 ∧ fr = [(2, .optr 66002 t2 0), (3, .optr 66003 t3 0), (7, num N), (8, .int .i64 i)] ∧
    st = [.obj 66002 t2 (List.replicate 32 (.int .u8 0)), .obj 66003 t3 (zc N (8 * i))]

theorem bytes_vc {N : Int} (hn : N4 N) : vc P G c66 (Ret [.cell 2 32 true] (arrB N)) (argFr 0 [num N]) [] := by
  conv => whnf
  intro t2 t3
  conv => whnf
  refine LoopGoal.inv (BytO N t2 t3) 4 (Frz.keep (fr' := [(2, .optr 66002 t2 0), (3, .optr 66003 t3 0), (7, num N), (8, .int .i64 (0 : Nat))]) (Fr.sub_cons rfl (Fr.sub_cons rfl (Fr.sub_cons rfl (Fr.sub_cons rfl (Fr.sub_nil _)))))) ⟨0, rfl, rfl, rfl⟩ ?_
  rintro n fr st ⟨i, hi, rfl, rfl⟩
  conv => whnf
  rw [lss_nat (n := 4) 4 rfl]
  by_cases h4 : i < 4
  · rw [decide_eq_true h4]
    ((conv => whnf); repeat ((first | refine And.intro (rfl : (_ : Nat) = _) ?_ | refine And.intro (rfl : (_ : Bool) = true) ?_ | refine And.intro (Nat.le_of_ble_eq_true rfl) ?_ | refine And.intro ⟨Nat.le_of_ble_eq_true rfl, rfl, rfl⟩ ?_); conv => whnf))
    refine ifB_mk ?_ ?_
    · rw [Bool.and_eq_true]
      exact ⟨inB_true (by omega) (by omega), Nat.ble_eq_true_of_le (by rw [ws_len, dig_len]; simp; omega)⟩
    rw [part_ws (show (dig 4 N)[(i : Int).toNat * 1]? = some (N / 18446744073709551616 ^ i % 18446744073709551616) from by rw [show (i : Int).toNat * 1 = i from by simp]; exact dig_get 4 N i h4)]
    ((conv => whnf); repeat ((first | refine And.intro (rfl : (_ : Nat) = _) ?_ | refine And.intro (rfl : (_ : Bool) = true) ?_ | refine And.intro (Nat.le_of_ble_eq_true rfl) ?_ | refine And.intro ⟨Nat.le_of_ble_eq_true rfl, rfl, rfl⟩ ?_); conv => whnf))
    refine LoopGoal.inv (BytI N t2 t3 i) 8 (Frz.keep (fr' := [(2, .optr 66002 t2 0), (3, .optr 66003 t3 0), (4, .int .i64 i), (5, u64 (N / 18446744073709551616 ^ i % 18446744073709551616)), (7, num N), (8, .int .i64 i), (12, .int .i64 (0 : Nat))]) (Fr.sub_cons rfl (Fr.sub_cons rfl (Fr.sub_cons rfl (Fr.sub_cons rfl (Fr.sub_cons rfl (Fr.sub_cons rfl (Fr.sub_cons rfl (Fr.sub_nil _))))))))) ⟨0, rfl, rfl, rfl⟩ ?_
    rintro m fr st ⟨k, hk, rfl, rfl⟩
    conv => whnf
    rw [lss_nat (n := 8) 8 rfl]
    by_cases h8 : k < 8
    · rw [decide_eq_true h8]
      have e1 : IntKind.i64.wrap (8 * (k : Int)) = ((8 * k : Nat) : Int) := by rw [wr64 (by omega) (by omega)]; omega
      have e2 : IntKind.i64.wrap (IntKind.i64.wrap (31 - IntKind.i64.wrap (8 * (i : Int))) - (k : Int)) = ((31 - (8 * i + k) : Nat) : Int) := by
        rw [wr64 (n := 8 * (i : Int)) (by omega) (by omega), wr64 (n := 31 - 8 * (i : Int)) (by omega) (by omega), wr64 (by omega) (by omega)]; omega
      ((conv => whnf); repeat ((first | refine And.intro (rfl : (_ : Nat) = _) ?_ | refine And.intro (rfl : (_ : Bool) = true) ?_ | refine And.intro (Nat.le_of_ble_eq_true rfl) ?_ | refine And.intro ⟨Nat.le_of_ble_eq_true rfl, rfl, rfl⟩ ?_); conv => whnf))
      rw [e1]
      ((conv => whnf); repeat ((first | refine And.intro (rfl : (_ : Nat) = _) ?_ | refine And.intro (rfl : (_ : Bool) = true) ?_ | refine And.intro (Nat.le_of_ble_eq_true rfl) ?_ | refine And.intro ⟨Nat.le_of_ble_eq_true rfl, rfl, rfl⟩ ?_); conv => whnf))
      rw [e2]
      refine ifB_mk (inB_true (by omega) (by omega)) ?_
      ((conv => whnf); repeat ((first | refine And.intro (rfl : (_ : Nat) = _) ?_ | refine And.intro (rfl : (_ : Bool) = true) ?_ | refine And.intro (Nat.le_of_ble_eq_true rfl) ?_ | refine And.intro ⟨Nat.le_of_ble_eq_true rfl, rfl, rfl⟩ ?_); conv => whnf))
      have hlen := zc_len N (n := 8 * i + k) (by omega)
      refine ifB_mk ?_ ?_
      · rw [Bool.and_eq_true, Bool.and_eq_true]
        exact ⟨⟨Nat.ble_eq_true_of_le (by rw [hlen]; simp <;> omega), rfl⟩, rfl⟩
      ((conv => whnf); repeat ((first | refine And.intro (rfl : (_ : Nat) = _) ?_ | refine And.intro (rfl : (_ : Bool) = true) ?_ | refine And.intro (Nat.le_of_ble_eq_true rfl) ?_ | refine And.intro ⟨Nat.le_of_ble_eq_true rfl, rfl, rfl⟩ ?_); conv => whnf))
      refine ⟨m - 1, by omega, _, _, Frz.keep (fr' := [(2, .optr 66002 t2 0), (3, .optr 66003 t3 0), (4, .int .i64 i), (5, u64 (N / 18446744073709551616 ^ i % 18446744073709551616)), (7, num N), (8, .int .i64 i), (12, .int .i64 (k + 1 : Nat))]) (Fr.sub_cons rfl (Fr.sub_cons rfl (Fr.sub_cons rfl (Fr.sub_cons rfl (Fr.sub_cons rfl (Fr.sub_cons rfl (Fr.sub_cons (congrArg (fun z => some (AV.int .i64 z)) (i64_succ (by omega))) (Fr.sub_nil _)))))))), k + 1, by omega, rfl, ?_⟩
      have hb : W1 (N / 18446744073709551616 ^ i % 18446744073709551616) := by omega
      have hz := zc_next N (n := 8 * i + k) (by omega)
      rw [← word_byte (by omega) hn.1, ← byte_at hb k (by omega)] at hz
      rw [Nat.add_assoc] at hz
      rw [← hz]
      show [Seg.obj _ _ _, Seg.obj _ _ (List.take (0 + (((31 - (8 * i + k) : Nat) : Int).toNat * 1)) (zc N (8 * i + k)) ++ [AV.int .u8 (IntKind.u8.wrap (shr .u64 (N / 18446744073709551616 ^ i % 18446744073709551616) ((8 * k : Nat) : Int)))] ++ List.drop (0 + (((31 - (8 * i + k) : Nat) : Int).toNat * 1) + 1) (zc N (8 * i + k)))] = _
      rw [show 0 + (((31 - (8 * i + k) : Nat) : Int).toNat * 1) = 31 - (8 * i + k) from by simp]
    · rw [decide_eq_false h8]
      ((conv => whnf); repeat ((first | refine And.intro (rfl : (_ : Nat) = _) ?_ | refine And.intro (rfl : (_ : Bool) = true) ?_ | refine And.intro (Nat.le_of_ble_eq_true rfl) ?_ | refine And.intro ⟨Nat.le_of_ble_eq_true rfl, rfl, rfl⟩ ?_); conv => whnf))
      obtain rfl : k = 8 := by omega
      refine ⟨n - 1, by omega, _, _, Frz.keep (fr' := [(2, .optr 66002 t2 0), (3, .optr 66003 t3 0), (7, num N), (8, .int .i64 (i + 1 : Nat))]) (Fr.sub_cons rfl (Fr.sub_cons rfl (Fr.sub_cons rfl (Fr.sub_cons (congrArg (fun z => some (AV.int .i64 z)) (i64_succ (by omega))) (Fr.sub_nil _))))), i + 1, by omega, rfl, ?_⟩
      rfl
  · rw [decide_eq_false h4]
    obtain rfl : i = 4 := by omega
    ((conv => whnf); repeat ((first | refine And.intro (rfl : (_ : Nat) = _) ?_ | refine And.intro (rfl : (_ : Bool) = true) ?_ | refine And.intro (Nat.le_of_ble_eq_true rfl) ?_ | refine And.intro ⟨Nat.le_of_ble_eq_true rfl, rfl, rfl⟩ ?_); conv => whnf))
    refine ⟨.inl rfl, .drop ?_⟩
    ((conv => whnf); repeat ((first | refine And.intro (rfl : (_ : Nat) = _) ?_ | refine And.intro (rfl : (_ : Bool) = true) ?_ | refine And.intro (Nat.le_of_ble_eq_true rfl) ?_ | refine And.intro ⟨Nat.le_of_ble_eq_true rfl, rfl, rfl⟩ ?_); conv => whnf))
    refine ⟨?_, rfl⟩
    show AV.agg (List.take 32 (List.drop 0 (List.take 0 (List.replicate 32 (AV.int .u8 0)) ++ (List.take 32 (List.drop 0 (zc N (8 * 4)))) ++ List.drop (0 + 32) (List.replicate 32 (AV.int .u8 0))))) = _
    refine congrArg AV.agg ?_
    rw [List.drop_zero, List.drop_zero, List.take_zero, List.nil_append, List.take_of_length_le (l := zc N _) (by rw [zc_len N (by omega)]; omega), List.drop_of_length_le (by simp), List.append_nil, List.take_of_length_le (by rw [zc_len N (by omega)]; omega)]
    simp [zc]
def BytesOk (P : Program) (G : Nat → AV) : Prop := ∀ {n : Int}, N4 n → Ans P G 66 [num n] (arrB n)
end Go.Proofs.Yteknjhamekpfjaa
