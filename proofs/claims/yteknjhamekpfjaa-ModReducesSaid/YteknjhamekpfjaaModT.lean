/- Walks: the reference's powers, inverses, bytes by a modulus. -/
import Derived.Test.YteknjhamekpfjaaModS
namespace Go.Proofs.Yteknjhamekpfjaa
open Go.Eng Go.Num
set_option maxHeartbeats 4000000
set_option maxRecDepth 10000
set_option linter.unusedVariables false
set_option linter.unusedSimpArgs false
variable {P : Program} {G : Nat → AV}

theorem limb_bit {n : Int} {i : Nat} (hn : N4 n) (hi : i < 256) : ∃ x, (dig 4 n)[i / 64]? = some x ∧ W1 x ∧ n / 2 ^ i % 2 = x / 2 ^ (i % 64) % 2 := by
  obtain ⟨x0, x1, x2, x3, ee, k0, k1, k2, k3, v⟩ := fourN hn
  rw [ee]
  have : i / 64 = 0 ∨ i / 64 = 1 ∨ i / 64 = 2 ∨ i / 64 = 3 := by omega
  rcases this with q | q | q | q
  · have wb := word_bit (n := n) (j := 0) (r := i % 64) (by omega) k0 k1 k2 k3 v (by omega)
    rw [show 64 * 0 + i % 64 = i from by omega] at wb
    exact ⟨x0, by rw [q]; rfl, k0, wb⟩
  · have wb := word_bit (n := n) (j := 1) (r := i % 64) (by omega) k0 k1 k2 k3 v (by omega)
    rw [show 64 * 1 + i % 64 = i from by omega] at wb
    exact ⟨x1, by rw [q]; rfl, k1, wb⟩
  · have wb := word_bit (n := n) (j := 2) (r := i % 64) (by omega) k0 k1 k2 k3 v (by omega)
    rw [show 64 * 2 + i % 64 = i from by omega] at wb
    exact ⟨x2, by rw [q]; rfl, k2, wb⟩
  · have wb := word_bit (n := n) (j := 3) (r := i % 64) (by omega) k0 k1 k2 k3 v (by omega)
    rw [show 64 * 3 + i % 64 = i from by omega] at wb
    exact ⟨x3, by rw [q]; rfl, k3, wb⟩
def RPowI (m a : Int) (e b6 b7 b8 : Nat) (n : Nat) (fr : Fr) (st : St) : Prop :=
  ∃ i : Nat, i + n = 256 ∧ fr = [(4, .ptr (ws (dig 4 (e : Int)))), (5, .ptr (ws (dig 4 m))), (6, .optr 21006 b6 0), (7, .optr 21007 b7 0), (8, .optr 21008 b8 0), (9, .int .i64 (i : Nat))] ∧
    st = [.obj 21006 b6 [u64 0, u64 0, u64 0, u64 0], .obj 21007 b7 (ws (dig 4 (a ^ (e % 2 ^ i) % m))), .obj 21008 b8 (ws (dig 4 (a ^ (2 ^ i) % m)))]
theorem pow_bits (e i : Nat) : e % 2 ^ (i + 1) = e % 2 ^ i + 2 ^ i * (e / 2 ^ i % 2) := by
  rw [Nat.pow_succ, Nat.mod_mul]
theorem refpow_vc {a m : Int} {e : Nat} (hL : RefLowOk P G) (hM : RefMulOk P G) (ha : N4 a) (he : N4 (e : Int)) (hm : N4 m) (h0 : 0 < m) : vc P G c21 (Ret [.cell 6 4 true] (num (a ^ e % m))) (argFr 0 [num a, num e, num m]) [] := by
  have c1 := hL (a := 1) one_n4 hm h0
  rw [← num_small (x := 1) (by omega)] at c1
  conv => whnf
  intro b6
  ((conv => whnf); repeat ((first | refine And.intro (rfl : (_ : Nat) = _) ?_ | refine And.intro (rfl : (_ : Bool) = true) ?_ | refine And.intro (Nat.le_of_ble_eq_true rfl) ?_ | refine And.intro ⟨Nat.le_of_ble_eq_true rfl, rfl, rfl⟩ ?_); conv => whnf))
  first | refine CallGoal.pure (c1) ?_ | refine PCallGoal.pure (c1) ?_
  ((conv => whnf); repeat ((first | refine And.intro (rfl : (_ : Nat) = _) ?_ | refine And.intro (rfl : (_ : Bool) = true) ?_ | refine And.intro (Nat.le_of_ble_eq_true rfl) ?_ | refine And.intro ⟨Nat.le_of_ble_eq_true rfl, rfl, rfl⟩ ?_); conv => whnf))
  intro b7
  ((conv => whnf); repeat ((first | refine And.intro (rfl : (_ : Nat) = _) ?_ | refine And.intro (rfl : (_ : Bool) = true) ?_ | refine And.intro (Nat.le_of_ble_eq_true rfl) ?_ | refine And.intro ⟨Nat.le_of_ble_eq_true rfl, rfl, rfl⟩ ?_); conv => whnf))
  first | refine CallGoal.pure (hL ha hm h0) ?_ | refine PCallGoal.pure (hL ha hm h0) ?_
  ((conv => whnf); repeat ((first | refine And.intro (rfl : (_ : Nat) = _) ?_ | refine And.intro (rfl : (_ : Bool) = true) ?_ | refine And.intro (Nat.le_of_ble_eq_true rfl) ?_ | refine And.intro ⟨Nat.le_of_ble_eq_true rfl, rfl, rfl⟩ ?_); conv => whnf))
  intro b8
  ((conv => whnf); repeat ((first | refine And.intro (rfl : (_ : Nat) = _) ?_ | refine And.intro (rfl : (_ : Bool) = true) ?_ | refine And.intro (Nat.le_of_ble_eq_true rfl) ?_ | refine And.intro ⟨Nat.le_of_ble_eq_true rfl, rfl, rfl⟩ ?_); conv => whnf))
  refine LoopGoal.inv (RPowI m a e b6 b7 b8) 256 (Frz.keep (fr' := [(4, .ptr (ws (dig 4 (e : Int)))), (5, .ptr (ws (dig 4 m))), (6, .optr 21006 b6 0), (7, .optr 21007 b7 0), (8, .optr 21008 b8 0), (9, .int .i64 (0 : Nat))])
    (Fr.sub_cons rfl (Fr.sub_cons rfl (Fr.sub_cons rfl (Fr.sub_cons rfl (Fr.sub_cons rfl (Fr.sub_cons rfl (Fr.sub_nil _)))))))) ⟨0, rfl, rfl, ?_⟩ ?_
  · rw [Nat.pow_zero, Nat.mod_one, Int.pow_zero, Int.pow_one]; rfl
  rintro n fr st ⟨i, hi, rfl, rfl⟩
  conv => whnf
  rw [lss_nat (n := 256) 256 rfl]
  by_cases h256 : i < 256
  · rw [decide_eq_true h256]
    have hq : IntKind.i64.wrap (Int.tdiv (i : Int) 64) = ((i / 64 : Nat) : Int) := by
      rw [Int.tdiv_eq_ediv_of_nonneg (by omega), wr64 (by omega) (by omega)]; omega
    have hr : Int.tmod (i : Int) 64 = ((i % 64 : Nat) : Int) := by rw [Int.tmod_eq_emod_of_nonneg (by omega)]; omega
    obtain ⟨x, hx, hxw, hxb⟩ := limb_bit he h256
    have hbit : ((e : Int) / 2 ^ i % 2) = ((e / 2 ^ i % 2 : Nat) : Int) := by simp
    have hbl : e / 2 ^ i % 2 = 0 ∨ e / 2 ^ i % 2 = 1 := by omega
    have hX := n4_mod (a := a ^ (e % 2 ^ i)) hm h0
    have hY := n4_mod (a := a ^ (2 ^ i)) hm h0
    have m1 := hM hX hY hm h0
    have m2 := hM hY hY hm h0
    rw [mul_mod_l, mul_mod_r, ← Int.pow_add] at m1 m2
    rw [show 2 ^ i + 2 ^ i = 2 ^ (i + 1) from by rw [Nat.pow_succ]; omega] at m2
    ((conv => whnf); repeat ((first | refine And.intro (rfl : (_ : Nat) = _) ?_ | refine And.intro (rfl : (_ : Bool) = true) ?_ | refine And.intro (Nat.le_of_ble_eq_true rfl) ?_ | refine And.intro ⟨Nat.le_of_ble_eq_true rfl, rfl, rfl⟩ ?_); conv => whnf))
    rw [hq]
    refine ifB_mk (inB_nat (by omega)) ?_
    ((conv => whnf); repeat ((first | refine And.intro (rfl : (_ : Nat) = _) ?_ | refine And.intro (rfl : (_ : Bool) = true) ?_ | refine And.intro (Nat.le_of_ble_eq_true rfl) ?_ | refine And.intro ⟨Nat.le_of_ble_eq_true rfl, rfl, rfl⟩ ?_); conv => whnf))
    refine ifB_mk (pble_ws (by rw [dig_len]; omega)) ?_
    rw [pload_ws hx]
    ((conv => whnf); repeat ((first | refine And.intro (rfl : (_ : Nat) = _) ?_ | refine And.intro (rfl : (_ : Bool) = true) ?_ | refine And.intro (Nat.le_of_ble_eq_true rfl) ?_ | refine And.intro ⟨Nat.le_of_ble_eq_true rfl, rfl, rfl⟩ ?_); conv => whnf))
    rw [hr]
    ((conv => whnf); repeat ((first | refine And.intro (rfl : (_ : Nat) = _) ?_ | refine And.intro (rfl : (_ : Bool) = true) ?_ | refine And.intro (Nat.le_of_ble_eq_true rfl) ?_ | refine And.intro ⟨Nat.le_of_ble_eq_true rfl, rfl, rfl⟩ ?_); conv => whnf))
    have hv : Int.tmod (shr .u64 x ((i % 64 : Nat) : Int)) 2 = ((e / 2 ^ i % 2 : Nat) : Int) := by
      rw [shr_nn (k := .u64) (i % 64) (by show i % 64 ≤ 64; omega), Int.tmod_eq_emod_of_nonneg (div_w1 _ hxw).1, ← hxb, hbit]
    rw [hv]
    rcases hbl with q | q
    · rw [q, show (((0 : Nat) : Int) == 1) = false from by decide]
      ((conv => whnf); repeat ((first | refine And.intro (rfl : (_ : Nat) = _) ?_ | refine And.intro (rfl : (_ : Bool) = true) ?_ | refine And.intro (Nat.le_of_ble_eq_true rfl) ?_ | refine And.intro ⟨Nat.le_of_ble_eq_true rfl, rfl, rfl⟩ ?_); conv => whnf))
      first | refine CallGoal.pure (m2) ?_ | refine PCallGoal.pure (m2) ?_
      ((conv => whnf); repeat ((first | refine And.intro (rfl : (_ : Nat) = _) ?_ | refine And.intro (rfl : (_ : Bool) = true) ?_ | refine And.intro (Nat.le_of_ble_eq_true rfl) ?_ | refine And.intro ⟨Nat.le_of_ble_eq_true rfl, rfl, rfl⟩ ?_); conv => whnf))
      refine ⟨n - 1, by omega, _, _, Frz.keep (fr' := [(4, .ptr (ws (dig 4 (e : Int)))), (5, .ptr (ws (dig 4 m))), (6, .optr 21006 b6 0), (7, .optr 21007 b7 0), (8, .optr 21008 b8 0), (9, .int .i64 (i + 1 : Nat))])
        (Fr.sub_cons rfl (Fr.sub_cons rfl (Fr.sub_cons rfl (Fr.sub_cons rfl (Fr.sub_cons rfl (Fr.sub_cons (congrArg (fun z => some (AV.int .i64 z)) (i64_succ (by omega))) (Fr.sub_nil _))))))), i + 1, by omega, rfl, ?_⟩
      rw [pow_bits, q, Nat.mul_zero, Nat.add_zero]
      rfl
    · rw [q, show (((1 : Nat) : Int) == 1) = true from by decide]
      ((conv => whnf); repeat ((first | refine And.intro (rfl : (_ : Nat) = _) ?_ | refine And.intro (rfl : (_ : Bool) = true) ?_ | refine And.intro (Nat.le_of_ble_eq_true rfl) ?_ | refine And.intro ⟨Nat.le_of_ble_eq_true rfl, rfl, rfl⟩ ?_); conv => whnf))
      first | refine CallGoal.pure (m1) ?_ | refine PCallGoal.pure (m1) ?_
      ((conv => whnf); repeat ((first | refine And.intro (rfl : (_ : Nat) = _) ?_ | refine And.intro (rfl : (_ : Bool) = true) ?_ | refine And.intro (Nat.le_of_ble_eq_true rfl) ?_ | refine And.intro ⟨Nat.le_of_ble_eq_true rfl, rfl, rfl⟩ ?_); conv => whnf))
      first | refine CallGoal.pure (m2) ?_ | refine PCallGoal.pure (m2) ?_
      ((conv => whnf); repeat ((first | refine And.intro (rfl : (_ : Nat) = _) ?_ | refine And.intro (rfl : (_ : Bool) = true) ?_ | refine And.intro (Nat.le_of_ble_eq_true rfl) ?_ | refine And.intro ⟨Nat.le_of_ble_eq_true rfl, rfl, rfl⟩ ?_); conv => whnf))
      refine ⟨n - 1, by omega, _, _, Frz.keep (fr' := [(4, .ptr (ws (dig 4 (e : Int)))), (5, .ptr (ws (dig 4 m))), (6, .optr 21006 b6 0), (7, .optr 21007 b7 0), (8, .optr 21008 b8 0), (9, .int .i64 (i + 1 : Nat))])
        (Fr.sub_cons rfl (Fr.sub_cons rfl (Fr.sub_cons rfl (Fr.sub_cons rfl (Fr.sub_cons rfl (Fr.sub_cons (congrArg (fun z => some (AV.int .i64 z)) (i64_succ (by omega))) (Fr.sub_nil _))))))), i + 1, by omega, rfl, ?_⟩
      rw [pow_bits, q, Nat.mul_one]
      rfl
  · rw [decide_eq_false h256]
    obtain rfl : i = 256 := by omega
    rw [Nat.mod_eq_of_lt (show e < 2 ^ 256 by have := he.2; rw [B4] at this; omega)]
    ((conv => whnf); repeat ((first | refine And.intro (rfl : (_ : Nat) = _) ?_ | refine And.intro (rfl : (_ : Bool) = true) ?_ | refine And.intro (Nat.le_of_ble_eq_true rfl) ?_ | refine And.intro ⟨Nat.le_of_ble_eq_true rfl, rfl, rfl⟩ ?_); conv => whnf))
    refine ⟨.inl rfl, .drop ?_⟩
    ((conv => whnf); repeat ((first | refine And.intro (rfl : (_ : Nat) = _) ?_ | refine And.intro (rfl : (_ : Bool) = true) ?_ | refine And.intro (Nat.le_of_ble_eq_true rfl) ?_ | refine And.intro ⟨Nat.le_of_ble_eq_true rfl, rfl, rfl⟩ ?_); conv => whnf))
    refine ⟨?_, rfl⟩
    rfl
def RefPowOk (P : Program) (G : Nat → AV) : Prop := ∀ {a m : Int} {e : Nat}, N4 a → N4 (e : Int) → N4 m → 0 < m → Ans P G 21 [num a, num e, num m] (num (a ^ e % m))

theorem refinv_vc {a m : Int} (hS : RefLessOk P G) (hW : RefPowOk P G) (ha : N4 a) (hm : N4 m) (h2 : 2 ≤ m) : vc P G c23 (Ret [.cell 4 4 true] (num (a ^ (m - 2).toNat % m))) (argFr 0 [num a, num m]) [] := by
  have c1 := hS (b := 2) hm (small_n4 (by decide) (by decide)) h2
  rw [← num_small (x := 2) (by omega)] at c1
  have c2 := hW (e := (m - 2).toNat) ha ⟨by omega, by have := hm.2; omega⟩ hm (by omega)
  rw [show (((m - 2).toNat : Nat) : Int) = m - 2 from by omega] at c2
  conv => whnf
  intro t4
  ((conv => whnf); repeat ((first | refine And.intro (rfl : (_ : Nat) = _) ?_ | refine And.intro (rfl : (_ : Bool) = true) ?_ | refine And.intro (Nat.le_of_ble_eq_true rfl) ?_ | refine And.intro ⟨Nat.le_of_ble_eq_true rfl, rfl, rfl⟩ ?_); conv => whnf))
  first | refine CallGoal.pure (c1) ?_ | refine PCallGoal.pure (c1) ?_
  ((conv => whnf); repeat ((first | refine And.intro (rfl : (_ : Nat) = _) ?_ | refine And.intro (rfl : (_ : Bool) = true) ?_ | refine And.intro (Nat.le_of_ble_eq_true rfl) ?_ | refine And.intro ⟨Nat.le_of_ble_eq_true rfl, rfl, rfl⟩ ?_); conv => whnf))
  first | refine CallGoal.pure (c2) ?_ | refine PCallGoal.pure (c2) ?_
  ((conv => whnf); repeat ((first | refine And.intro (rfl : (_ : Nat) = _) ?_ | refine And.intro (rfl : (_ : Bool) = true) ?_ | refine And.intro (Nat.le_of_ble_eq_true rfl) ?_ | refine And.intro ⟨Nat.le_of_ble_eq_true rfl, rfl, rfl⟩ ?_); conv => whnf))
  refine ⟨.inl rfl, .drop ?_⟩
  ((conv => whnf); repeat ((first | refine And.intro (rfl : (_ : Nat) = _) ?_ | refine And.intro (rfl : (_ : Bool) = true) ?_ | refine And.intro (Nat.le_of_ble_eq_true rfl) ?_ | refine And.intro ⟨Nat.le_of_ble_eq_true rfl, rfl, rfl⟩ ?_); conv => whnf))
  refine ⟨?_, rfl⟩
  rfl
def RefInvOk (P : Program) (G : Nat → AV) : Prop := ∀ {a m : Int}, N4 a → N4 m → 2 ≤ m → Ans P G 23 [num a, num m] (num (a ^ (m - 2).toNat % m))

theorem sh56 {x : Int} : shr .u64 x 56 = x / 72057594037927936 := shr_nn (k := .u64) 56 (by decide)
theorem sl8 {x : Int} : shl .u64 x 8 = x * 256 % 18446744073709551616 := shl_nn 8 (by decide)
def RRedI (m : Int) (app : App) (l : List UInt8) (b4 b5 : Nat) (n : Nat) (fr : Fr) (st : St) : Prop :=
  ∃ i : Nat, i + n = l.length ∧ fr = [(0, bs app l), (3, .ptr (ws (dig 4 m))), (4, .optr 31004 b4 0), (5, .optr 31005 b5 0), (6, .int .i64 (i : Nat))] ∧
    st = [.obj 31004 b4 [u64 0, u64 0, u64 0, u64 0], .obj 31005 b5 (ws (dig 4 (beV (l.take i) % m)))]
theorem refred_vc {m : Int} {app : App} {l : List UInt8} (hR : RemOk P G) (hm : N4 m) (h0 : 0 < m) (hl : l.length < 1000000) : vc P G c31 (Ret [.cell 4 4 true] (num (beV l % m))) (argFr 0 [bs app l, num m]) [] := by
  conv => whnf
  intro b4 b5
  conv => whnf
  refine LoopGoal.inv (RRedI m app l b4 b5) l.length (Frz.keep (fr' := [(0, bs app l), (3, .ptr (ws (dig 4 m))), (4, .optr 31004 b4 0), (5, .optr 31005 b5 0), (6, .int .i64 (0 : Nat))])
    (Fr.sub_cons rfl (Fr.sub_cons rfl (Fr.sub_cons rfl (Fr.sub_cons rfl (Fr.sub_cons rfl (Fr.sub_nil _))))))) ⟨0, by omega, rfl, ?_⟩ ?_
  · rw [List.take_zero, show beV [] % m = 0 from by simp [beV], num_zero]; rfl
  rintro n fr st ⟨i, hi, rfl, rfl⟩
  have hL : ((List.map b8 l).length : Int) = (l.length : Nat) := by simp
  conv => whnf
  rw [hL, lss_nat (n := (l.length : Int)) l.length rfl]
  by_cases hil : i < l.length
  · rw [decide_eq_true hil]
    obtain ⟨c, hc⟩ : ∃ c, l[i]? = some c := ⟨_, List.getElem?_eq_getElem hil⟩
    have hcl := c.toNat_lt
    have hr4 := n4_mod (a := beV (l.take i)) hm h0
    have hnext : (beV (l.take i) % m * 256 + (c.toNat : Int)) % m = beV (l.take (i + 1)) % m := by
      rw [show l.take (i + 1) = l.take i ++ [c] from by rw [List.take_add_one, hc]; rfl, beV_snoc, Int.add_emod, mul_mod_l, ← Int.add_emod, Int.mul_comm]
    generalize beV (l.take i) % m = r at *
    obtain ⟨x0, x1, x2, x3, er, k0, k1, k2, k3, v⟩ := fourN hr4
    have hw : Wd [x0 * 256 % 18446744073709551616 + c.toNat, x1 * 256 % 18446744073709551616 + x0 / 72057594037927936, x2 * 256 % 18446744073709551616 + x1 / 72057594037927936, x3 * 256 % 18446744073709551616 + x2 / 72057594037927936, x3 / 72057594037927936, 0, 0, 0, 0] :=
      .mk (by omega) (.mk (by omega) (.mk (by omega) (.mk (by omega) (.mk (by omega) (.mk (by omega) (.mk (by omega) (.mk (by omega) (.mk (by omega) .nil))))))))
    have hr := hR rfl hw hm h0
    rw [show val [x0 * 256 % 18446744073709551616 + c.toNat, x1 * 256 % 18446744073709551616 + x0 / 72057594037927936, x2 * 256 % 18446744073709551616 + x1 / 72057594037927936, x3 * 256 % 18446744073709551616 + x2 / 72057594037927936, x3 / 72057594037927936, 0, 0, 0, 0] = r * 256 + c.toNat from by simp only [val]; omega, hnext] at hr
    rw [er]
    ((conv => whnf); repeat ((first | refine And.intro (rfl : (_ : Nat) = _) ?_ | refine And.intro (rfl : (_ : Bool) = true) ?_ | refine And.intro (Nat.le_of_ble_eq_true rfl) ?_ | refine And.intro ⟨Nat.le_of_ble_eq_true rfl, rfl, rfl⟩ ?_); conv => whnf))
    refine IdxGoal.b8n hc ?_
    ((conv => whnf); repeat ((first | refine And.intro (rfl : (_ : Nat) = _) ?_ | refine And.intro (rfl : (_ : Bool) = true) ?_ | refine And.intro (Nat.le_of_ble_eq_true rfl) ?_ | refine And.intro ⟨Nat.le_of_ble_eq_true rfl, rfl, rfl⟩ ?_); conv => whnf))
    rw [sl8, sl8, sl8, sl8, sh56, sh56, sh56, sh56, wrap_u64, wrap_u64, wrap_u64, wrap_u64, wrap_u64]
    rw [show ((c.toNat : Int) % 18446744073709551616) = c.toNat from by omega]
    rw [show (x0 * 256 % 18446744073709551616 + (c.toNat : Int)) % 18446744073709551616 = x0 * 256 % 18446744073709551616 + c.toNat from by omega, show (x1 * 256 % 18446744073709551616 + x0 / 72057594037927936) % 18446744073709551616 = x1 * 256 % 18446744073709551616 + x0 / 72057594037927936 from by omega,
      show (x2 * 256 % 18446744073709551616 + x1 / 72057594037927936) % 18446744073709551616 = x2 * 256 % 18446744073709551616 + x1 / 72057594037927936 from by omega, show (x3 * 256 % 18446744073709551616 + x2 / 72057594037927936) % 18446744073709551616 = x3 * 256 % 18446744073709551616 + x2 / 72057594037927936 from by omega]
    first | refine CallGoal.pure (hr) ?_ | refine PCallGoal.pure (hr) ?_
    ((conv => whnf); repeat ((first | refine And.intro (rfl : (_ : Nat) = _) ?_ | refine And.intro (rfl : (_ : Bool) = true) ?_ | refine And.intro (Nat.le_of_ble_eq_true rfl) ?_ | refine And.intro ⟨Nat.le_of_ble_eq_true rfl, rfl, rfl⟩ ?_); conv => whnf))
    refine ⟨n - 1, by omega, _, _, Frz.keep (fr' := [(0, bs app l), (3, .ptr (ws (dig 4 m))), (4, .optr 31004 b4 0), (5, .optr 31005 b5 0), (6, .int .i64 (i + 1 : Nat))])
      (Fr.sub_cons rfl (Fr.sub_cons rfl (Fr.sub_cons rfl (Fr.sub_cons rfl (Fr.sub_cons (congrArg (fun z => some (AV.int .i64 z)) (i64_succ (by omega))) (Fr.sub_nil _)))))), i + 1, by omega, rfl, rfl⟩
  · rw [decide_eq_false hil]
    obtain rfl : i = l.length := by omega
    rw [List.take_length]
    ((conv => whnf); repeat ((first | refine And.intro (rfl : (_ : Nat) = _) ?_ | refine And.intro (rfl : (_ : Bool) = true) ?_ | refine And.intro (Nat.le_of_ble_eq_true rfl) ?_ | refine And.intro ⟨Nat.le_of_ble_eq_true rfl, rfl, rfl⟩ ?_); conv => whnf))
    refine ⟨.inl rfl, .drop ?_⟩
    ((conv => whnf); repeat ((first | refine And.intro (rfl : (_ : Nat) = _) ?_ | refine And.intro (rfl : (_ : Bool) = true) ?_ | refine And.intro (Nat.le_of_ble_eq_true rfl) ?_ | refine And.intro ⟨Nat.le_of_ble_eq_true rfl, rfl, rfl⟩ ?_); conv => whnf))
    refine ⟨?_, rfl⟩
    rfl
def RefRedOk (P : Program) (G : Nat → AV) : Prop := ∀ {m : Int} {app : App} {l : List UInt8}, N4 m → 0 < m → l.length < 1000000 → Ans P G 31 [bs app l, num m] (num (beV l % m))
end Go.Proofs.Yteknjhamekpfjaa
