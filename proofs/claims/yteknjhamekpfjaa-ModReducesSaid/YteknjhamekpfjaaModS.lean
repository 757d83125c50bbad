/- Walks: the reference's sums, differences, products, powers. -/
import Derived.Test.YteknjhamekpfjaaModQ
import Derived.Test.YteknjhamekpfjaaModJ
namespace Go.Proofs.Yteknjhamekpfjaa
open Go.Eng Go.Num
set_option maxHeartbeats 4000000
set_option maxRecDepth 10000
set_option linter.unusedVariables false
set_option linter.unusedSimpArgs false
variable {P : Program} {G : Nat → AV}

theorem refless_vc {a b : Int} (ha : N4 a) (hb : N4 b) (hle : b ≤ a) : vc P G c50 (Ret [.cell 4 4 true] (num (a - b))) (argFr 0 [num a, num b]) [] := by
  obtain ⟨a0, a1, a2, a3, ea, h0, h1, h2, h3, va⟩ := fourN ha
  obtain ⟨b0, b1, b2, b3, eb, k0, k1, k2, k3, vb⟩ := fourN hb
  rw [num_dig a, num_dig b, ea, eb]
  conv => whnf
  intro t2 t4
  conv => whnf
  refine LoopGoal.rounds P G 5 ?_
  ((conv => whnf); repeat ((first | refine And.intro (rfl : (_ : Nat) = _) ?_ | refine And.intro (rfl : (_ : Bool) = true) ?_ | refine And.intro (Nat.le_of_ble_eq_true rfl) ?_ | refine And.intro ⟨Nat.le_of_ble_eq_true rfl, rfl, rfl⟩ ?_); conv => whnf))
  refine CarryGoal.sub h0 k0 z01 fun x0 d0 l0 m0 e0 => ?_
  ((conv => whnf); repeat ((first | refine And.intro (rfl : (_ : Nat) = _) ?_ | refine And.intro (rfl : (_ : Bool) = true) ?_ | refine And.intro (Nat.le_of_ble_eq_true rfl) ?_ | refine And.intro ⟨Nat.le_of_ble_eq_true rfl, rfl, rfl⟩ ?_); conv => whnf))
  refine CarryGoal.sub h1 k1 m0 fun x1 d1 l1 m1 e1 => ?_
  ((conv => whnf); repeat ((first | refine And.intro (rfl : (_ : Nat) = _) ?_ | refine And.intro (rfl : (_ : Bool) = true) ?_ | refine And.intro (Nat.le_of_ble_eq_true rfl) ?_ | refine And.intro ⟨Nat.le_of_ble_eq_true rfl, rfl, rfl⟩ ?_); conv => whnf))
  refine CarryGoal.sub h2 k2 m1 fun x2 d2 l2 m2 e2 => ?_
  ((conv => whnf); repeat ((first | refine And.intro (rfl : (_ : Nat) = _) ?_ | refine And.intro (rfl : (_ : Bool) = true) ?_ | refine And.intro (Nat.le_of_ble_eq_true rfl) ?_ | refine And.intro ⟨Nat.le_of_ble_eq_true rfl, rfl, rfl⟩ ?_); conv => whnf))
  refine CarryGoal.sub h3 k3 m2 fun x3 d3 l3 m3 e3 => ?_
  ((conv => whnf); repeat ((first | refine And.intro (rfl : (_ : Nat) = _) ?_ | refine And.intro (rfl : (_ : Bool) = true) ?_ | refine And.intro (Nat.le_of_ble_eq_true rfl) ?_ | refine And.intro ⟨Nat.le_of_ble_eq_true rfl, rfl, rfl⟩ ?_); conv => whnf))
  refine ⟨.inl rfl, .drop ?_⟩
  ((conv => whnf); repeat ((first | refine And.intro (rfl : (_ : Nat) = _) ?_ | refine And.intro (rfl : (_ : Bool) = true) ?_ | refine And.intro (Nat.le_of_ble_eq_true rfl) ?_ | refine And.intro ⟨Nat.le_of_ble_eq_true rfl, rfl, rfl⟩ ?_); conv => whnf))
  refine ⟨?_, rfl⟩
  obtain ⟨r1, r2⟩ := sub4 va vb l0 l1 l2 l3 e0 e1 e2 e3 m3 ha hb
  have : a - b = (a - b) % 18446744073709551616 ^ 4 := by obtain ⟨q1, q2⟩ := ha; obtain ⟨q3, q4⟩ := hb; rw [B4] at *; omega
  rw [num_dig (a - b), this, r1]
  rfl
def RefLessOk (P : Program) (G : Nat → AV) : Prop := ∀ {a b : Int}, N4 a → N4 b → b ≤ a → Ans P G 50 [num a, num b] (num (a - b))

theorem low9 {a : Int} (ha : N4 a) : ∃ ul : List Int, ul.length = 9 ∧ Wd ul ∧ val ul = a ∧ ul = dig 4 a ++ [0, 0, 0, 0, 0] := by
  refine ⟨_, rfl, ?_, ?_, rfl⟩
  · intro y hy
    rcases List.mem_append.1 hy with q | q
    · exact dig_wd 4 a y q
    · simp at q; subst q; omega
  · rw [val_append, val_dig 4 a ha.1 ha.2]; simp [val]
theorem reflow_vc {a m : Int} (hR : RemOk P G) (ha : N4 a) (hm : N4 m) (h0 : 0 < m) : vc P G c25 (Ret [.cell 4 4 true] (num (a % m))) (argFr 0 [num a, num m]) [] := by
  obtain ⟨ul, h1, h2, h3, h4⟩ := low9 ha
  have hr := hR h1 h2 hm h0
  rw [h3, h4] at hr
  conv => whnf
  intro t4
  ((conv => whnf); repeat ((first | refine And.intro (rfl : (_ : Nat) = _) ?_ | refine And.intro (rfl : (_ : Bool) = true) ?_ | refine And.intro (Nat.le_of_ble_eq_true rfl) ?_ | refine And.intro ⟨Nat.le_of_ble_eq_true rfl, rfl, rfl⟩ ?_); conv => whnf))
  first | refine CallGoal.pure (hr) ?_ | refine PCallGoal.pure (hr) ?_
  ((conv => whnf); repeat ((first | refine And.intro (rfl : (_ : Nat) = _) ?_ | refine And.intro (rfl : (_ : Bool) = true) ?_ | refine And.intro (Nat.le_of_ble_eq_true rfl) ?_ | refine And.intro ⟨Nat.le_of_ble_eq_true rfl, rfl, rfl⟩ ?_); conv => whnf))
  refine ⟨.inl rfl, .drop ?_⟩
  ((conv => whnf); repeat ((first | refine And.intro (rfl : (_ : Nat) = _) ?_ | refine And.intro (rfl : (_ : Bool) = true) ?_ | refine And.intro (Nat.le_of_ble_eq_true rfl) ?_ | refine And.intro ⟨Nat.le_of_ble_eq_true rfl, rfl, rfl⟩ ?_); conv => whnf))
  refine ⟨?_, rfl⟩
  rfl
def RefLowOk (P : Program) (G : Nat → AV) : Prop := ∀ {a m : Int}, N4 a → N4 m → 0 < m → Ans P G 25 [num a, num m] (num (a % m))

theorem refadd_vc {a b m : Int} (hR : RemOk P G) (ha : N4 a) (hb : N4 b) (hm : N4 m) (h0m : 0 < m) : vc P G c27 (Ret [.cell 6 4 true] (num ((a + b) % m))) (argFr 0 [num a, num b, num m]) [] := by
  obtain ⟨a0, a1, a2, a3, ea, h0, h1, h2, h3, va⟩ := fourN ha
  obtain ⟨b0, b1, b2, b3, eb, k0, k1, k2, k3, vb⟩ := fourN hb
  rw [num_dig a, num_dig b, ea, eb]
  conv => whnf
  intro t6 t7
  conv => whnf
  refine LoopGoal.rounds P G 5 ?_
  ((conv => whnf); repeat ((first | refine And.intro (rfl : (_ : Nat) = _) ?_ | refine And.intro (rfl : (_ : Bool) = true) ?_ | refine And.intro (Nat.le_of_ble_eq_true rfl) ?_ | refine And.intro ⟨Nat.le_of_ble_eq_true rfl, rfl, rfl⟩ ?_); conv => whnf))
  refine CarryGoal.add h0 k0 z01 fun x0 d0 l0 m0 e0 => ?_
  ((conv => whnf); repeat ((first | refine And.intro (rfl : (_ : Nat) = _) ?_ | refine And.intro (rfl : (_ : Bool) = true) ?_ | refine And.intro (Nat.le_of_ble_eq_true rfl) ?_ | refine And.intro ⟨Nat.le_of_ble_eq_true rfl, rfl, rfl⟩ ?_); conv => whnf))
  refine CarryGoal.add h1 k1 m0 fun x1 d1 l1 m1 e1 => ?_
  ((conv => whnf); repeat ((first | refine And.intro (rfl : (_ : Nat) = _) ?_ | refine And.intro (rfl : (_ : Bool) = true) ?_ | refine And.intro (Nat.le_of_ble_eq_true rfl) ?_ | refine And.intro ⟨Nat.le_of_ble_eq_true rfl, rfl, rfl⟩ ?_); conv => whnf))
  refine CarryGoal.add h2 k2 m1 fun x2 d2 l2 m2 e2 => ?_
  ((conv => whnf); repeat ((first | refine And.intro (rfl : (_ : Nat) = _) ?_ | refine And.intro (rfl : (_ : Bool) = true) ?_ | refine And.intro (Nat.le_of_ble_eq_true rfl) ?_ | refine And.intro ⟨Nat.le_of_ble_eq_true rfl, rfl, rfl⟩ ?_); conv => whnf))
  refine CarryGoal.add h3 k3 m2 fun x3 d3 l3 m3 e3 => ?_
  ((conv => whnf); repeat ((first | refine And.intro (rfl : (_ : Nat) = _) ?_ | refine And.intro (rfl : (_ : Bool) = true) ?_ | refine And.intro (Nat.le_of_ble_eq_true rfl) ?_ | refine And.intro ⟨Nat.le_of_ble_eq_true rfl, rfl, rfl⟩ ?_); conv => whnf))
  have hw : Wd [x0, x1, x2, x3, d3, 0, 0, 0, 0] := .mk l0 (.mk l1 (.mk l2 (.mk l3 (.mk (by omega) (.mk (by omega) (.mk (by omega) (.mk (by omega) (.mk (by omega) .nil))))))))
  have hr := hR rfl hw hm h0m
  rw [show val [x0, x1, x2, x3, d3, 0, 0, 0, 0] = a + b from by simp only [val]; omega] at hr
  first | refine CallGoal.pure (hr) ?_ | refine PCallGoal.pure (hr) ?_
  ((conv => whnf); repeat ((first | refine And.intro (rfl : (_ : Nat) = _) ?_ | refine And.intro (rfl : (_ : Bool) = true) ?_ | refine And.intro (Nat.le_of_ble_eq_true rfl) ?_ | refine And.intro ⟨Nat.le_of_ble_eq_true rfl, rfl, rfl⟩ ?_); conv => whnf))
  refine ⟨.inl rfl, .drop ?_⟩
  ((conv => whnf); repeat ((first | refine And.intro (rfl : (_ : Nat) = _) ?_ | refine And.intro (rfl : (_ : Bool) = true) ?_ | refine And.intro (Nat.le_of_ble_eq_true rfl) ?_ | refine And.intro ⟨Nat.le_of_ble_eq_true rfl, rfl, rfl⟩ ?_); conv => whnf))
  refine ⟨?_, rfl⟩
  rfl
def RefAddOk (P : Program) (G : Nat → AV) : Prop := ∀ {a b m : Int}, N4 a → N4 b → N4 m → 0 < m → Ans P G 27 [num a, num b, num m] (num ((a + b) % m))

theorem n4_mod {m a : Int} (hm : N4 m) (h0 : 0 < m) : N4 (a % m) := by
  have := Int.emod_nonneg a (b := m) (by omega)
  have := Int.emod_lt_of_pos a h0
  exact ⟨by omega, by have := hm.2; omega⟩
theorem refneg_vc {a m : Int} (hL : RefLowOk P G) (hS : RefLessOk P G) (ha : N4 a) (hm : N4 m) (h0 : 0 < m) : vc P G c53 (Ret [.cell 4 4 true] (num ((-a) % m))) (argFr 0 [num a, num m]) [] := by
  have hn := n4_mod (a := a) hm h0
  have hlt := Int.emod_lt_of_pos a h0
  have e : (-a) % m = (-(a % m)) % m := by
    have := Int.mul_ediv_add_emod a m
    refine emod_eq (-(a / m)) ?_
    rw [Int.mul_neg]; omega
  conv => whnf
  intro t4
  ((conv => whnf); repeat ((first | refine And.intro (rfl : (_ : Nat) = _) ?_ | refine And.intro (rfl : (_ : Bool) = true) ?_ | refine And.intro (Nat.le_of_ble_eq_true rfl) ?_ | refine And.intro ⟨Nat.le_of_ble_eq_true rfl, rfl, rfl⟩ ?_); conv => whnf))
  first | refine CallGoal.pure (hL ha hm h0) ?_ | refine PCallGoal.pure (hL ha hm h0) ?_
  ((conv => whnf); repeat ((first | refine And.intro (rfl : (_ : Nat) = _) ?_ | refine And.intro (rfl : (_ : Bool) = true) ?_ | refine And.intro (Nat.le_of_ble_eq_true rfl) ?_ | refine And.intro ⟨Nat.le_of_ble_eq_true rfl, rfl, rfl⟩ ?_); conv => whnf))
  intro t5
  ((conv => whnf); repeat ((first | refine And.intro (rfl : (_ : Nat) = _) ?_ | refine And.intro (rfl : (_ : Bool) = true) ?_ | refine And.intro (Nat.le_of_ble_eq_true rfl) ?_ | refine And.intro ⟨Nat.le_of_ble_eq_true rfl, rfl, rfl⟩ ?_); conv => whnf))
  rw [e]
  generalize a % m = x at *
  refine EqGoal.num (a := x) (b := 0) hn (small_n4 (by decide) (by decide)) ?_
  by_cases hz : x = 0
  · rw [decide_eq_true hz]
    ((conv => whnf); repeat ((first | refine And.intro (rfl : (_ : Nat) = _) ?_ | refine And.intro (rfl : (_ : Bool) = true) ?_ | refine And.intro (Nat.le_of_ble_eq_true rfl) ?_ | refine And.intro ⟨Nat.le_of_ble_eq_true rfl, rfl, rfl⟩ ?_); conv => whnf))
    refine ⟨.inl rfl, .drop ?_⟩
    ((conv => whnf); repeat ((first | refine And.intro (rfl : (_ : Nat) = _) ?_ | refine And.intro (rfl : (_ : Bool) = true) ?_ | refine And.intro (Nat.le_of_ble_eq_true rfl) ?_ | refine And.intro ⟨Nat.le_of_ble_eq_true rfl, rfl, rfl⟩ ?_); conv => whnf))
    refine ⟨?_, rfl⟩
    subst hz
    rw [Int.neg_zero, Int.zero_emod]; rfl
  · rw [decide_eq_false hz]
    ((conv => whnf); repeat ((first | refine And.intro (rfl : (_ : Nat) = _) ?_ | refine And.intro (rfl : (_ : Bool) = true) ?_ | refine And.intro (Nat.le_of_ble_eq_true rfl) ?_ | refine And.intro ⟨Nat.le_of_ble_eq_true rfl, rfl, rfl⟩ ?_); conv => whnf))
    first | refine CallGoal.pure (hS hm hn (by omega)) ?_ | refine PCallGoal.pure (hS hm hn (by omega)) ?_
    ((conv => whnf); repeat ((first | refine And.intro (rfl : (_ : Nat) = _) ?_ | refine And.intro (rfl : (_ : Bool) = true) ?_ | refine And.intro (Nat.le_of_ble_eq_true rfl) ?_ | refine And.intro ⟨Nat.le_of_ble_eq_true rfl, rfl, rfl⟩ ?_); conv => whnf))
    refine ⟨.inl rfl, .drop ?_⟩
    ((conv => whnf); repeat ((first | refine And.intro (rfl : (_ : Nat) = _) ?_ | refine And.intro (rfl : (_ : Bool) = true) ?_ | refine And.intro (Nat.le_of_ble_eq_true rfl) ?_ | refine And.intro ⟨Nat.le_of_ble_eq_true rfl, rfl, rfl⟩ ?_); conv => whnf))
    refine ⟨?_, rfl⟩
    rw [show (-x) % m = m - x from emod_of (q := -1) (by omega) (by omega) (by have := hn.1; omega)]
    rfl
def RefNegOk (P : Program) (G : Nat → AV) : Prop := ∀ {a m : Int}, N4 a → N4 m → 0 < m → Ans P G 53 [num a, num m] (num ((-a) % m))

theorem refsub_vc {a b m : Int} (hL : RefLowOk P G) (hN : RefNegOk P G) (hA : RefAddOk P G) (ha : N4 a) (hb : N4 b) (hm : N4 m) (h0 : 0 < m) : vc P G c28 (Ret [.cell 6 4 true] (num ((a - b) % m))) (argFr 0 [num a, num b, num m]) [] := by
  conv => whnf
  intro t6
  ((conv => whnf); repeat ((first | refine And.intro (rfl : (_ : Nat) = _) ?_ | refine And.intro (rfl : (_ : Bool) = true) ?_ | refine And.intro (Nat.le_of_ble_eq_true rfl) ?_ | refine And.intro ⟨Nat.le_of_ble_eq_true rfl, rfl, rfl⟩ ?_); conv => whnf))
  first | refine CallGoal.pure (hL ha hm h0) ?_ | refine PCallGoal.pure (hL ha hm h0) ?_
  ((conv => whnf); repeat ((first | refine And.intro (rfl : (_ : Nat) = _) ?_ | refine And.intro (rfl : (_ : Bool) = true) ?_ | refine And.intro (Nat.le_of_ble_eq_true rfl) ?_ | refine And.intro ⟨Nat.le_of_ble_eq_true rfl, rfl, rfl⟩ ?_); conv => whnf))
  first | refine CallGoal.pure (hN hb hm h0) ?_ | refine PCallGoal.pure (hN hb hm h0) ?_
  ((conv => whnf); repeat ((first | refine And.intro (rfl : (_ : Nat) = _) ?_ | refine And.intro (rfl : (_ : Bool) = true) ?_ | refine And.intro (Nat.le_of_ble_eq_true rfl) ?_ | refine And.intro ⟨Nat.le_of_ble_eq_true rfl, rfl, rfl⟩ ?_); conv => whnf))
  first | refine CallGoal.pure (hA (n4_mod hm h0) (n4_mod hm h0) hm h0) ?_ | refine PCallGoal.pure (hA (n4_mod hm h0) (n4_mod hm h0) hm h0) ?_
  ((conv => whnf); repeat ((first | refine And.intro (rfl : (_ : Nat) = _) ?_ | refine And.intro (rfl : (_ : Bool) = true) ?_ | refine And.intro (Nat.le_of_ble_eq_true rfl) ?_ | refine And.intro ⟨Nat.le_of_ble_eq_true rfl, rfl, rfl⟩ ?_); conv => whnf))
  refine ⟨.inl rfl, .drop ?_⟩
  ((conv => whnf); repeat ((first | refine And.intro (rfl : (_ : Nat) = _) ?_ | refine And.intro (rfl : (_ : Bool) = true) ?_ | refine And.intro (Nat.le_of_ble_eq_true rfl) ?_ | refine And.intro ⟨Nat.le_of_ble_eq_true rfl, rfl, rfl⟩ ?_); conv => whnf))
  refine ⟨?_, rfl⟩
  rw [Int.emod_add_emod, Int.add_emod_emod, ← Int.sub_eq_add_neg]
  rfl
def RefSubOk (P : Program) (G : Nat → AV) : Prop := ∀ {a b m : Int}, N4 a → N4 b → N4 m → 0 < m → Ans P G 28 [num a, num b, num m] (num ((a - b) % m))

/-! ### The product -/
theorem prod_round {t c p d1 e1 x y : Int} (hp : 0 ≤ p ∧ p ≤ 340282366920938463426481119284349108225) (ht : W1 t) (hc : W1 c) (hx : W1 x) (hy : W1 y) (hd : 0 ≤ d1 ∧ d1 ≤ 1) (he : 0 ≤ e1 ∧ e1 ≤ 1) (q1 : p % 18446744073709551616 + t + 0 = x + 18446744073709551616 * d1) (q2 : x + c + 0 = y + 18446744073709551616 * e1) :
    IntKind.u64.wrap (IntKind.u64.wrap (p / 18446744073709551616 + d1) + e1) = p / 18446744073709551616 + d1 + e1 ∧ W1 (p / 18446744073709551616 + d1 + e1) ∧ y + 18446744073709551616 * (p / 18446744073709551616 + d1 + e1) = p + t + c := by
  rw [wrap_u64, wrap_u64]
  omega
def RMulO (a b m : Int) (b6 b7 : Nat) (n : Nat) (fr : Fr) (st : St) : Prop :=
  ∃ i : Nat, i + n = 4 ∧ fr = [(3, .ptr (ws (dig 4 a))), (4, .ptr (ws (dig 4 b))), (5, .ptr (ws (dig 4 m))), (6, .optr 29006 b6 0), (7, .optr 29007 b7 0), (8, .int .i64 (i : Nat))] ∧
    st = [.obj 29006 b6 [u64 0, u64 0, u64 0, u64 0], .obj 29007 b7 (ws (dig 9 (a % 18446744073709551616 ^ i * b)))]
def RMulI (a b m ai X : Int) (i b6 b7 : Nat) (n : Nat) (fr : Fr) (st : St) : Prop :=
  ∃ (k : Nat) (ol : List Int) (c : Int), k + n = 4 ∧ ol.length = 9 ∧ Wd ol ∧ W1 c ∧ ol[i + 4]? = some 0 ∧ val ol + 18446744073709551616 ^ (i + k) * c = X + 18446744073709551616 ^ i * (ai * (b % 18446744073709551616 ^ k)) ∧
    fr = [(3, .ptr (ws (dig 4 a))), (4, .ptr (ws (dig 4 b))), (5, .ptr (ws (dig 4 m))), (6, .optr 29006 b6 0), (7, .optr 29007 b7 0), (8, .int .i64 (i : Nat)), (9, u64 c), (10, .int .i64 (k : Nat))] ∧
    st = [.obj 29006 b6 [u64 0, u64 0, u64 0, u64 0], .obj 29007 b7 (ws ol)]
theorem refmul_vc {a b m : Int} (hM : Mul64Ok P G) (hR : RemOk P G) (ha : N4 a) (hb : N4 b) (hm : N4 m) (h0m : 0 < m) : vc P G c29 (Ret [.cell 6 4 true] (num (a * b % m))) (argFr 0 [num a, num b, num m]) [] := by
  conv => whnf
  intro b6 b7
  conv => whnf
  refine LoopGoal.inv (RMulO a b m b6 b7) 4 (Frz.keep (fr' := [(3, .ptr (ws (dig 4 a))), (4, .ptr (ws (dig 4 b))), (5, .ptr (ws (dig 4 m))), (6, .optr 29006 b6 0), (7, .optr 29007 b7 0), (8, .int .i64 (0 : Nat))])
    (Fr.sub_cons rfl (Fr.sub_cons rfl (Fr.sub_cons rfl (Fr.sub_cons rfl (Fr.sub_cons rfl (Fr.sub_cons rfl (Fr.sub_nil _)))))))) ⟨0, rfl, rfl, ?_⟩ ?_
  · rw [Int.pow_zero, Int.emod_one, Int.zero_mul]; rfl
  rintro n fr st ⟨i, hi, rfl, rfl⟩
  conv => whnf
  rw [lss_nat (n := 4) 4 rfl]
  by_cases h4 : i < 4
  · rw [decide_eq_true h4]
    have ga := dig_get 4 a i h4
    have hai := lo_w1 (a / 18446744073709551616 ^ i)
    have hms := mod_succ a i
    have hX0 : 0 ≤ a % 18446744073709551616 ^ i * b := Int.mul_nonneg (Int.emod_nonneg a (Int.ne_of_gt (B_pow i))) hb.1
    have hXl : a % 18446744073709551616 ^ i * b < 18446744073709551616 ^ (i + 4) := by
      have h1 := Int.emod_lt_of_pos a (B_pow i)
      have h2 := Int.mul_lt_mul_of_pos_left hb.2 (B_pow i)
      have h3 := Int.mul_le_mul_of_nonneg_right (Int.le_of_lt h1) hb.1
      rw [Int.pow_add]; omega
    have hX9 : a % 18446744073709551616 ^ i * b < 18446744073709551616 ^ 9 := Int.lt_of_lt_of_le hXl (B_le (by omega))
    have hXn : a % 18446744073709551616 ^ (i + 1) * b = a % 18446744073709551616 ^ i * b + 18446744073709551616 ^ i * (a / 18446744073709551616 ^ i % 18446744073709551616 * b) := by rw [hms, Int.add_mul, Int.mul_assoc]
    generalize a % 18446744073709551616 ^ i * b = X at *
    generalize a / 18446744073709551616 ^ i % 18446744073709551616 = ai at *
    ((conv => whnf); repeat ((first | refine And.intro (rfl : (_ : Nat) = _) ?_ | refine And.intro (rfl : (_ : Bool) = true) ?_ | refine And.intro (Nat.le_of_ble_eq_true rfl) ?_ | refine And.intro ⟨Nat.le_of_ble_eq_true rfl, rfl, rfl⟩ ?_); conv => whnf))
    refine LoopGoal.inv (RMulI a b m ai X i b6 b7) 4 (Frz.keep (fr' := [(3, .ptr (ws (dig 4 a))), (4, .ptr (ws (dig 4 b))), (5, .ptr (ws (dig 4 m))), (6, .optr 29006 b6 0), (7, .optr 29007 b7 0), (8, .int .i64 (i : Nat)), (9, u64 0), (10, .int .i64 (0 : Nat))])
      (Fr.sub_cons rfl (Fr.sub_cons rfl (Fr.sub_cons rfl (Fr.sub_cons rfl (Fr.sub_cons rfl (Fr.sub_cons rfl (Fr.sub_cons rfl (Fr.sub_cons rfl (Fr.sub_nil _)))))))))) ⟨0, dig 9 X, 0, rfl, dig_len _ _, dig_wd _ _, by omega, ?_, ?_, rfl, rfl⟩ ?_
    · rw [dig_get 9 X (i + 4) (by omega), Int.ediv_eq_zero_of_lt hX0 hXl]; rfl
    · rw [val_dig 9 X hX0 hX9, Int.pow_zero, Int.emod_one, Int.mul_zero, Int.mul_zero, Int.mul_zero]
    rintro n2 fr st ⟨k, ol, c, hk, hl, hw, hc, hz, hv, rfl, rfl⟩
    conv => whnf
    rw [lss_nat (n := 4) 4 rfl]
    by_cases hk4 : k < 4
    · rw [decide_eq_true hk4]
      have gb := dig_get 4 b k hk4
      have hbk := lo_w1 (b / 18446744073709551616 ^ k)
      have hbs := mod_succ b k
      have gt := get_val hw (i := i + k) (by omega)
      have htw := lo_w1 (val ol / 18446744073709551616 ^ (i + k))
      generalize b / 18446744073709551616 ^ k % 18446744073709551616 = bk at *
      generalize val ol / 18446744073709551616 ^ (i + k) % 18446744073709551616 = t at *
      have hub := mul_ub hai hbk
      have hik := i64_add (i := i) (j := k) (by omega)
      ((conv => whnf); repeat ((first | refine And.intro (rfl : (_ : Nat) = _) ?_ | refine And.intro (rfl : (_ : Bool) = true) ?_ | refine And.intro (Nat.le_of_ble_eq_true rfl) ?_ | refine And.intro ⟨Nat.le_of_ble_eq_true rfl, rfl, rfl⟩ ?_); conv => whnf))
      refine ifB_mk (inB_nat (by omega)) ?_
      ((conv => whnf); repeat ((first | refine And.intro (rfl : (_ : Nat) = _) ?_ | refine And.intro (rfl : (_ : Bool) = true) ?_ | refine And.intro (Nat.le_of_ble_eq_true rfl) ?_ | refine And.intro ⟨Nat.le_of_ble_eq_true rfl, rfl, rfl⟩ ?_); conv => whnf))
      refine ifB_mk (pble_ws (by rw [dig_len]; omega)) ?_
      rw [pload_ws ga]
      ((conv => whnf); repeat ((first | refine And.intro (rfl : (_ : Nat) = _) ?_ | refine And.intro (rfl : (_ : Bool) = true) ?_ | refine And.intro (Nat.le_of_ble_eq_true rfl) ?_ | refine And.intro ⟨Nat.le_of_ble_eq_true rfl, rfl, rfl⟩ ?_); conv => whnf))
      refine ifB_mk (inB_nat (by omega)) ?_
      ((conv => whnf); repeat ((first | refine And.intro (rfl : (_ : Nat) = _) ?_ | refine And.intro (rfl : (_ : Bool) = true) ?_ | refine And.intro (Nat.le_of_ble_eq_true rfl) ?_ | refine And.intro ⟨Nat.le_of_ble_eq_true rfl, rfl, rfl⟩ ?_); conv => whnf))
      refine ifB_mk (pble_ws (by rw [dig_len]; omega)) ?_
      rw [pload_ws gb]
      ((conv => whnf); repeat ((first | refine And.intro (rfl : (_ : Nat) = _) ?_ | refine And.intro (rfl : (_ : Bool) = true) ?_ | refine And.intro (Nat.le_of_ble_eq_true rfl) ?_ | refine And.intro ⟨Nat.le_of_ble_eq_true rfl, rfl, rfl⟩ ?_); conv => whnf))
      first | refine CallGoal.pure (hM hai hbk) ?_ | refine PCallGoal.pure (hM hai hbk) ?_
      ((conv => whnf); repeat ((first | refine And.intro (rfl : (_ : Nat) = _) ?_ | refine And.intro (rfl : (_ : Bool) = true) ?_ | refine And.intro (Nat.le_of_ble_eq_true rfl) ?_ | refine And.intro ⟨Nat.le_of_ble_eq_true rfl, rfl, rfl⟩ ?_); conv => whnf))
      rw [hik]
      refine ifB_mk (inB_nat (by omega)) ?_
      ((conv => whnf); repeat ((first | refine And.intro (rfl : (_ : Nat) = _) ?_ | refine And.intro (rfl : (_ : Bool) = true) ?_ | refine And.intro (Nat.le_of_ble_eq_true rfl) ?_ | refine And.intro ⟨Nat.le_of_ble_eq_true rfl, rfl, rfl⟩ ?_); conv => whnf))
      refine ifB_mk (ble_ws (by omega)) ?_
      rw [load_ws gt]
      ((conv => whnf); repeat ((first | refine And.intro (rfl : (_ : Nat) = _) ?_ | refine And.intro (rfl : (_ : Bool) = true) ?_ | refine And.intro (Nat.le_of_ble_eq_true rfl) ?_ | refine And.intro ⟨Nat.le_of_ble_eq_true rfl, rfl, rfl⟩ ?_); conv => whnf))
      refine CarryGoal.add (lo_w1 _) htw z01 fun x d1 lx ld q1 => ?_
      ((conv => whnf); repeat ((first | refine And.intro (rfl : (_ : Nat) = _) ?_ | refine And.intro (rfl : (_ : Bool) = true) ?_ | refine And.intro (Nat.le_of_ble_eq_true rfl) ?_ | refine And.intro ⟨Nat.le_of_ble_eq_true rfl, rfl, rfl⟩ ?_); conv => whnf))
      refine CarryGoal.add lx hc z01 fun y e1 ly le q2 => ?_
      ((conv => whnf); repeat ((first | refine And.intro (rfl : (_ : Nat) = _) ?_ | refine And.intro (rfl : (_ : Bool) = true) ?_ | refine And.intro (Nat.le_of_ble_eq_true rfl) ?_ | refine And.intro ⟨Nat.le_of_ble_eq_true rfl, rfl, rfl⟩ ?_); conv => whnf))
      try rw [hik]
      refine ifB_mk (inB_nat (by omega)) ?_
      ((conv => whnf); repeat ((first | refine And.intro (rfl : (_ : Nat) = _) ?_ | refine And.intro (rfl : (_ : Bool) = true) ?_ | refine And.intro (Nat.le_of_ble_eq_true rfl) ?_ | refine And.intro ⟨Nat.le_of_ble_eq_true rfl, rfl, rfl⟩ ?_); conv => whnf))
      refine ifB_mk (ble_ws' (by omega)) ?_
      rw [store_ws (by omega)]
      ((conv => whnf); repeat ((first | refine And.intro (rfl : (_ : Nat) = _) ?_ | refine And.intro (rfl : (_ : Bool) = true) ?_ | refine And.intro (Nat.le_of_ble_eq_true rfl) ?_ | refine And.intro ⟨Nat.le_of_ble_eq_true rfl, rfl, rfl⟩ ?_); conv => whnf))
      obtain ⟨r1, r2, r3⟩ := prod_round hub htw hc lx ly ld le q1 q2
      refine ⟨n2 - 1, by omega, _, _, Frz.keep (fr' := [(3, .ptr (ws (dig 4 a))), (4, .ptr (ws (dig 4 b))), (5, .ptr (ws (dig 4 m))), (6, .optr 29006 b6 0), (7, .optr 29007 b7 0), (8, .int .i64 (i : Nat)), (9, u64 (ai * bk / 18446744073709551616 + d1 + e1)), (10, .int .i64 (k + 1 : Nat))])
        (Fr.sub_cons rfl (Fr.sub_cons rfl (Fr.sub_cons rfl (Fr.sub_cons rfl (Fr.sub_cons rfl (Fr.sub_cons rfl (Fr.sub_cons (congrArg (fun z => some (AV.int .u64 z)) r1) (Fr.sub_cons (congrArg (fun z => some (AV.int .i64 z)) (i64_succ (by omega))) (Fr.sub_nil _))))))))), k + 1, ol.set (i + k) y, _, by omega, by rw [List.length_set]; exact hl, wd_set hw ly, r2, by rw [List.getElem?_set_ne (by omega)]; exact hz, ?_, rfl, rfl⟩
      rw [val_set gt, hbs, show i + (k + 1) = (i + k) + 1 from by omega, Int.pow_succ]
      generalize ai * bk / 18446744073709551616 + d1 + e1 = c' at *
      have h1 : y = ai * bk + t + c - 18446744073709551616 * c' := by omega
      rw [h1, Int.mul_add ai, Int.mul_add (18446744073709551616 ^ i), ← Int.add_assoc, ← hv, Int.pow_add]
      generalize val ol = v
      have key : ∀ p q : Int, v + p * q * (ai * bk + t + c - 18446744073709551616 * c' - t) + p * q * 18446744073709551616 * c' = v + p * q * c + p * (ai * (q * bk)) := by intros; grind
      exact key _ _
    · rw [decide_eq_false hk4]
      obtain rfl : k = 4 := by omega
      have hi4 : IntKind.i64.wrap ((i : Int) + 4) = ((i + 4 : Nat) : Int) := by rw [wr64 (by omega) (by omega)]; omega
      ((conv => whnf); repeat ((first | refine And.intro (rfl : (_ : Nat) = _) ?_ | refine And.intro (rfl : (_ : Bool) = true) ?_ | refine And.intro (Nat.le_of_ble_eq_true rfl) ?_ | refine And.intro ⟨Nat.le_of_ble_eq_true rfl, rfl, rfl⟩ ?_); conv => whnf))
      rw [hi4]
      refine ifB_mk (inB_nat (by omega)) ?_
      ((conv => whnf); repeat ((first | refine And.intro (rfl : (_ : Nat) = _) ?_ | refine And.intro (rfl : (_ : Bool) = true) ?_ | refine And.intro (Nat.le_of_ble_eq_true rfl) ?_ | refine And.intro ⟨Nat.le_of_ble_eq_true rfl, rfl, rfl⟩ ?_); conv => whnf))
      refine ifB_mk (ble_ws' (by omega)) ?_
      rw [store_ws (by omega)]
      ((conv => whnf); repeat ((first | refine And.intro (rfl : (_ : Nat) = _) ?_ | refine And.intro (rfl : (_ : Bool) = true) ?_ | refine And.intro (Nat.le_of_ble_eq_true rfl) ?_ | refine And.intro ⟨Nat.le_of_ble_eq_true rfl, rfl, rfl⟩ ?_); conv => whnf))
      have hset : ol.set (i + 4) c = dig 9 (a % 18446744073709551616 ^ (i + 1) * b) := by
        refine (dig_of (wd_set hw hc) (by rw [List.length_set]; exact hl) ?_).symm
        rw [val_set hz, hXn, Int.sub_zero, hv, Int.emod_eq_of_lt hb.1 hb.2]
      rw [hset]
      refine ⟨n - 1, by omega, _, _, Frz.keep (fr' := [(3, .ptr (ws (dig 4 a))), (4, .ptr (ws (dig 4 b))), (5, .ptr (ws (dig 4 m))), (6, .optr 29006 b6 0), (7, .optr 29007 b7 0), (8, .int .i64 (i + 1 : Nat))])
        (Fr.sub_cons rfl (Fr.sub_cons rfl (Fr.sub_cons rfl (Fr.sub_cons rfl (Fr.sub_cons rfl (Fr.sub_cons (congrArg (fun z => some (AV.int .i64 z)) (i64_succ (by omega))) (Fr.sub_nil _))))))), i + 1, by omega, rfl, rfl⟩
  · rw [decide_eq_false h4]
    obtain rfl : i = 4 := by omega
    rw [show a % 18446744073709551616 ^ 4 = a from Int.emod_eq_of_lt ha.1 ha.2]
    have hr := hR (ul := dig 9 (a * b)) (dig_len _ _) (dig_wd _ _) hm h0m
    rw [val_dig 9 (a * b) (Int.mul_nonneg ha.1 hb.1) (by
      have h2 := Int.mul_lt_mul_of_pos_right ha.2 (B_pow 4)
      rw [← Int.pow_add] at h2
      exact Int.lt_of_le_of_lt (Int.mul_le_mul_of_nonneg_left (Int.le_of_lt hb.2) ha.1) (Int.lt_of_lt_of_le h2 (B_le (by omega))))] at hr
    ((conv => whnf); repeat ((first | refine And.intro (rfl : (_ : Nat) = _) ?_ | refine And.intro (rfl : (_ : Bool) = true) ?_ | refine And.intro (Nat.le_of_ble_eq_true rfl) ?_ | refine And.intro ⟨Nat.le_of_ble_eq_true rfl, rfl, rfl⟩ ?_); conv => whnf))
    first | refine CallGoal.pure (hr) ?_ | refine PCallGoal.pure (hr) ?_
    ((conv => whnf); repeat ((first | refine And.intro (rfl : (_ : Nat) = _) ?_ | refine And.intro (rfl : (_ : Bool) = true) ?_ | refine And.intro (Nat.le_of_ble_eq_true rfl) ?_ | refine And.intro ⟨Nat.le_of_ble_eq_true rfl, rfl, rfl⟩ ?_); conv => whnf))
    refine ⟨.inl rfl, .drop ?_⟩
    ((conv => whnf); repeat ((first | refine And.intro (rfl : (_ : Nat) = _) ?_ | refine And.intro (rfl : (_ : Bool) = true) ?_ | refine And.intro (Nat.le_of_ble_eq_true rfl) ?_ | refine And.intro ⟨Nat.le_of_ble_eq_true rfl, rfl, rfl⟩ ?_); conv => whnf))
    refine ⟨?_, rfl⟩
    rfl
def RefMulOk (P : Program) (G : Nat → AV) : Prop := ∀ {a b m : Int}, N4 a → N4 b → N4 m → 0 < m → Ans P G 29 [num a, num b, num m] (num (a * b % m))
end Go.Proofs.Yteknjhamekpfjaa
