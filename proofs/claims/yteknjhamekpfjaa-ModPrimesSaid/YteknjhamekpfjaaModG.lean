/- Walks: Montgomery's product. -/
import Derived.Test.YteknjhamekpfjaaModF
namespace Go.Proofs.Yteknjhamekpfjaa
open Go.Eng Go.Num
set_option maxHeartbeats 2000000
set_option maxRecDepth 10000
set_option linter.unusedVariables false
set_option linter.unusedSimpArgs false
variable {P : Program} {G : Nat → AV}

theorem part_drop {l : List Int} {i : Nat} {x : Int} (h : l[i]? = some x) : partAV false 1 (List.drop i (ws l)) 0 = u64 x := by
  simp [partAV, List.getD, h]
theorem emod_mul' (b : Int) {p : Int} (hp : 0 < p) : b % (p * 18446744073709551616) = b % p + p * (b / p % 18446744073709551616) := by
  have h1 := Int.mul_ediv_add_emod b p
  have h2 := Int.mul_ediv_add_emod (b / p) 18446744073709551616
  have h3 := Int.emod_nonneg b (b := p) (by omega)
  have h4 := Int.emod_lt_of_pos b hp
  have h5 : 0 ≤ b / p % 18446744073709551616 ∧ b / p % 18446744073709551616 ≤ 18446744073709551616 - 1 := by omega
  have h6 : p * (b / p % 18446744073709551616) ≤ p * (18446744073709551616 - 1) := Int.mul_le_mul_of_nonneg_left h5.2 (by omega)
  have h7 : 0 ≤ p * (b / p % 18446744073709551616) := Int.mul_nonneg (by omega) h5.1
  have h8 : p * (18446744073709551616 - 1) = p * 18446744073709551616 - p := by rw [Int.mul_sub, Int.mul_one]
  refine emod_of (q := b / p / 18446744073709551616) ?_ (by omega) (by omega)
  have : p * (b / p) = p * (18446744073709551616 * (b / p / 18446744073709551616)) + p * (b / p % 18446744073709551616) := by rw [← Int.mul_add, h2]
  have e : p * 18446744073709551616 * (b / p / 18446744073709551616) = p * (18446744073709551616 * (b / p / 18446744073709551616)) := Int.mul_assoc _ _ _
  omega
def Rel1 (S p0 p1 p2 p3 T c : Int) (j : Nat) : Prop := match j with
  | 0 => T + c = S
  | 1 => T + 18446744073709551616 * c = S + p0
  | 2 => T + 18446744073709551616 * (18446744073709551616 * c) = S + p0 + 18446744073709551616 * p1
  | 3 => T + 18446744073709551616 * (18446744073709551616 * (18446744073709551616 * c)) = S + p0 + 18446744073709551616 * p1 + 18446744073709551616 * (18446744073709551616 * p2)
  | 4 => T + 18446744073709551616 * (18446744073709551616 * (18446744073709551616 * (18446744073709551616 * c))) = S + p0 + 18446744073709551616 * p1 + 18446744073709551616 * (18446744073709551616 * p2) + 18446744073709551616 * (18446744073709551616 * (18446744073709551616 * p3))
  | _ => False
def Rel2 (q0 q1 q2 q3 t0 t1 t2 t3 x0 x1 x2 x3 c : Int) (j : Nat) : Prop := match j with
  | 1 => 18446744073709551616 * c = q0 + t0 ∧ x1 = t1 ∧ x2 = t2 ∧ x3 = t3
  | 2 => 18446744073709551616 * x0 + 18446744073709551616 * (18446744073709551616 * c) = q0 + t0 + 18446744073709551616 * (q1 + t1) ∧ x2 = t2 ∧ x3 = t3
  | 3 => 18446744073709551616 * x0 + 18446744073709551616 * (18446744073709551616 * x1) + 18446744073709551616 * (18446744073709551616 * (18446744073709551616 * c)) = q0 + t0 + 18446744073709551616 * (q1 + t1) + 18446744073709551616 * (18446744073709551616 * (q2 + t2)) ∧ x3 = t3
  | 4 => 18446744073709551616 * x0 + 18446744073709551616 * (18446744073709551616 * x1) + 18446744073709551616 * (18446744073709551616 * (18446744073709551616 * x2)) + 18446744073709551616 * (18446744073709551616 * (18446744073709551616 * (18446744073709551616 * c))) = q0 + t0 + 18446744073709551616 * (q1 + t1) + 18446744073709551616 * (18446744073709551616 * (q2 + t2)) + 18446744073709551616 * (18446744073709551616 * (18446744073709551616 * (q3 + t3)))
  | _ => False
theorem lo_w (x : Int) : W1 (x % 18446744073709551616) := by omega

def MontO (m a0 a1 a2 a3 a b : Int) (b6 b7 : Nat) (n : Nat) (fr : Fr) (st : St) : Prop :=
  ∃ (i : Nat) (U t0 t1 t2 t3 t4 t5 : Int), i + n = 4 ∧ W1 t0 ∧ W1 t1 ∧ W1 t2 ∧ W1 t3 ∧ W1 t4 ∧ (t0 + 18446744073709551616 * (t1 + 18446744073709551616 * (t2 + 18446744073709551616 * (t3 + 18446744073709551616 * t4)))) * 18446744073709551616 ^ i = a * (b % 18446744073709551616 ^ i) + U * m ∧ t0 + 18446744073709551616 * (t1 + 18446744073709551616 * (t2 + 18446744073709551616 * (t3 + 18446744073709551616 * t4))) < a + m ∧
    fr = [(0, mptr m), (4, .ptr (ws [a0, a1, a2, a3])), (5, .ptr (ws (dig 4 b))), (6, .optr 46006 b6 0), (7, .optr 46007 b7 0), (20, .int .i64 i)] ∧ st = [.obj 46006 b6 [u64 0, u64 0, u64 0, u64 0], .obj 46007 b7 (ws [t0, t1, t2, t3, t4, t5])]
def MontI (m a0 a1 a2 a3 b S p0 p1 p2 p3 t4 t5 : Int) (i b6 b7 : Nat) (n : Nat) (fr : Fr) (st : St) : Prop :=
  ∃ (j : Nat) (c t0 t1 t2 t3 : Int), j + n = 4 ∧ W1 c ∧ W1 t0 ∧ W1 t1 ∧ W1 t2 ∧ W1 t3 ∧ Rel1 S p0 p1 p2 p3 (t0 + 18446744073709551616 * (t1 + 18446744073709551616 * (t2 + 18446744073709551616 * t3))) c j ∧
    fr = [(0, mptr m), (4, .ptr (ws [a0, a1, a2, a3])), (5, .ptr (ws (dig 4 b))), (6, .optr 46006 b6 0), (7, .optr 46007 b7 0), (8, .int .i64 i), (9, u64 c), (20, .int .i64 i), (23, .int .i64 (j : Nat))] ∧ st = [.obj 46006 b6 [u64 0, u64 0, u64 0, u64 0], .obj 46007 b7 (ws [t0, t1, t2, t3, t4, t5])]
def MontJ (m a0 a1 a2 a3 b u q0 q1 q2 q3 t0 t1 t2 t3 t4 t5 : Int) (i b6 b7 : Nat) (n : Nat) (fr : Fr) (st : St) : Prop :=
  ∃ (j : Nat) (c x0 x1 x2 x3 : Int), 1 ≤ j ∧ j + n = 4 ∧ W1 c ∧ W1 x0 ∧ W1 x1 ∧ W1 x2 ∧ W1 x3 ∧ Rel2 q0 q1 q2 q3 t0 t1 t2 t3 x0 x1 x2 x3 c j ∧
    fr = [(0, mptr m), (4, .ptr (ws [a0, a1, a2, a3])), (5, .ptr (ws (dig 4 b))), (6, .optr 46006 b6 0), (7, .optr 46007 b7 0), (8, .int .i64 i), (9, u64 c), (14, u64 u), (17, .int .i64 (j : Nat)), (20, .int .i64 i)] ∧ st = [.obj 46006 b6 [u64 0, u64 0, u64 0, u64 0], .obj 46007 b7 (ws [x0, x1, x2, x3, t4, t5])]

theorem mont_vc {m a b : Int} (hM : Mul64Ok P G) (hO : OnceOk P G) (hm : Md m) (ha : 0 ≤ a ∧ a < m) (hb : N4 b) : vc P G c46 (Ret [.cell 6 4 true] (num (a * b * half m ^ 256 % m))) (argFr 0 [mptr m, num a, num b]) [] := by
  have hmlt := hm.lt
  have hm1 := hm.one
  obtain ⟨a0, a1, a2, a3, ea, ha0, ha1, ha2, ha3, va⟩ := fourN (n := a) ⟨ha.1, by omega⟩
  obtain ⟨m0, m1, m2, m3, em, hm0, hmm1, hm2, hm3, vm⟩ := fourN hm.n4
  have hmk := mk_spec hm.odd
  have hm0' : m % 18446744073709551616 = m0 := by have := congrArg (·[0]?) em; simpa [dig] using this
  have hm1' : m / 18446744073709551616 % 18446744073709551616 = m1 := by have := congrArg (·[1]?) em; simpa [dig] using this
  have hm2' : m / 18446744073709551616 / 18446744073709551616 % 18446744073709551616 = m2 := by have := congrArg (·[2]?) em; simpa [dig] using this
  have hm3' : m / 18446744073709551616 / 18446744073709551616 / 18446744073709551616 % 18446744073709551616 = m3 := by have := congrArg (·[3]?) em; simpa [dig] using this
  rw [hm0'] at hmk
  have hkw := mk_wd m
  rw [num_dig a, ea]
  conv => whnf
  intro b6
  conv => whnf
  intro b7
  conv => whnf
  refine LoopGoal.inv (MontO m a0 a1 a2 a3 a b b6 b7) 4 (Frz.keep (fr' := [(0, mptr m), (4, .ptr (ws [a0, a1, a2, a3])), (5, .ptr (ws (dig 4 b))), (6, .optr 46006 b6 0), (7, .optr 46007 b7 0), (20, .int .i64 (0 : Nat))]) (Fr.sub_cons rfl (Fr.sub_cons rfl (Fr.sub_cons rfl (Fr.sub_cons rfl (Fr.sub_cons rfl (Fr.sub_cons rfl (Fr.sub_nil _)))))))) ⟨0, 0, 0, 0, 0, 0, 0, 0, rfl, by omega, by omega, by omega, by omega, by omega, by simp, by omega, rfl, rfl⟩ ?_
  rintro n fr st ⟨i, U, t0, t1, t2, t3, t4, t5, hi, h0, h1, h2, h3, h4, hinv, hbd, rfl, rfl⟩
  conv => whnf
  rw [lss_nat (n := 4) 4 rfl]
  by_cases h4i : i < 4
  · rw [decide_eq_true h4i]
    have hib : inB (i : Int) 4 = true := inB_true (by omega) (by omega)
    have hbl : Nat.ble 1 (List.drop ((i : Int).toNat * 1) (ws (dig 4 b))).length = true := Nat.ble_eq_true_of_le (by rw [List.length_drop, ws_len, dig_len]; simp; omega)
    have hbp : partAV false 1 (List.drop ((i : Int).toNat * 1) (ws (dig 4 b))) 0 = u64 (b / 18446744073709551616 ^ i % 18446744073709551616) := by
      rw [show (i : Int).toNat * 1 = i from by simp]; exact part_drop (dig_get 4 b i h4i)
    have hbi : W1 (b / 18446744073709551616 ^ i % 18446744073709551616) := by omega
    have hbs : b % 18446744073709551616 ^ (i + 1) = b % 18446744073709551616 ^ i + 18446744073709551616 ^ i * (b / 18446744073709551616 ^ i % 18446744073709551616) := by
      rw [Int.pow_succ]; exact emod_mul' b (B_pow i)
    generalize hbg : b / 18446744073709551616 ^ i % 18446744073709551616 = bi at *
    ((conv => whnf); repeat ((first | refine And.intro (rfl : (_ : Nat) = _) ?_ | refine And.intro (rfl : (_ : Bool) = true) ?_ | refine And.intro (Nat.le_of_ble_eq_true rfl) ?_ | refine And.intro ⟨Nat.le_of_ble_eq_true rfl, rfl, rfl⟩ ?_); conv => whnf))
    refine LoopGoal.inv (MontI m a0 a1 a2 a3 b (t0 + 18446744073709551616 * (t1 + 18446744073709551616 * (t2 + 18446744073709551616 * t3))) (a0 * bi) (a1 * bi) (a2 * bi) (a3 * bi) t4 t5 i b6 b7) 4 (Frz.keep (fr' := [(0, mptr m), (4, .ptr (ws [a0, a1, a2, a3])), (5, .ptr (ws (dig 4 b))), (6, .optr 46006 b6 0), (7, .optr 46007 b7 0), (8, .int .i64 i), (9, u64 0), (20, .int .i64 i), (23, .int .i64 (0 : Nat))]) (Fr.sub_cons rfl (Fr.sub_cons rfl (Fr.sub_cons rfl (Fr.sub_cons rfl (Fr.sub_cons rfl (Fr.sub_cons rfl (Fr.sub_cons rfl (Fr.sub_cons rfl (Fr.sub_cons rfl (Fr.sub_nil _))))))))))) ⟨0, 0, t0, t1, t2, t3, rfl, by omega, h0, h1, h2, h3, by show _ + 0 = _; omega, rfl, rfl⟩ ?_
    rintro n1 fr st ⟨j, c, s0, s1, s2, s3, hj, hc, k0, k1, k2, k3, hrel, rfl, rfl⟩
    match j, hj, hrel with
    | 0, hj, hrel =>
      have hub := mul_ub ha0 hbi
      conv => whnf
      refine ifB_mk hib ?_
      conv => whnf
      refine ifB_mk hbl ?_
      rw [hbp]
      ((conv => whnf); repeat ((first | refine And.intro (rfl : (_ : Nat) = _) ?_ | refine And.intro (rfl : (_ : Bool) = true) ?_ | refine And.intro (Nat.le_of_ble_eq_true rfl) ?_ | refine And.intro ⟨Nat.le_of_ble_eq_true rfl, rfl, rfl⟩ ?_); conv => whnf))
      first | refine CallGoal.pure (hM ha0 hbi) ?_ | refine PCallGoal.pure (hM ha0 hbi) ?_
      ((conv => whnf); repeat ((first | refine And.intro (rfl : (_ : Nat) = _) ?_ | refine And.intro (rfl : (_ : Bool) = true) ?_ | refine And.intro (Nat.le_of_ble_eq_true rfl) ?_ | refine And.intro ⟨Nat.le_of_ble_eq_true rfl, rfl, rfl⟩ ?_); conv => whnf))
      refine CarryGoal.add (lo_w _) k0 z01 fun x k lx lk ek => ?_
      ((conv => whnf); repeat ((first | refine And.intro (rfl : (_ : Nat) = _) ?_ | refine And.intro (rfl : (_ : Bool) = true) ?_ | refine And.intro (Nat.le_of_ble_eq_true rfl) ?_ | refine And.intro ⟨Nat.le_of_ble_eq_true rfl, rfl, rfl⟩ ?_); conv => whnf))
      refine CarryGoal.add lx hc z01 fun y k' ly lk' ek' => ?_
      ((conv => whnf); repeat ((first | refine And.intro (rfl : (_ : Nat) = _) ?_ | refine And.intro (rfl : (_ : Bool) = true) ?_ | refine And.intro (Nat.le_of_ble_eq_true rfl) ?_ | refine And.intro ⟨Nat.le_of_ble_eq_true rfl, rfl, rfl⟩ ?_); conv => whnf))
      have hcc : IntKind.u64.wrap (IntKind.u64.wrap (a0 * bi / 18446744073709551616 + k) + k') = a0 * bi / 18446744073709551616 + k + k' := by rw [wrap_u64, wrap_u64]; omega
      refine ⟨n1 - 1, by omega, _, _, Frz.keep (fr' := [(0, mptr m), (4, .ptr (ws [a0, a1, a2, a3])), (5, .ptr (ws (dig 4 b))), (6, .optr 46006 b6 0), (7, .optr 46007 b7 0), (8, .int .i64 i), (9, u64 (a0 * bi / 18446744073709551616 + k + k')), (20, .int .i64 i), (23, .int .i64 (1 : Nat))]) (Fr.sub_cons rfl (Fr.sub_cons rfl (Fr.sub_cons rfl (Fr.sub_cons rfl (Fr.sub_cons rfl (Fr.sub_cons rfl (Fr.sub_cons (congrArg (fun z => some (AV.int .u64 z)) hcc) (Fr.sub_cons rfl (Fr.sub_cons rfl (Fr.sub_nil _)))))))))), 1, _, y, s1, s2, s3, by omega, by omega, ly, k1, k2, k3, ?_, rfl, rfl⟩
      have hrel' := hrel
      simp only [Rel1] at hrel' ⊢
      omega
    | 1, hj, hrel =>
      have hub := mul_ub ha1 hbi
      conv => whnf
      refine ifB_mk hib ?_
      conv => whnf
      refine ifB_mk hbl ?_
      rw [hbp]
      ((conv => whnf); repeat ((first | refine And.intro (rfl : (_ : Nat) = _) ?_ | refine And.intro (rfl : (_ : Bool) = true) ?_ | refine And.intro (Nat.le_of_ble_eq_true rfl) ?_ | refine And.intro ⟨Nat.le_of_ble_eq_true rfl, rfl, rfl⟩ ?_); conv => whnf))
      first | refine CallGoal.pure (hM ha1 hbi) ?_ | refine PCallGoal.pure (hM ha1 hbi) ?_
      ((conv => whnf); repeat ((first | refine And.intro (rfl : (_ : Nat) = _) ?_ | refine And.intro (rfl : (_ : Bool) = true) ?_ | refine And.intro (Nat.le_of_ble_eq_true rfl) ?_ | refine And.intro ⟨Nat.le_of_ble_eq_true rfl, rfl, rfl⟩ ?_); conv => whnf))
      refine CarryGoal.add (lo_w _) k1 z01 fun x k lx lk ek => ?_
      ((conv => whnf); repeat ((first | refine And.intro (rfl : (_ : Nat) = _) ?_ | refine And.intro (rfl : (_ : Bool) = true) ?_ | refine And.intro (Nat.le_of_ble_eq_true rfl) ?_ | refine And.intro ⟨Nat.le_of_ble_eq_true rfl, rfl, rfl⟩ ?_); conv => whnf))
      refine CarryGoal.add lx hc z01 fun y k' ly lk' ek' => ?_
      ((conv => whnf); repeat ((first | refine And.intro (rfl : (_ : Nat) = _) ?_ | refine And.intro (rfl : (_ : Bool) = true) ?_ | refine And.intro (Nat.le_of_ble_eq_true rfl) ?_ | refine And.intro ⟨Nat.le_of_ble_eq_true rfl, rfl, rfl⟩ ?_); conv => whnf))
      have hcc : IntKind.u64.wrap (IntKind.u64.wrap (a1 * bi / 18446744073709551616 + k) + k') = a1 * bi / 18446744073709551616 + k + k' := by rw [wrap_u64, wrap_u64]; omega
      refine ⟨n1 - 1, by omega, _, _, Frz.keep (fr' := [(0, mptr m), (4, .ptr (ws [a0, a1, a2, a3])), (5, .ptr (ws (dig 4 b))), (6, .optr 46006 b6 0), (7, .optr 46007 b7 0), (8, .int .i64 i), (9, u64 (a1 * bi / 18446744073709551616 + k + k')), (20, .int .i64 i), (23, .int .i64 (2 : Nat))]) (Fr.sub_cons rfl (Fr.sub_cons rfl (Fr.sub_cons rfl (Fr.sub_cons rfl (Fr.sub_cons rfl (Fr.sub_cons rfl (Fr.sub_cons (congrArg (fun z => some (AV.int .u64 z)) hcc) (Fr.sub_cons rfl (Fr.sub_cons rfl (Fr.sub_nil _)))))))))), 2, _, s0, y, s2, s3, by omega, by omega, k0, ly, k2, k3, ?_, rfl, rfl⟩
      have hrel' := hrel
      simp only [Rel1] at hrel' ⊢
      omega
    | 2, hj, hrel =>
      have hub := mul_ub ha2 hbi
      conv => whnf
      refine ifB_mk hib ?_
      conv => whnf
      refine ifB_mk hbl ?_
      rw [hbp]
      ((conv => whnf); repeat ((first | refine And.intro (rfl : (_ : Nat) = _) ?_ | refine And.intro (rfl : (_ : Bool) = true) ?_ | refine And.intro (Nat.le_of_ble_eq_true rfl) ?_ | refine And.intro ⟨Nat.le_of_ble_eq_true rfl, rfl, rfl⟩ ?_); conv => whnf))
      first | refine CallGoal.pure (hM ha2 hbi) ?_ | refine PCallGoal.pure (hM ha2 hbi) ?_
      ((conv => whnf); repeat ((first | refine And.intro (rfl : (_ : Nat) = _) ?_ | refine And.intro (rfl : (_ : Bool) = true) ?_ | refine And.intro (Nat.le_of_ble_eq_true rfl) ?_ | refine And.intro ⟨Nat.le_of_ble_eq_true rfl, rfl, rfl⟩ ?_); conv => whnf))
      refine CarryGoal.add (lo_w _) k2 z01 fun x k lx lk ek => ?_
      ((conv => whnf); repeat ((first | refine And.intro (rfl : (_ : Nat) = _) ?_ | refine And.intro (rfl : (_ : Bool) = true) ?_ | refine And.intro (Nat.le_of_ble_eq_true rfl) ?_ | refine And.intro ⟨Nat.le_of_ble_eq_true rfl, rfl, rfl⟩ ?_); conv => whnf))
      refine CarryGoal.add lx hc z01 fun y k' ly lk' ek' => ?_
      ((conv => whnf); repeat ((first | refine And.intro (rfl : (_ : Nat) = _) ?_ | refine And.intro (rfl : (_ : Bool) = true) ?_ | refine And.intro (Nat.le_of_ble_eq_true rfl) ?_ | refine And.intro ⟨Nat.le_of_ble_eq_true rfl, rfl, rfl⟩ ?_); conv => whnf))
      have hcc : IntKind.u64.wrap (IntKind.u64.wrap (a2 * bi / 18446744073709551616 + k) + k') = a2 * bi / 18446744073709551616 + k + k' := by rw [wrap_u64, wrap_u64]; omega
      refine ⟨n1 - 1, by omega, _, _, Frz.keep (fr' := [(0, mptr m), (4, .ptr (ws [a0, a1, a2, a3])), (5, .ptr (ws (dig 4 b))), (6, .optr 46006 b6 0), (7, .optr 46007 b7 0), (8, .int .i64 i), (9, u64 (a2 * bi / 18446744073709551616 + k + k')), (20, .int .i64 i), (23, .int .i64 (3 : Nat))]) (Fr.sub_cons rfl (Fr.sub_cons rfl (Fr.sub_cons rfl (Fr.sub_cons rfl (Fr.sub_cons rfl (Fr.sub_cons rfl (Fr.sub_cons (congrArg (fun z => some (AV.int .u64 z)) hcc) (Fr.sub_cons rfl (Fr.sub_cons rfl (Fr.sub_nil _)))))))))), 3, _, s0, s1, y, s3, by omega, by omega, k0, k1, ly, k3, ?_, rfl, rfl⟩
      have hrel' := hrel
      simp only [Rel1] at hrel' ⊢
      omega
    | 3, hj, hrel =>
      have hub := mul_ub ha3 hbi
      conv => whnf
      refine ifB_mk hib ?_
      conv => whnf
      refine ifB_mk hbl ?_
      rw [hbp]
      ((conv => whnf); repeat ((first | refine And.intro (rfl : (_ : Nat) = _) ?_ | refine And.intro (rfl : (_ : Bool) = true) ?_ | refine And.intro (Nat.le_of_ble_eq_true rfl) ?_ | refine And.intro ⟨Nat.le_of_ble_eq_true rfl, rfl, rfl⟩ ?_); conv => whnf))
      first | refine CallGoal.pure (hM ha3 hbi) ?_ | refine PCallGoal.pure (hM ha3 hbi) ?_
      ((conv => whnf); repeat ((first | refine And.intro (rfl : (_ : Nat) = _) ?_ | refine And.intro (rfl : (_ : Bool) = true) ?_ | refine And.intro (Nat.le_of_ble_eq_true rfl) ?_ | refine And.intro ⟨Nat.le_of_ble_eq_true rfl, rfl, rfl⟩ ?_); conv => whnf))
      refine CarryGoal.add (lo_w _) k3 z01 fun x k lx lk ek => ?_
      ((conv => whnf); repeat ((first | refine And.intro (rfl : (_ : Nat) = _) ?_ | refine And.intro (rfl : (_ : Bool) = true) ?_ | refine And.intro (Nat.le_of_ble_eq_true rfl) ?_ | refine And.intro ⟨Nat.le_of_ble_eq_true rfl, rfl, rfl⟩ ?_); conv => whnf))
      refine CarryGoal.add lx hc z01 fun y k' ly lk' ek' => ?_
      ((conv => whnf); repeat ((first | refine And.intro (rfl : (_ : Nat) = _) ?_ | refine And.intro (rfl : (_ : Bool) = true) ?_ | refine And.intro (Nat.le_of_ble_eq_true rfl) ?_ | refine And.intro ⟨Nat.le_of_ble_eq_true rfl, rfl, rfl⟩ ?_); conv => whnf))
      have hcc : IntKind.u64.wrap (IntKind.u64.wrap (a3 * bi / 18446744073709551616 + k) + k') = a3 * bi / 18446744073709551616 + k + k' := by rw [wrap_u64, wrap_u64]; omega
      refine ⟨n1 - 1, by omega, _, _, Frz.keep (fr' := [(0, mptr m), (4, .ptr (ws [a0, a1, a2, a3])), (5, .ptr (ws (dig 4 b))), (6, .optr 46006 b6 0), (7, .optr 46007 b7 0), (8, .int .i64 i), (9, u64 (a3 * bi / 18446744073709551616 + k + k')), (20, .int .i64 i), (23, .int .i64 (4 : Nat))]) (Fr.sub_cons rfl (Fr.sub_cons rfl (Fr.sub_cons rfl (Fr.sub_cons rfl (Fr.sub_cons rfl (Fr.sub_cons rfl (Fr.sub_cons (congrArg (fun z => some (AV.int .u64 z)) hcc) (Fr.sub_cons rfl (Fr.sub_cons rfl (Fr.sub_nil _)))))))))), 4, _, s0, s1, s2, y, by omega, by omega, k0, k1, k2, ly, ?_, rfl, rfl⟩
      have hrel' := hrel
      simp only [Rel1] at hrel' ⊢
      omega
    | 4, hj, hrel =>
      conv => whnf
      refine And.intro rfl ?_
      ((conv => whnf); repeat ((first | refine And.intro (rfl : (_ : Nat) = _) ?_ | refine And.intro (rfl : (_ : Bool) = true) ?_ | refine And.intro (Nat.le_of_ble_eq_true rfl) ?_ | refine And.intro ⟨Nat.le_of_ble_eq_true rfl, rfl, rfl⟩ ?_); conv => whnf))
      have hub := mul_ub hbi hbi
      refine CarryGoal.add h4 hc z01 fun y4 y5 l4 l5 e45 => ?_
      ((conv => whnf); repeat ((first | refine And.intro (rfl : (_ : Nat) = _) ?_ | refine And.intro (rfl : (_ : Bool) = true) ?_ | refine And.intro (Nat.le_of_ble_eq_true rfl) ?_ | refine And.intro ⟨Nat.le_of_ble_eq_true rfl, rfl, rfl⟩ ?_); conv => whnf))
      have hu : W1 (IntKind.u64.wrap (s0 * mk m)) := by rw [wrap_u64]; omega
      have hz := montzero (t := s0) hmk (u := IntKind.u64.wrap (s0 * mk m)) (wrap_u64 _)
      generalize IntKind.u64.wrap (s0 * mk m) = u at *
      first | refine CallGoal.pure (hM hu (by rw [hm0']; exact hm0)) ?_ | refine PCallGoal.pure (hM hu (by rw [hm0']; exact hm0)) ?_
      ((conv => whnf); repeat ((first | refine And.intro (rfl : (_ : Nat) = _) ?_ | refine And.intro (rfl : (_ : Bool) = true) ?_ | refine And.intro (Nat.le_of_ble_eq_true rfl) ?_ | refine And.intro ⟨Nat.le_of_ble_eq_true rfl, rfl, rfl⟩ ?_); conv => whnf))
      refine CarryGoal.add (lo_w _) k0 z01 fun x k lx lk ek => ?_
      ((conv => whnf); repeat ((first | refine And.intro (rfl : (_ : Nat) = _) ?_ | refine And.intro (rfl : (_ : Bool) = true) ?_ | refine And.intro (Nat.le_of_ble_eq_true rfl) ?_ | refine And.intro ⟨Nat.le_of_ble_eq_true rfl, rfl, rfl⟩ ?_); conv => whnf))
      rw [hm0'] at ek ⊢
      have hub0 := mul_ub hu hm0
      have hx0 : x = 0 := by omega
      have hcc : IntKind.u64.wrap (u * m0 / 18446744073709551616 + k) = u * m0 / 18446744073709551616 + k := by rw [wrap_u64]; omega
      refine LoopGoal.inv (MontJ m a0 a1 a2 a3 b u (u * m0) (u * m1) (u * m2) (u * m3) s0 s1 s2 s3 y4 y5 i b6 b7) 3 (Frz.keep (fr' := [(0, mptr m), (4, .ptr (ws [a0, a1, a2, a3])), (5, .ptr (ws (dig 4 b))), (6, .optr 46006 b6 0), (7, .optr 46007 b7 0), (8, .int .i64 i), (9, u64 (u * m0 / 18446744073709551616 + k)), (14, u64 u), (17, .int .i64 (1 : Nat)), (20, .int .i64 i)]) (Fr.sub_cons rfl (Fr.sub_cons rfl (Fr.sub_cons rfl (Fr.sub_cons rfl (Fr.sub_cons rfl (Fr.sub_cons rfl (Fr.sub_cons (congrArg (fun z => some (AV.int .u64 z)) hcc) (Fr.sub_cons rfl (Fr.sub_cons rfl (Fr.sub_cons rfl (Fr.sub_nil _)))))))))))) ⟨1, _, s0, s1, s2, s3, by omega, by omega, by omega, k0, k1, k2, k3, ?_, rfl, rfl⟩ ?_
      · simp only [Rel2, and_true]
        omega
      rintro n2 fr st ⟨j2, c2, x0, x1, x2, x3, hj1, hj2, hc2, r0, r1, r2, r3, hrel2, rfl, rfl⟩
      match j2, hj1, hj2, hrel2 with
      | 0, hj1, hj2, hrel2 => omega
      | 1, hj1, hj2, hrel2 =>
        have hub := mul_ub hu hmm1
        ((conv => whnf); repeat ((first | refine And.intro (rfl : (_ : Nat) = _) ?_ | refine And.intro (rfl : (_ : Bool) = true) ?_ | refine And.intro (Nat.le_of_ble_eq_true rfl) ?_ | refine And.intro ⟨Nat.le_of_ble_eq_true rfl, rfl, rfl⟩ ?_); conv => whnf))
        first | refine CallGoal.pure (hM hu (by rw [hm1']; exact hmm1)) ?_ | refine PCallGoal.pure (hM hu (by rw [hm1']; exact hmm1)) ?_
        ((conv => whnf); repeat ((first | refine And.intro (rfl : (_ : Nat) = _) ?_ | refine And.intro (rfl : (_ : Bool) = true) ?_ | refine And.intro (Nat.le_of_ble_eq_true rfl) ?_ | refine And.intro ⟨Nat.le_of_ble_eq_true rfl, rfl, rfl⟩ ?_); conv => whnf))
        rw [hm1']
        refine CarryGoal.add (lo_w _) r1 z01 fun x k lx lk ek => ?_
        ((conv => whnf); repeat ((first | refine And.intro (rfl : (_ : Nat) = _) ?_ | refine And.intro (rfl : (_ : Bool) = true) ?_ | refine And.intro (Nat.le_of_ble_eq_true rfl) ?_ | refine And.intro ⟨Nat.le_of_ble_eq_true rfl, rfl, rfl⟩ ?_); conv => whnf))
        refine CarryGoal.add lx hc2 z01 fun y k' ly lk' ek' => ?_
        ((conv => whnf); repeat ((first | refine And.intro (rfl : (_ : Nat) = _) ?_ | refine And.intro (rfl : (_ : Bool) = true) ?_ | refine And.intro (Nat.le_of_ble_eq_true rfl) ?_ | refine And.intro ⟨Nat.le_of_ble_eq_true rfl, rfl, rfl⟩ ?_); conv => whnf))
        have hcc2 : IntKind.u64.wrap (IntKind.u64.wrap (u * m1 / 18446744073709551616 + k) + k') = u * m1 / 18446744073709551616 + k + k' := by rw [wrap_u64, wrap_u64]; omega
        refine ⟨n2 - 1, by omega, _, _, Frz.keep (fr' := [(0, mptr m), (4, .ptr (ws [a0, a1, a2, a3])), (5, .ptr (ws (dig 4 b))), (6, .optr 46006 b6 0), (7, .optr 46007 b7 0), (8, .int .i64 i), (9, u64 (u * m1 / 18446744073709551616 + k + k')), (14, u64 u), (17, .int .i64 (2 : Nat)), (20, .int .i64 i)]) (Fr.sub_cons rfl (Fr.sub_cons rfl (Fr.sub_cons rfl (Fr.sub_cons rfl (Fr.sub_cons rfl (Fr.sub_cons rfl (Fr.sub_cons (congrArg (fun z => some (AV.int .u64 z)) hcc2) (Fr.sub_cons rfl (Fr.sub_cons rfl (Fr.sub_cons rfl (Fr.sub_nil _))))))))))), 2, _, y, x1, x2, x3, by omega, by omega, by omega, ly, r1, r2, r3, ?_, rfl, rfl⟩
        have hrel' := hrel2
        simp only [Rel2] at hrel' ⊢
        omega
      | 2, hj1, hj2, hrel2 =>
        have hub := mul_ub hu hm2
        ((conv => whnf); repeat ((first | refine And.intro (rfl : (_ : Nat) = _) ?_ | refine And.intro (rfl : (_ : Bool) = true) ?_ | refine And.intro (Nat.le_of_ble_eq_true rfl) ?_ | refine And.intro ⟨Nat.le_of_ble_eq_true rfl, rfl, rfl⟩ ?_); conv => whnf))
        first | refine CallGoal.pure (hM hu (by rw [hm2']; exact hm2)) ?_ | refine PCallGoal.pure (hM hu (by rw [hm2']; exact hm2)) ?_
        ((conv => whnf); repeat ((first | refine And.intro (rfl : (_ : Nat) = _) ?_ | refine And.intro (rfl : (_ : Bool) = true) ?_ | refine And.intro (Nat.le_of_ble_eq_true rfl) ?_ | refine And.intro ⟨Nat.le_of_ble_eq_true rfl, rfl, rfl⟩ ?_); conv => whnf))
        rw [hm2']
        refine CarryGoal.add (lo_w _) r2 z01 fun x k lx lk ek => ?_
        ((conv => whnf); repeat ((first | refine And.intro (rfl : (_ : Nat) = _) ?_ | refine And.intro (rfl : (_ : Bool) = true) ?_ | refine And.intro (Nat.le_of_ble_eq_true rfl) ?_ | refine And.intro ⟨Nat.le_of_ble_eq_true rfl, rfl, rfl⟩ ?_); conv => whnf))
        refine CarryGoal.add lx hc2 z01 fun y k' ly lk' ek' => ?_
        ((conv => whnf); repeat ((first | refine And.intro (rfl : (_ : Nat) = _) ?_ | refine And.intro (rfl : (_ : Bool) = true) ?_ | refine And.intro (Nat.le_of_ble_eq_true rfl) ?_ | refine And.intro ⟨Nat.le_of_ble_eq_true rfl, rfl, rfl⟩ ?_); conv => whnf))
        have hcc2 : IntKind.u64.wrap (IntKind.u64.wrap (u * m2 / 18446744073709551616 + k) + k') = u * m2 / 18446744073709551616 + k + k' := by rw [wrap_u64, wrap_u64]; omega
        refine ⟨n2 - 1, by omega, _, _, Frz.keep (fr' := [(0, mptr m), (4, .ptr (ws [a0, a1, a2, a3])), (5, .ptr (ws (dig 4 b))), (6, .optr 46006 b6 0), (7, .optr 46007 b7 0), (8, .int .i64 i), (9, u64 (u * m2 / 18446744073709551616 + k + k')), (14, u64 u), (17, .int .i64 (3 : Nat)), (20, .int .i64 i)]) (Fr.sub_cons rfl (Fr.sub_cons rfl (Fr.sub_cons rfl (Fr.sub_cons rfl (Fr.sub_cons rfl (Fr.sub_cons rfl (Fr.sub_cons (congrArg (fun z => some (AV.int .u64 z)) hcc2) (Fr.sub_cons rfl (Fr.sub_cons rfl (Fr.sub_cons rfl (Fr.sub_nil _))))))))))), 3, _, x0, y, x2, x3, by omega, by omega, by omega, r0, ly, r2, r3, ?_, rfl, rfl⟩
        have hrel' := hrel2
        simp only [Rel2] at hrel' ⊢
        omega
      | 3, hj1, hj2, hrel2 =>
        have hub := mul_ub hu hm3
        ((conv => whnf); repeat ((first | refine And.intro (rfl : (_ : Nat) = _) ?_ | refine And.intro (rfl : (_ : Bool) = true) ?_ | refine And.intro (Nat.le_of_ble_eq_true rfl) ?_ | refine And.intro ⟨Nat.le_of_ble_eq_true rfl, rfl, rfl⟩ ?_); conv => whnf))
        first | refine CallGoal.pure (hM hu (by rw [hm3']; exact hm3)) ?_ | refine PCallGoal.pure (hM hu (by rw [hm3']; exact hm3)) ?_
        ((conv => whnf); repeat ((first | refine And.intro (rfl : (_ : Nat) = _) ?_ | refine And.intro (rfl : (_ : Bool) = true) ?_ | refine And.intro (Nat.le_of_ble_eq_true rfl) ?_ | refine And.intro ⟨Nat.le_of_ble_eq_true rfl, rfl, rfl⟩ ?_); conv => whnf))
        rw [hm3']
        refine CarryGoal.add (lo_w _) r3 z01 fun x k lx lk ek => ?_
        ((conv => whnf); repeat ((first | refine And.intro (rfl : (_ : Nat) = _) ?_ | refine And.intro (rfl : (_ : Bool) = true) ?_ | refine And.intro (Nat.le_of_ble_eq_true rfl) ?_ | refine And.intro ⟨Nat.le_of_ble_eq_true rfl, rfl, rfl⟩ ?_); conv => whnf))
        refine CarryGoal.add lx hc2 z01 fun y k' ly lk' ek' => ?_
        ((conv => whnf); repeat ((first | refine And.intro (rfl : (_ : Nat) = _) ?_ | refine And.intro (rfl : (_ : Bool) = true) ?_ | refine And.intro (Nat.le_of_ble_eq_true rfl) ?_ | refine And.intro ⟨Nat.le_of_ble_eq_true rfl, rfl, rfl⟩ ?_); conv => whnf))
        have hcc2 : IntKind.u64.wrap (IntKind.u64.wrap (u * m3 / 18446744073709551616 + k) + k') = u * m3 / 18446744073709551616 + k + k' := by rw [wrap_u64, wrap_u64]; omega
        refine ⟨n2 - 1, by omega, _, _, Frz.keep (fr' := [(0, mptr m), (4, .ptr (ws [a0, a1, a2, a3])), (5, .ptr (ws (dig 4 b))), (6, .optr 46006 b6 0), (7, .optr 46007 b7 0), (8, .int .i64 i), (9, u64 (u * m3 / 18446744073709551616 + k + k')), (14, u64 u), (17, .int .i64 (4 : Nat)), (20, .int .i64 i)]) (Fr.sub_cons rfl (Fr.sub_cons rfl (Fr.sub_cons rfl (Fr.sub_cons rfl (Fr.sub_cons rfl (Fr.sub_cons rfl (Fr.sub_cons (congrArg (fun z => some (AV.int .u64 z)) hcc2) (Fr.sub_cons rfl (Fr.sub_cons rfl (Fr.sub_cons rfl (Fr.sub_nil _))))))))))), 4, _, x0, x1, y, x3, by omega, by omega, by omega, r0, r1, ly, r3, ?_, rfl, rfl⟩
        have hrel' := hrel2
        simp only [Rel2] at hrel' ⊢
        omega
      | 4, hj1, hj2, hrel2 =>
        ((conv => whnf); repeat ((first | refine And.intro (rfl : (_ : Nat) = _) ?_ | refine And.intro (rfl : (_ : Bool) = true) ?_ | refine And.intro (Nat.le_of_ble_eq_true rfl) ?_ | refine And.intro ⟨Nat.le_of_ble_eq_true rfl, rfl, rfl⟩ ?_); conv => whnf))
        refine CarryGoal.add l4 hc2 z01 fun z3 z4 lz3 lz4 ez => ?_
        ((conv => whnf); repeat ((first | refine And.intro (rfl : (_ : Nat) = _) ?_ | refine And.intro (rfl : (_ : Bool) = true) ?_ | refine And.intro (Nat.le_of_ble_eq_true rfl) ?_ | refine And.intro ⟨Nat.le_of_ble_eq_true rfl, rfl, rfl⟩ ?_); conv => whnf))
        have h44 : IntKind.u64.wrap (y5 + z4) = y5 + z4 := by rw [wrap_u64]; omega
        have hab : a * bi = a0 * bi + 18446744073709551616 * (a1 * bi) + 18446744073709551616 * (18446744073709551616 * (a2 * bi)) + 18446744073709551616 * (18446744073709551616 * (18446744073709551616 * (a3 * bi))) := by rw [va]; grind
        have hum : u * m = u * m0 + 18446744073709551616 * (u * m1) + 18446744073709551616 * (18446744073709551616 * (u * m2)) + 18446744073709551616 * (18446744073709551616 * (18446744073709551616 * (u * m3))) := by
          conv => lhs; rw [vm]
          grind
        simp only [Rel1] at hrel
        simp only [Rel2] at hrel2
        have hT : 18446744073709551616 * (x0 + 18446744073709551616 * (x1 + 18446744073709551616 * (x2 + 18446744073709551616 * (z3 + 18446744073709551616 * (y5 + z4))))) = (t0 + 18446744073709551616 * (t1 + 18446744073709551616 * (t2 + 18446744073709551616 * (t3 + 18446744073709551616 * t4)))) + a * bi + u * m := by
          rw [hab, hum]; omega
        have hT0 : 0 ≤ t0 + 18446744073709551616 * (t1 + 18446744073709551616 * (t2 + 18446744073709551616 * (t3 + 18446744073709551616 * t4))) := by omega
        have hfin := montround (P := 18446744073709551616 ^ i) (B_pow i) rfl hT hinv
        have hbnd := montbound ha hbi hu hT0 hbd rfl hT
        refine ⟨n - 1, by omega, _, _, Frz.keep (fr' := [(0, mptr m), (4, .ptr (ws [a0, a1, a2, a3])), (5, .ptr (ws (dig 4 b))), (6, .optr 46006 b6 0), (7, .optr 46007 b7 0), (20, .int .i64 (i + 1 : Nat))]) (Fr.sub_cons rfl (Fr.sub_cons rfl (Fr.sub_cons rfl (Fr.sub_cons rfl (Fr.sub_cons rfl (Fr.sub_cons (congrArg (fun z => some (AV.int .i64 z)) (i64_succ (by omega))) (Fr.sub_nil _))))))), i + 1, U + u * 18446744073709551616 ^ i, x0, x1, x2, z3, y5 + z4, y5, by omega, r0, r1, r2, lz3, by omega, ?_, hbnd.2, rfl, ?_⟩
        · rw [hbs, Int.pow_succ, Int.mul_comm (18446744073709551616 ^ i) 18446744073709551616, Int.mul_comm (18446744073709551616 ^ i) bi]; exact hfin
        · show [Seg.obj _ _ _, Seg.obj _ _ [u64 x0, u64 x1, u64 x2, u64 z3, u64 (IntKind.u64.wrap (y5 + z4)), u64 y5]] = _
          rw [h44]; rfl
      | j + 5, hj1, hj2, hrel2 => omega
    | j + 5, hj, hrel => omega
  · rw [decide_eq_false h4i]
    obtain rfl : i = 4 := by omega
    ((conv => whnf); repeat ((first | refine And.intro (rfl : (_ : Nat) = _) ?_ | refine And.intro (rfl : (_ : Bool) = true) ?_ | refine And.intro (Nat.le_of_ble_eq_true rfl) ?_ | refine And.intro ⟨Nat.le_of_ble_eq_true rfl, rfl, rfl⟩ ?_); conv => whnf))
    rw [show b % 18446744073709551616 ^ 4 = b from Int.emod_eq_of_lt hb.1 hb.2] at hinv
    have ht4 : t4 = 0 ∨ t4 = 1 := by rw [B4] at hmlt; omega
    have hn4 : N4 (t0 + 18446744073709551616 * (t1 + 18446744073709551616 * (t2 + 18446744073709551616 * t3))) := by rw [N4, B4]; omega
    have hc := hO (m := m) (k := mk m) (r := R2 m) (a := t0 + 18446744073709551616 * (t1 + 18446744073709551616 * (t2 + 18446744073709551616 * t3))) (o := t4) hm hn4 ht4 (by rw [B4]; omega)
    rw [← num_eq (four_of h0 h1 h2 h3 rfl)] at hc
    first | refine CallGoal.pure (hc) ?_ | refine PCallGoal.pure (hc) ?_
    ((conv => whnf); repeat ((first | refine And.intro (rfl : (_ : Nat) = _) ?_ | refine And.intro (rfl : (_ : Bool) = true) ?_ | refine And.intro (Nat.le_of_ble_eq_true rfl) ?_ | refine And.intro ⟨Nat.le_of_ble_eq_true rfl, rfl, rfl⟩ ?_); conv => whnf))
    refine ⟨.inl rfl, .drop ?_⟩
    ((conv => whnf); repeat ((first | refine And.intro (rfl : (_ : Nat) = _) ?_ | refine And.intro (rfl : (_ : Bool) = true) ?_ | refine And.intro (Nat.le_of_ble_eq_true rfl) ?_ | refine And.intro ⟨Nat.le_of_ble_eq_true rfl, rfl, rfl⟩ ?_); conv => whnf))
    refine ⟨?_, rfl⟩
    refine congrArg num ?_
    have e : t4 * 18446744073709551616 ^ 4 + (t0 + 18446744073709551616 * (t1 + 18446744073709551616 * (t2 + 18446744073709551616 * t3))) = t0 + 18446744073709551616 * (t1 + 18446744073709551616 * (t2 + 18446744073709551616 * (t3 + 18446744073709551616 * t4))) := by rw [B4]; omega
    rw [e]
    generalize t0 + 18446744073709551616 * (t1 + 18446744073709551616 * (t2 + 18446744073709551616 * (t3 + 18446744073709551616 * t4))) = T at *
    refine mod_half hm.odd hm1 (Int.emod_nonneg _ (by omega)) (Int.emod_lt_of_pos _ (by omega)) ?_
    rw [Int.mul_emod, Int.emod_emod_of_dvd _ (Int.dvd_refl m), ← Int.mul_emod, show (2 : Int) ^ 256 = 18446744073709551616 ^ 4 from by decide, hinv, Int.add_mul_emod_self_right]
def MontOk (P : Program) (G : Nat → AV) : Prop := ∀ {m a b : Int}, Md m → 0 ≤ a ∧ a < m → N4 b → Ans P G 46 [mptr m, num a, num b] (num (a * b * half m ^ 256 % m))
end Go.Proofs.Yteknjhamekpfjaa
