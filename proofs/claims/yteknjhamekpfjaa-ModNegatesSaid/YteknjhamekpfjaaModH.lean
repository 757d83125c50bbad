/- Walks: products, powers and inverses by a modulus; New. -/
import Derived.Test.YteknjhamekpfjaaModG
namespace Go.Proofs.Yteknjhamekpfjaa
open Go.Eng Go.Num
set_option maxHeartbeats 1000000
set_option maxRecDepth 10000
set_option linter.unusedVariables false
set_option linter.unusedSimpArgs false
variable {P : Program} {G : Nat → AV}

theorem mm_mod (a m : Int) : a % m % m = a % m := Int.emod_emod_of_dvd a (Int.dvd_refl m)
theorem mul_mod_l (a b m : Int) : (a % m) * b % m = a * b % m := by rw [Int.mul_emod, mm_mod, ← Int.mul_emod]
theorem mul_mod_r (a b m : Int) : a * (b % m) % m = a * b % m := by rw [Int.mul_emod, mm_mod, ← Int.mul_emod]
theorem pow_mod (a m : Int) : ∀ e : Nat, (a % m) ^ e % m = a ^ e % m
  | 0 => by simp
  | e + 1 => by rw [Int.pow_succ, Int.mul_emod, pow_mod a m e, mm_mod, ← Int.mul_emod, Int.pow_succ]
/-- Twice through Montgomery's product. -/
theorem mont_two {m : Int} (hm : Md m) (x : Int) : (x * half m ^ 256 % m) * R2 m * half m ^ 256 % m = x % m := by
  unfold R2
  rw [Int.mul_assoc, mul_mod_l, ← Int.mul_assoc, Int.mul_assoc (x * half m ^ 256), Int.mul_comm (2 ^ 512 % m), ← Int.mul_assoc, mul_mod_r, show x * half m ^ 256 * half m ^ 256 * 2 ^ 512 = x * 2 ^ 512 * half m ^ (256 + 256) from by rw [Int.pow_add]; grind]
  exact half_cancel (k := 512) hm.odd hm.one x
/-- Into Montgomery's form. -/
theorem mont_in {m : Int} (hm : Md m) (x : Int) : x * R2 m * half m ^ 256 % m = x * 2 ^ 256 % m := by
  unfold R2
  rw [Int.mul_assoc, Int.mul_comm (2 ^ 512 % m), ← Int.mul_assoc, mul_mod_r, show x * half m ^ 256 * 2 ^ 512 = (x * 2 ^ 256) * 2 ^ 256 * half m ^ 256 from by rw [show (2 : Int) ^ 512 = 2 ^ 256 * 2 ^ 256 from (Int.pow_add 2 256 256)]; grind]
  exact half_cancel (k := 256) hm.odd hm.one _
/-- Products within that form. -/
theorem mont_mid {m : Int} (hm : Md m) (x y : Int) : (x * 2 ^ 256 % m) * (y * 2 ^ 256 % m) * half m ^ 256 % m = x * y * 2 ^ 256 % m := by
  rw [Int.mul_assoc, mul_mod_l, Int.mul_comm (y * 2 ^ 256 % m), ← Int.mul_assoc, mul_mod_r, show x * 2 ^ 256 * half m ^ 256 * (y * 2 ^ 256) = (x * y * 2 ^ 256) * 2 ^ 256 * half m ^ 256 from by grind]
  exact half_cancel (k := 256) hm.odd hm.one _
/-- Out of it. -/
theorem mont_out {m : Int} (hm : Md m) (x : Int) : (x * 2 ^ 256 % m) * 1 * half m ^ 256 % m = x % m := by
  rw [Int.mul_one, mul_mod_l]
  exact half_cancel (k := 256) hm.odd hm.one _
theorem one_n4 : N4 1 := by rw [N4, B4]; omega

theorem mmul_vc {m a b : Int} (hL : LowOk P G) (hM : MontOk P G) (hm : Md m) (ha : N4 a) (hb : N4 b) : vc P G c18 (Ret [.cell 6 4 true] (num (a * b % m))) (argFr 0 [mptr m, num a, num b]) [] := by
  have c1 := hL hm ha
  have c2 := hL hm hb
  have c3 := hM hm (low_lt hm a) (low_n4 hm b)
  have c4 := hM (b := R2 m) hm (low_lt hm (a % m * (b % m) * half m ^ 256)) (low_n4 hm _)
  rw [mont_two hm, ← Int.mul_emod] at c4
  conv => whnf
  intro t6
  ((conv => whnf); repeat ((first | refine And.intro (rfl : (_ : Nat) = _) ?_ | refine And.intro (rfl : (_ : Bool) = true) ?_ | refine And.intro (Nat.le_of_ble_eq_true rfl) ?_ | refine And.intro ⟨Nat.le_of_ble_eq_true rfl, rfl, rfl⟩ ?_); conv => whnf))
  first | refine CallGoal.pure (c1) ?_ | refine PCallGoal.pure (c1) ?_
  ((conv => whnf); repeat ((first | refine And.intro (rfl : (_ : Nat) = _) ?_ | refine And.intro (rfl : (_ : Bool) = true) ?_ | refine And.intro (Nat.le_of_ble_eq_true rfl) ?_ | refine And.intro ⟨Nat.le_of_ble_eq_true rfl, rfl, rfl⟩ ?_); conv => whnf))
  first | refine CallGoal.pure (c2) ?_ | refine PCallGoal.pure (c2) ?_
  ((conv => whnf); repeat ((first | refine And.intro (rfl : (_ : Nat) = _) ?_ | refine And.intro (rfl : (_ : Bool) = true) ?_ | refine And.intro (Nat.le_of_ble_eq_true rfl) ?_ | refine And.intro ⟨Nat.le_of_ble_eq_true rfl, rfl, rfl⟩ ?_); conv => whnf))
  first | refine CallGoal.pure (c3) ?_ | refine PCallGoal.pure (c3) ?_
  ((conv => whnf); repeat ((first | refine And.intro (rfl : (_ : Nat) = _) ?_ | refine And.intro (rfl : (_ : Bool) = true) ?_ | refine And.intro (Nat.le_of_ble_eq_true rfl) ?_ | refine And.intro ⟨Nat.le_of_ble_eq_true rfl, rfl, rfl⟩ ?_); conv => whnf))
  first | refine CallGoal.pure (c4) ?_ | refine PCallGoal.pure (c4) ?_
  ((conv => whnf); repeat ((first | refine And.intro (rfl : (_ : Nat) = _) ?_ | refine And.intro (rfl : (_ : Bool) = true) ?_ | refine And.intro (Nat.le_of_ble_eq_true rfl) ?_ | refine And.intro ⟨Nat.le_of_ble_eq_true rfl, rfl, rfl⟩ ?_); conv => whnf))
  refine ⟨.inl rfl, .drop ?_⟩
  ((conv => whnf); repeat ((first | refine And.intro (rfl : (_ : Nat) = _) ?_ | refine And.intro (rfl : (_ : Bool) = true) ?_ | refine And.intro (Nat.le_of_ble_eq_true rfl) ?_ | refine And.intro ⟨Nat.le_of_ble_eq_true rfl, rfl, rfl⟩ ?_); conv => whnf))
  refine ⟨?_, rfl⟩
  rfl
def MmulOk (P : Program) (G : Nat → AV) : Prop := ∀ {m a b : Int}, Md m → N4 a → N4 b → Ans P G 18 [mptr m, num a, num b] (num (a * b % m))

def PowI (m a : Int) (e : Nat) (b6 b7 b8 : Nat) (n : Nat) (fr : Fr) (st : St) : Prop :=
  ∃ i : Nat, i = n ∧ i ≤ 256 ∧ fr = [(0, mptr m), (5, .ptr (ws (dig 4 (e : Int)))), (6, .optr 20006 b6 0), (7, .optr 20007 b7 0), (8, .optr 20008 b8 0), (9, .int .i64 ((i : Int) - 1))] ∧
    st = [.obj 20006 b6 [u64 0, u64 0, u64 0, u64 0], .obj 20007 b7 (ws (dig 4 (a * 2 ^ 256 % m))), .obj 20008 b8 (ws (dig 4 (a ^ (e / 2 ^ i) * 2 ^ 256 % m)))]
theorem mpow_vc {m a : Int} {e : Nat} (hL : LowOk P G) (hM : MontOk P G) (hB : BitOk P G) (hP : PickOk P G) (hm : Md m) (ha : N4 a) (he : N4 (e : Int)) : vc P G c20 (Ret [.cell 6 4 true] (num (a ^ e % m))) (argFr 0 [mptr m, num a, num e]) [] := by
  have c1 := hL hm ha
  have c2 := hM (b := R2 m) hm (low_lt hm a) (low_n4 hm _)
  rw [mont_in hm, mul_mod_l] at c2
  have c3 := hM (a := 1) (b := R2 m) hm ⟨by omega, hm.one⟩ (low_n4 hm _)
  rw [mont_in hm] at c3
  rw [← num_small (x := 1) (by omega)] at c3
  conv => whnf
  intro b6
  ((conv => whnf); repeat ((first | refine And.intro (rfl : (_ : Nat) = _) ?_ | refine And.intro (rfl : (_ : Bool) = true) ?_ | refine And.intro (Nat.le_of_ble_eq_true rfl) ?_ | refine And.intro ⟨Nat.le_of_ble_eq_true rfl, rfl, rfl⟩ ?_); conv => whnf))
  first | refine CallGoal.pure (c1) ?_ | refine PCallGoal.pure (c1) ?_
  ((conv => whnf); repeat ((first | refine And.intro (rfl : (_ : Nat) = _) ?_ | refine And.intro (rfl : (_ : Bool) = true) ?_ | refine And.intro (Nat.le_of_ble_eq_true rfl) ?_ | refine And.intro ⟨Nat.le_of_ble_eq_true rfl, rfl, rfl⟩ ?_); conv => whnf))
  first | refine CallGoal.pure (c2) ?_ | refine PCallGoal.pure (c2) ?_
  ((conv => whnf); repeat ((first | refine And.intro (rfl : (_ : Nat) = _) ?_ | refine And.intro (rfl : (_ : Bool) = true) ?_ | refine And.intro (Nat.le_of_ble_eq_true rfl) ?_ | refine And.intro ⟨Nat.le_of_ble_eq_true rfl, rfl, rfl⟩ ?_); conv => whnf))
  intro b7
  ((conv => whnf); repeat ((first | refine And.intro (rfl : (_ : Nat) = _) ?_ | refine And.intro (rfl : (_ : Bool) = true) ?_ | refine And.intro (Nat.le_of_ble_eq_true rfl) ?_ | refine And.intro ⟨Nat.le_of_ble_eq_true rfl, rfl, rfl⟩ ?_); conv => whnf))
  first | refine CallGoal.pure (c3) ?_ | refine PCallGoal.pure (c3) ?_
  ((conv => whnf); repeat ((first | refine And.intro (rfl : (_ : Nat) = _) ?_ | refine And.intro (rfl : (_ : Bool) = true) ?_ | refine And.intro (Nat.le_of_ble_eq_true rfl) ?_ | refine And.intro ⟨Nat.le_of_ble_eq_true rfl, rfl, rfl⟩ ?_); conv => whnf))
  intro b8
  ((conv => whnf); repeat ((first | refine And.intro (rfl : (_ : Nat) = _) ?_ | refine And.intro (rfl : (_ : Bool) = true) ?_ | refine And.intro (Nat.le_of_ble_eq_true rfl) ?_ | refine And.intro ⟨Nat.le_of_ble_eq_true rfl, rfl, rfl⟩ ?_); conv => whnf))
  refine LoopGoal.inv (PowI m a e b6 b7 b8) 256 (Frz.keep (fr' := [(0, mptr m), (5, .ptr (ws (dig 4 (e : Int)))), (6, .optr 20006 b6 0), (7, .optr 20007 b7 0), (8, .optr 20008 b8 0), (9, .int .i64 (((256 : Nat) : Int) - 1))])
    (Fr.sub_cons rfl (Fr.sub_cons rfl (Fr.sub_cons rfl (Fr.sub_cons rfl (Fr.sub_cons rfl (Fr.sub_cons rfl (Fr.sub_nil _)))))))) ⟨256, rfl, by omega, rfl, ?_⟩ ?_
  · rw [show e / 2 ^ 256 = 0 from Nat.div_eq_of_lt (by have := he.2; rw [B4] at this; omega), Int.pow_zero]; rfl
  rintro n fr st ⟨i, rfl, hi, rfl, rfl⟩
  conv => whnf
  by_cases h0 : i = 0
  · subst h0
    rw [show lssB (((0 : Nat) : Int) - 1) 0 = true from by decide]
    have c5 := hM (a := a ^ e * 2 ^ 256 % m) (b := 1) hm (low_lt hm _) one_n4
    rw [mont_out hm] at c5
    rw [← num_small (x := 1) (by omega)] at c5
    rw [Nat.pow_zero, Nat.div_one]
    ((conv => whnf); repeat ((first | refine And.intro (rfl : (_ : Nat) = _) ?_ | refine And.intro (rfl : (_ : Bool) = true) ?_ | refine And.intro (Nat.le_of_ble_eq_true rfl) ?_ | refine And.intro ⟨Nat.le_of_ble_eq_true rfl, rfl, rfl⟩ ?_); conv => whnf))
    first | refine CallGoal.pure (c5) ?_ | refine PCallGoal.pure (c5) ?_
    ((conv => whnf); repeat ((first | refine And.intro (rfl : (_ : Nat) = _) ?_ | refine And.intro (rfl : (_ : Bool) = true) ?_ | refine And.intro (Nat.le_of_ble_eq_true rfl) ?_ | refine And.intro ⟨Nat.le_of_ble_eq_true rfl, rfl, rfl⟩ ?_); conv => whnf))
    refine ⟨.inl rfl, .drop ?_⟩
    ((conv => whnf); repeat ((first | refine And.intro (rfl : (_ : Nat) = _) ?_ | refine And.intro (rfl : (_ : Bool) = true) ?_ | refine And.intro (Nat.le_of_ble_eq_true rfl) ?_ | refine And.intro ⟨Nat.le_of_ble_eq_true rfl, rfl, rfl⟩ ?_); conv => whnf))
    refine ⟨?_, rfl⟩
    rfl
  · obtain ⟨j, rfl⟩ : ∃ j, i = j + 1 := ⟨i - 1, by omega⟩
    rw [show ((j + 1 : Nat) : Int) - 1 = (j : Int) from by omega]
    rw [show lssB (j : Int) 0 = false from by rw [lssB_eq]; simp]
    have hx := low_lt hm (a ^ (e / 2 ^ (j + 1)) * 2 ^ 256)
    have hx4 := low_n4 hm (a ^ (e / 2 ^ (j + 1)) * 2 ^ 256)
    have c5 := hM hm hx hx4
    rw [mont_mid hm, ← Int.pow_add] at c5
    ((conv => whnf); repeat ((first | refine And.intro (rfl : (_ : Nat) = _) ?_ | refine And.intro (rfl : (_ : Bool) = true) ?_ | refine And.intro (Nat.le_of_ble_eq_true rfl) ?_ | refine And.intro ⟨Nat.le_of_ble_eq_true rfl, rfl, rfl⟩ ?_); conv => whnf))
    first | refine CallGoal.pure (c5) ?_ | refine PCallGoal.pure (c5) ?_
    ((conv => whnf); repeat ((first | refine And.intro (rfl : (_ : Nat) = _) ?_ | refine And.intro (rfl : (_ : Bool) = true) ?_ | refine And.intro (Nat.le_of_ble_eq_true rfl) ?_ | refine And.intro ⟨Nat.le_of_ble_eq_true rfl, rfl, rfl⟩ ?_); conv => whnf))
    have c6 := hB (n := (e : Int)) (i := j) he (by omega)
    first | refine CallGoal.pure (c6) ?_ | refine PCallGoal.pure (c6) ?_
    ((conv => whnf); repeat ((first | refine And.intro (rfl : (_ : Nat) = _) ?_ | refine And.intro (rfl : (_ : Bool) = true) ?_ | refine And.intro (Nat.le_of_ble_eq_true rfl) ?_ | refine And.intro ⟨Nat.le_of_ble_eq_true rfl, rfl, rfl⟩ ?_); conv => whnf))
    have hy := low_lt hm (a ^ (e / 2 ^ (j + 1) + e / 2 ^ (j + 1)) * 2 ^ 256)
    have hy4 := low_n4 hm (a ^ (e / 2 ^ (j + 1) + e / 2 ^ (j + 1)) * 2 ^ 256)
    have c7 := hM (b := a * 2 ^ 256 % m) hm hy (low_n4 hm _)
    rw [mont_mid hm, ← Int.pow_succ] at c7
    first | refine CallGoal.pure (c7) ?_ | refine PCallGoal.pure (c7) ?_
    ((conv => whnf); repeat ((first | refine And.intro (rfl : (_ : Nat) = _) ?_ | refine And.intro (rfl : (_ : Bool) = true) ?_ | refine And.intro (Nat.le_of_ble_eq_true rfl) ?_ | refine And.intro ⟨Nat.le_of_ble_eq_true rfl, rfl, rfl⟩ ?_); conv => whnf))
    have hbit : ((e : Int) / 2 ^ j % 2) = ((e / 2 ^ j % 2 : Nat) : Int) := by simp
    have c8 := hP (x := (e : Int) / 2 ^ j % 2) (by omega) (low_n4 hm (a ^ (e / 2 ^ (j + 1) + e / 2 ^ (j + 1) + 1) * 2 ^ 256)) hy4
    first | refine CallGoal.pure (c8) ?_ | refine PCallGoal.pure (c8) ?_
    ((conv => whnf); repeat ((first | refine And.intro (rfl : (_ : Nat) = _) ?_ | refine And.intro (rfl : (_ : Bool) = true) ?_ | refine And.intro (Nat.le_of_ble_eq_true rfl) ?_ | refine And.intro ⟨Nat.le_of_ble_eq_true rfl, rfl, rfl⟩ ?_); conv => whnf))
    refine ⟨j, by omega, _, _, Frz.keep (fr' := [(0, mptr m), (5, .ptr (ws (dig 4 (e : Int)))), (6, .optr 20006 b6 0), (7, .optr 20007 b7 0), (8, .optr 20008 b8 0), (9, .int .i64 ((j : Int) - 1))])
      (Fr.sub_cons rfl (Fr.sub_cons rfl (Fr.sub_cons rfl (Fr.sub_cons rfl (Fr.sub_cons rfl (Fr.sub_cons (congrArg (fun z => some (AV.int .i64 z)) (wr64 (by omega) (by omega))) (Fr.sub_nil _))))))), j, rfl, by omega, rfl, ?_⟩
    have hfin : (if (e : Int) / 2 ^ j % 2 = 1 then a ^ (e / 2 ^ (j + 1) + e / 2 ^ (j + 1) + 1) * 2 ^ 256 % m else a ^ (e / 2 ^ (j + 1) + e / 2 ^ (j + 1)) * 2 ^ 256 % m) = a ^ (e / 2 ^ j) * 2 ^ 256 % m := by
      rw [hbit]
      have : e / 2 ^ (j + 1) = e / 2 ^ j / 2 := by rw [Nat.pow_succ, Nat.div_div_eq_div_mul]
      rw [this]
      generalize e / 2 ^ j = y
      split
      · rw [show y / 2 + y / 2 + 1 = y from by omega]
      · rw [show y / 2 + y / 2 = y from by omega]
    rw [← hfin]
    rfl
def MpowOk (P : Program) (G : Nat → AV) : Prop := ∀ {m a : Int} {e : Nat}, Md m → N4 a → N4 (e : Int) → Ans P G 20 [mptr m, num a, num e] (num (a ^ e % m))

theorem minv_vc {m a : Int} (hS : WsubOk P G) (hW : MpowOk P G) (hm : Md m) (ha : N4 a) : vc P G c22 (Ret [.cell 4 4 true] (num (a ^ (m - 2).toNat % m))) (argFr 0 [mptr m, num a]) [] := by
  have h1 := hm.one
  have h2 := hm.odd
  have h3 := hm.lt
  have c1 := hS (b := 2) hm.n4 (by rw [N4, B4]; omega)
  rw [← num_small (x := 2) (by omega), Int.emod_eq_of_lt (by omega) (by omega)] at c1
  have c2 := hW (e := (m - 2).toNat) hm ha ⟨by omega, by omega⟩
  rw [show (((m - 2).toNat : Nat) : Int) = m - 2 from by omega] at c2
  conv => whnf
  intro t4
  ((conv => whnf); repeat ((first | refine And.intro (rfl : (_ : Nat) = _) ?_ | refine And.intro (rfl : (_ : Bool) = true) ?_ | refine And.intro (Nat.le_of_ble_eq_true rfl) ?_ | refine And.intro ⟨Nat.le_of_ble_eq_true rfl, rfl, rfl⟩ ?_); conv => whnf))
  first | refine CallGoal.pure (c1) ?_ | refine PCallGoal.pure (c1) ?_
  ((conv => whnf); repeat ((first | refine And.intro (rfl : (_ : Nat) = _) ?_ | refine And.intro (rfl : (_ : Bool) = true) ?_ | refine And.intro (Nat.le_of_ble_eq_true rfl) ?_ | refine And.intro ⟨Nat.le_of_ble_eq_true rfl, rfl, rfl⟩ ?_); conv => whnf))
  intro t5
  ((conv => whnf); repeat ((first | refine And.intro (rfl : (_ : Nat) = _) ?_ | refine And.intro (rfl : (_ : Bool) = true) ?_ | refine And.intro (Nat.le_of_ble_eq_true rfl) ?_ | refine And.intro ⟨Nat.le_of_ble_eq_true rfl, rfl, rfl⟩ ?_); conv => whnf))
  first | refine CallGoal.pure (c2) ?_ | refine PCallGoal.pure (c2) ?_
  ((conv => whnf); repeat ((first | refine And.intro (rfl : (_ : Nat) = _) ?_ | refine And.intro (rfl : (_ : Bool) = true) ?_ | refine And.intro (Nat.le_of_ble_eq_true rfl) ?_ | refine And.intro ⟨Nat.le_of_ble_eq_true rfl, rfl, rfl⟩ ?_); conv => whnf))
  refine ⟨.inl rfl, .drop ?_⟩
  ((conv => whnf); repeat ((first | refine And.intro (rfl : (_ : Nat) = _) ?_ | refine And.intro (rfl : (_ : Bool) = true) ?_ | refine And.intro (Nat.le_of_ble_eq_true rfl) ?_ | refine And.intro ⟨Nat.le_of_ble_eq_true rfl, rfl, rfl⟩ ?_); conv => whnf))
  refine ⟨?_, rfl⟩
  rfl
def MinvOk (P : Program) (G : Nat → AV) : Prop := ∀ {m a : Int}, Md m → N4 a → Ans P G 22 [mptr m, num a] (num (a ^ (m - 2).toNat % m))
end Go.Proofs.Yteknjhamekpfjaa
