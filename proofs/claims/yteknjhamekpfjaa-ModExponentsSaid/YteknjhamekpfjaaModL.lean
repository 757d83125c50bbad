/- The laws ModLaws and ModExponents, of the program itself. -/
import Derived.Test.YteknjhamekpfjaaModK
namespace Go.Proofs.Yteknjhamekpfjaa
open Go.Eng Go.Num
set_option maxHeartbeats 2000000
set_option maxRecDepth 10000
set_option linter.unusedVariables false
set_option linter.unusedSimpArgs false
variable {P : Program} {G : Nat → AV}

theorem modexps_vc {m a x y : Int} (hs : ModSoundOk P G) (hN : MnewOk P G) (hX : MnewBadOk P G) (hA : MaddOk P G) (hM : MmulOk P G) (hW : MpowOk P G) (hm : N4 m) (ha : N4 a) (hx : W1 x) (hy : W1 y) :
    vc P G c4 (Ret [.t 6] (.bool true)) (argFr 0 [num m, num a, .agg [u64 x, u64 y]]) [] := by
  rcases md_or hm with h | h
  · conv => whnf
    first | refine CallGoal.pure (hs) ?_ | refine PCallGoal.pure (hs) ?_
    ((conv => whnf); repeat ((first | refine And.intro (rfl : (_ : Nat) = _) ?_ | refine And.intro (rfl : (_ : Bool) = true) ?_ | refine And.intro (Nat.le_of_ble_eq_true rfl) ?_ | refine And.intro ⟨Nat.le_of_ble_eq_true rfl, rfl, rfl⟩ ?_); conv => whnf))
    first | refine CallGoal.pure (hX hm h) ?_ | refine PCallGoal.pure (hX hm h) ?_
    ((conv => whnf); repeat ((first | refine And.intro (rfl : (_ : Nat) = _) ?_ | refine And.intro (rfl : (_ : Bool) = true) ?_ | refine And.intro (Nat.le_of_ble_eq_true rfl) ?_ | refine And.intro ⟨Nat.le_of_ble_eq_true rfl, rfl, rfl⟩ ?_); conv => whnf))
    rw [mod_odd hm]
    by_cases h0 : m % 2 = 0
    · rw [show (m % 2 == 0) = true from by simp [h0]]
      ((conv => whnf); repeat ((first | refine And.intro (rfl : (_ : Nat) = _) ?_ | refine And.intro (rfl : (_ : Bool) = true) ?_ | refine And.intro (Nat.le_of_ble_eq_true rfl) ?_ | refine And.intro ⟨Nat.le_of_ble_eq_true rfl, rfl, rfl⟩ ?_); conv => whnf))
      exact ⟨.inl rfl, .drop ⟨rfl, rfl⟩⟩
    · rw [show (m % 2 == 0) = false from by simp [h0]]
      ((conv => whnf); repeat ((first | refine And.intro (rfl : (_ : Nat) = _) ?_ | refine And.intro (rfl : (_ : Bool) = true) ?_ | refine And.intro (Nat.le_of_ble_eq_true rfl) ?_ | refine And.intro ⟨Nat.le_of_ble_eq_true rfl, rfl, rfl⟩ ?_); conv => whnf))
      refine EqGoal.same (a := m) (b := 1) hm (by omega) ?_
      ((conv => whnf); repeat ((first | refine And.intro (rfl : (_ : Nat) = _) ?_ | refine And.intro (rfl : (_ : Bool) = true) ?_ | refine And.intro (Nat.le_of_ble_eq_true rfl) ?_ | refine And.intro ⟨Nat.le_of_ble_eq_true rfl, rfl, rfl⟩ ?_); conv => whnf))
      exact ⟨.inl rfl, .drop ⟨rfl, rfl⟩⟩
  · have n4 : ∀ x : Int, N4 (x % m) := fun x => low_n4 h x
    have z4 : N4 0 := small_n4 (by decide) (by decide)
    have hxt : (x.toNat : Int) = x := by omega
    have hyt : (y.toNat : Int) = y := by omega
    have cx := hW (a := a) (e := x.toNat) h ha (by rw [hxt]; exact small_n4 hx.1 hx.2)
    have cy := hW (a := a) (e := y.toNat) h ha (by rw [hyt]; exact small_n4 hy.1 hy.2)
    have cs := hW (a := a) (e := x.toNat + y.toNat) h ha (by rw [Int.natCast_add, hxt, hyt, N4, B4]; omega)
    rw [hxt, ← num_small hx] at cx
    rw [hyt, ← num_small hy] at cy
    have c1 := hW (a := a) (e := 1) h ha (small_n4 (by decide) (by decide))
    have c0 := hW (a := a) (e := 0) h ha (small_n4 (by decide) (by decide))
    have hw : IntKind.u64.wrap (x + y) = (x + y) % 18446744073709551616 := wrap_u64 _
    rw [Int.natCast_add, hxt, hyt] at cs
    conv => whnf
    first | refine CallGoal.pure (hs) ?_ | refine PCallGoal.pure (hs) ?_
    ((conv => whnf); repeat ((first | refine And.intro (rfl : (_ : Nat) = _) ?_ | refine And.intro (rfl : (_ : Bool) = true) ?_ | refine And.intro (Nat.le_of_ble_eq_true rfl) ?_ | refine And.intro ⟨Nat.le_of_ble_eq_true rfl, rfl, rfl⟩ ?_); conv => whnf))
    first | refine CallGoal.pure (hN h) ?_ | refine PCallGoal.pure (hN h) ?_
    ((conv => whnf); repeat ((first | refine And.intro (rfl : (_ : Nat) = _) ?_ | refine And.intro (rfl : (_ : Bool) = true) ?_ | refine And.intro (Nat.le_of_ble_eq_true rfl) ?_ | refine And.intro ⟨Nat.le_of_ble_eq_true rfl, rfl, rfl⟩ ?_); conv => whnf))
    intro t9
    ((conv => whnf); repeat ((first | refine And.intro (rfl : (_ : Nat) = _) ?_ | refine And.intro (rfl : (_ : Bool) = true) ?_ | refine And.intro (Nat.le_of_ble_eq_true rfl) ?_ | refine And.intro ⟨Nat.le_of_ble_eq_true rfl, rfl, rfl⟩ ?_); conv => whnf))
    rw [hw]
    by_cases hlt : (x + y) % 18446744073709551616 < y
    · rw [show lssB ((x + y) % 18446744073709551616) y = true from by rw [lssB_eq]; simp [hlt]]
      rw [← num_eq (n := x + y) (four_of (x0 := (x + y) % 18446744073709551616) (x1 := 1) (x2 := 0) (x3 := 0) (by omega) (by omega) (by omega) (by omega) (by omega))] at cs
      ((conv => whnf); repeat ((first | refine And.intro (rfl : (_ : Nat) = _) ?_ | refine And.intro (rfl : (_ : Bool) = true) ?_ | refine And.intro (Nat.le_of_ble_eq_true rfl) ?_ | refine And.intro ⟨Nat.le_of_ble_eq_true rfl, rfl, rfl⟩ ?_); conv => whnf))
      first | refine CallGoal.pure (cx) ?_ | refine PCallGoal.pure (cx) ?_
      ((conv => whnf); repeat ((first | refine And.intro (rfl : (_ : Nat) = _) ?_ | refine And.intro (rfl : (_ : Bool) = true) ?_ | refine And.intro (Nat.le_of_ble_eq_true rfl) ?_ | refine And.intro ⟨Nat.le_of_ble_eq_true rfl, rfl, rfl⟩ ?_); conv => whnf))
      first | refine CallGoal.pure (cy) ?_ | refine PCallGoal.pure (cy) ?_
      ((conv => whnf); repeat ((first | refine And.intro (rfl : (_ : Nat) = _) ?_ | refine And.intro (rfl : (_ : Bool) = true) ?_ | refine And.intro (Nat.le_of_ble_eq_true rfl) ?_ | refine And.intro ⟨Nat.le_of_ble_eq_true rfl, rfl, rfl⟩ ?_); conv => whnf))
      first | refine CallGoal.pure (hM h (n4 _) (n4 _)) ?_ | refine PCallGoal.pure (hM h (n4 _) (n4 _)) ?_
      ((conv => whnf); repeat ((first | refine And.intro (rfl : (_ : Nat) = _) ?_ | refine And.intro (rfl : (_ : Bool) = true) ?_ | refine And.intro (Nat.le_of_ble_eq_true rfl) ?_ | refine And.intro ⟨Nat.le_of_ble_eq_true rfl, rfl, rfl⟩ ?_); conv => whnf))
      first | refine CallGoal.pure (cs) ?_ | refine PCallGoal.pure (cs) ?_
      ((conv => whnf); repeat ((first | refine And.intro (rfl : (_ : Nat) = _) ?_ | refine And.intro (rfl : (_ : Bool) = true) ?_ | refine And.intro (Nat.le_of_ble_eq_true rfl) ?_ | refine And.intro ⟨Nat.le_of_ble_eq_true rfl, rfl, rfl⟩ ?_); conv => whnf))
      refine EqGoal.same (n4 _) (by rw [mul_mod_l, mul_mod_r, ← Int.pow_add]) ?_
      ((conv => whnf); repeat ((first | refine And.intro (rfl : (_ : Nat) = _) ?_ | refine And.intro (rfl : (_ : Bool) = true) ?_ | refine And.intro (Nat.le_of_ble_eq_true rfl) ?_ | refine And.intro ⟨Nat.le_of_ble_eq_true rfl, rfl, rfl⟩ ?_); conv => whnf))
      first | refine CallGoal.pure (c1) ?_ | refine PCallGoal.pure (c1) ?_
      ((conv => whnf); repeat ((first | refine And.intro (rfl : (_ : Nat) = _) ?_ | refine And.intro (rfl : (_ : Bool) = true) ?_ | refine And.intro (Nat.le_of_ble_eq_true rfl) ?_ | refine And.intro ⟨Nat.le_of_ble_eq_true rfl, rfl, rfl⟩ ?_); conv => whnf))
      first | refine CallGoal.pure (hA (b := 0) h ha z4) ?_ | refine PCallGoal.pure (hA (b := 0) h ha z4) ?_
      ((conv => whnf); repeat ((first | refine And.intro (rfl : (_ : Nat) = _) ?_ | refine And.intro (rfl : (_ : Bool) = true) ?_ | refine And.intro (Nat.le_of_ble_eq_true rfl) ?_ | refine And.intro ⟨Nat.le_of_ble_eq_true rfl, rfl, rfl⟩ ?_); conv => whnf))
      refine EqGoal.same (n4 _) (by rw [Int.pow_one, Int.add_zero]) ?_
      ((conv => whnf); repeat ((first | refine And.intro (rfl : (_ : Nat) = _) ?_ | refine And.intro (rfl : (_ : Bool) = true) ?_ | refine And.intro (Nat.le_of_ble_eq_true rfl) ?_ | refine And.intro ⟨Nat.le_of_ble_eq_true rfl, rfl, rfl⟩ ?_); conv => whnf))
      first | refine CallGoal.pure (c0) ?_ | refine PCallGoal.pure (c0) ?_
      ((conv => whnf); repeat ((first | refine And.intro (rfl : (_ : Nat) = _) ?_ | refine And.intro (rfl : (_ : Bool) = true) ?_ | refine And.intro (Nat.le_of_ble_eq_true rfl) ?_ | refine And.intro ⟨Nat.le_of_ble_eq_true rfl, rfl, rfl⟩ ?_); conv => whnf))
      first | refine CallGoal.pure (hA (a := 1) (b := 0) h one_n4 z4) ?_ | refine PCallGoal.pure (hA (a := 1) (b := 0) h one_n4 z4) ?_
      ((conv => whnf); repeat ((first | refine And.intro (rfl : (_ : Nat) = _) ?_ | refine And.intro (rfl : (_ : Bool) = true) ?_ | refine And.intro (Nat.le_of_ble_eq_true rfl) ?_ | refine And.intro ⟨Nat.le_of_ble_eq_true rfl, rfl, rfl⟩ ?_); conv => whnf))
      refine EqGoal.same (n4 _) (by rw [Int.pow_zero, Int.add_zero]) ?_
      ((conv => whnf); repeat ((first | refine And.intro (rfl : (_ : Nat) = _) ?_ | refine And.intro (rfl : (_ : Bool) = true) ?_ | refine And.intro (Nat.le_of_ble_eq_true rfl) ?_ | refine And.intro ⟨Nat.le_of_ble_eq_true rfl, rfl, rfl⟩ ?_); conv => whnf))
      exact ⟨.inl rfl, .drop ⟨rfl, rfl⟩⟩
    · rw [show lssB ((x + y) % 18446744073709551616) y = false from by rw [lssB_eq]; simp; omega]
      rw [← num_eq (n := x + y) (four_of (x0 := (x + y) % 18446744073709551616) (x1 := 0) (x2 := 0) (x3 := 0) (by omega) (by omega) (by omega) (by omega) (by omega))] at cs
      ((conv => whnf); repeat ((first | refine And.intro (rfl : (_ : Nat) = _) ?_ | refine And.intro (rfl : (_ : Bool) = true) ?_ | refine And.intro (Nat.le_of_ble_eq_true rfl) ?_ | refine And.intro ⟨Nat.le_of_ble_eq_true rfl, rfl, rfl⟩ ?_); conv => whnf))
      first | refine CallGoal.pure (cx) ?_ | refine PCallGoal.pure (cx) ?_
      ((conv => whnf); repeat ((first | refine And.intro (rfl : (_ : Nat) = _) ?_ | refine And.intro (rfl : (_ : Bool) = true) ?_ | refine And.intro (Nat.le_of_ble_eq_true rfl) ?_ | refine And.intro ⟨Nat.le_of_ble_eq_true rfl, rfl, rfl⟩ ?_); conv => whnf))
      first | refine CallGoal.pure (cy) ?_ | refine PCallGoal.pure (cy) ?_
      ((conv => whnf); repeat ((first | refine And.intro (rfl : (_ : Nat) = _) ?_ | refine And.intro (rfl : (_ : Bool) = true) ?_ | refine And.intro (Nat.le_of_ble_eq_true rfl) ?_ | refine And.intro ⟨Nat.le_of_ble_eq_true rfl, rfl, rfl⟩ ?_); conv => whnf))
      first | refine CallGoal.pure (hM h (n4 _) (n4 _)) ?_ | refine PCallGoal.pure (hM h (n4 _) (n4 _)) ?_
      ((conv => whnf); repeat ((first | refine And.intro (rfl : (_ : Nat) = _) ?_ | refine And.intro (rfl : (_ : Bool) = true) ?_ | refine And.intro (Nat.le_of_ble_eq_true rfl) ?_ | refine And.intro ⟨Nat.le_of_ble_eq_true rfl, rfl, rfl⟩ ?_); conv => whnf))
      first | refine CallGoal.pure (cs) ?_ | refine PCallGoal.pure (cs) ?_
      ((conv => whnf); repeat ((first | refine And.intro (rfl : (_ : Nat) = _) ?_ | refine And.intro (rfl : (_ : Bool) = true) ?_ | refine And.intro (Nat.le_of_ble_eq_true rfl) ?_ | refine And.intro ⟨Nat.le_of_ble_eq_true rfl, rfl, rfl⟩ ?_); conv => whnf))
      refine EqGoal.same (n4 _) (by rw [mul_mod_l, mul_mod_r, ← Int.pow_add]) ?_
      ((conv => whnf); repeat ((first | refine And.intro (rfl : (_ : Nat) = _) ?_ | refine And.intro (rfl : (_ : Bool) = true) ?_ | refine And.intro (Nat.le_of_ble_eq_true rfl) ?_ | refine And.intro ⟨Nat.le_of_ble_eq_true rfl, rfl, rfl⟩ ?_); conv => whnf))
      first | refine CallGoal.pure (c1) ?_ | refine PCallGoal.pure (c1) ?_
      ((conv => whnf); repeat ((first | refine And.intro (rfl : (_ : Nat) = _) ?_ | refine And.intro (rfl : (_ : Bool) = true) ?_ | refine And.intro (Nat.le_of_ble_eq_true rfl) ?_ | refine And.intro ⟨Nat.le_of_ble_eq_true rfl, rfl, rfl⟩ ?_); conv => whnf))
      first | refine CallGoal.pure (hA (b := 0) h ha z4) ?_ | refine PCallGoal.pure (hA (b := 0) h ha z4) ?_
      ((conv => whnf); repeat ((first | refine And.intro (rfl : (_ : Nat) = _) ?_ | refine And.intro (rfl : (_ : Bool) = true) ?_ | refine And.intro (Nat.le_of_ble_eq_true rfl) ?_ | refine And.intro ⟨Nat.le_of_ble_eq_true rfl, rfl, rfl⟩ ?_); conv => whnf))
      refine EqGoal.same (n4 _) (by rw [Int.pow_one, Int.add_zero]) ?_
      ((conv => whnf); repeat ((first | refine And.intro (rfl : (_ : Nat) = _) ?_ | refine And.intro (rfl : (_ : Bool) = true) ?_ | refine And.intro (Nat.le_of_ble_eq_true rfl) ?_ | refine And.intro ⟨Nat.le_of_ble_eq_true rfl, rfl, rfl⟩ ?_); conv => whnf))
      first | refine CallGoal.pure (c0) ?_ | refine PCallGoal.pure (c0) ?_
      ((conv => whnf); repeat ((first | refine And.intro (rfl : (_ : Nat) = _) ?_ | refine And.intro (rfl : (_ : Bool) = true) ?_ | refine And.intro (Nat.le_of_ble_eq_true rfl) ?_ | refine And.intro ⟨Nat.le_of_ble_eq_true rfl, rfl, rfl⟩ ?_); conv => whnf))
      first | refine CallGoal.pure (hA (a := 1) (b := 0) h one_n4 z4) ?_ | refine PCallGoal.pure (hA (a := 1) (b := 0) h one_n4 z4) ?_
      ((conv => whnf); repeat ((first | refine And.intro (rfl : (_ : Nat) = _) ?_ | refine And.intro (rfl : (_ : Bool) = true) ?_ | refine And.intro (Nat.le_of_ble_eq_true rfl) ?_ | refine And.intro ⟨Nat.le_of_ble_eq_true rfl, rfl, rfl⟩ ?_); conv => whnf))
      refine EqGoal.same (n4 _) (by rw [Int.pow_zero, Int.add_zero]) ?_
      ((conv => whnf); repeat ((first | refine And.intro (rfl : (_ : Nat) = _) ?_ | refine And.intro (rfl : (_ : Bool) = true) ?_ | refine And.intro (Nat.le_of_ble_eq_true rfl) ?_ | refine And.intro ⟨Nat.le_of_ble_eq_true rfl, rfl, rfl⟩ ?_); conv => whnf))
      exact ⟨.inl rfl, .drop ⟨rfl, rfl⟩⟩
theorem modsound_ok : ModSoundOk P0 G0 := ACall.fn fn15 (Nat.le_of_ble_eq_true rfl) (modsound_vc mnew_ok madd_ok msub_ok mmul_ok mpow_ok minv_ok)
theorem modlaws_ans {m a b c : Int} (hm : N4 m) (ha : N4 a) (hb : N4 b) (hc : N4 c) : Ans P0 G0 3 [num m, .agg (ws (dig 4 a ++ (dig 4 b ++ dig 4 c)))] (.bool true) :=
  ACall.fn fn3 (Nat.le_of_ble_eq_true rfl) (modlaws_vc modsound_ok mnew_ok mnewbad_ok madd_ok msub_ok mmul_ok hm ha hb hc)
theorem modexps_ans {m a x y : Int} (hm : N4 m) (ha : N4 a) (hx : W1 x) (hy : W1 y) : Ans P0 G0 4 [num m, num a, .agg [u64 x, u64 y]] (.bool true) :=
  ACall.fn fn4 (Nat.le_of_ble_eq_true rfl) (modexps_vc modsound_ok mnew_ok mnewbad_ok madd_ok mmul_ok mpow_ok hm ha hx hy)
end Go.Proofs.Yteknjhamekpfjaa
