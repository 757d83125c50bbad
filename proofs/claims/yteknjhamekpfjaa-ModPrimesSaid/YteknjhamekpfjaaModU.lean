/- Walks: the laws ModSums, ModPowers, ModNegates. -/
import Derived.Test.YteknjhamekpfjaaModT
namespace Go.Proofs.Yteknjhamekpfjaa
open Go.Eng Go.Num
set_option maxHeartbeats 4000000
set_option maxRecDepth 10000
set_option linter.unusedVariables false
set_option linter.unusedSimpArgs false
variable {P : Program} {G : Nat → AV}

theorem modsums_vc {m a b : Int} (hs : Ans P G 15 [] (.bool true)) (hN : MnewOk P G) (hX : MnewBadOk P G) (hU : ∀ {m : Int}, Md m → Ans P G 26 [mptr m] (num m)) (hA : MaddOk P G) (hS : MsubOk P G) (hM : MmulOk P G)
    (rA : RefAddOk P G) (rS : RefSubOk P G) (rM : RefMulOk P G) (hm : N4 m) (ha : N4 a) (hb : N4 b) :
    vc P G c8 (Ret [.t 6] (.bool true)) (argFr 0 [num m, num a, num b]) [] := by
  rcases md_or hm with h | h
  · conv => whnf
    first | refine CallGoal.pure (hs) ?_ | refine PCallGoal.pure (hs) ?_
    ((conv => whnf); repeat ((first | refine And.intro (rfl : (_ : Nat) = _) ?_ | refine And.intro (rfl : (_ : Bool) = true) ?_ | refine And.intro (Nat.le_of_ble_eq_true rfl) ?_ | refine And.intro ⟨Nat.le_of_ble_eq_true rfl, rfl, rfl⟩ ?_); conv => whnf))
    first | refine CallGoal.pure (hX hm h) ?_ | refine PCallGoal.pure (hX hm h) ?_
    ((conv => whnf); repeat ((first | refine And.intro (rfl : (_ : Nat) = _) ?_ | refine And.intro (rfl : (_ : Bool) = true) ?_ | refine And.intro (Nat.le_of_ble_eq_true rfl) ?_ | refine And.intro ⟨Nat.le_of_ble_eq_true rfl, rfl, rfl⟩ ?_); conv => whnf))
    rw [mod_odd hm]
    by_cases h0 : m % 2 = 0
    · rw [show (m % 2 == 0) = true from by simp [h0]]
      ((conv => whnf); repeat ((first | refine And.intro (rfl : (_ : Nat) = _) ?_ | refine And.intro (rfl : (_ : Bool) = true) ?_ | refine And.intro (Nat.le_of_ble_eq_true rfl) ?_ | refine And.intro ⟨Nat.le_of_ble_eq_true rfl, rfl, rfl⟩ ?_); conv => whnf))
      exact ⟨.inl rfl, .drop ⟨rfl, rfl⟩⟩
    · rw [show (m % 2 == 0) = false from by simp [h0]]
      ((conv => whnf); repeat ((first | refine And.intro (rfl : (_ : Nat) = _) ?_ | refine And.intro (rfl : (_ : Bool) = true) ?_ | refine And.intro (Nat.le_of_ble_eq_true rfl) ?_ | refine And.intro ⟨Nat.le_of_ble_eq_true rfl, rfl, rfl⟩ ?_); conv => whnf))
      refine EqGoal.same (a := m) (b := 1) hm (by omega) ?_
      ((conv => whnf); repeat ((first | refine And.intro (rfl : (_ : Nat) = _) ?_ | refine And.intro (rfl : (_ : Bool) = true) ?_ | refine And.intro (Nat.le_of_ble_eq_true rfl) ?_ | refine And.intro ⟨Nat.le_of_ble_eq_true rfl, rfl, rfl⟩ ?_); conv => whnf))
      exact ⟨.inl rfl, .drop ⟨rfl, rfl⟩⟩
  · have n4 : ∀ x : Int, N4 (x % m) := fun x => low_n4 h x
    have h0 : 0 < m := by have := h.one; omega
    conv => whnf
    first | refine CallGoal.pure (hs) ?_ | refine PCallGoal.pure (hs) ?_
    ((conv => whnf); repeat ((first | refine And.intro (rfl : (_ : Nat) = _) ?_ | refine And.intro (rfl : (_ : Bool) = true) ?_ | refine And.intro (Nat.le_of_ble_eq_true rfl) ?_ | refine And.intro ⟨Nat.le_of_ble_eq_true rfl, rfl, rfl⟩ ?_); conv => whnf))
    first | refine CallGoal.pure (hN h) ?_ | refine PCallGoal.pure (hN h) ?_
    ((conv => whnf); repeat ((first | refine And.intro (rfl : (_ : Nat) = _) ?_ | refine And.intro (rfl : (_ : Bool) = true) ?_ | refine And.intro (Nat.le_of_ble_eq_true rfl) ?_ | refine And.intro ⟨Nat.le_of_ble_eq_true rfl, rfl, rfl⟩ ?_); conv => whnf))
    rw [mod_odd hm, show (m % 2 == 0) = false from by simp [h.odd]]
    ((conv => whnf); repeat ((first | refine And.intro (rfl : (_ : Nat) = _) ?_ | refine And.intro (rfl : (_ : Bool) = true) ?_ | refine And.intro (Nat.le_of_ble_eq_true rfl) ?_ | refine And.intro ⟨Nat.le_of_ble_eq_true rfl, rfl, rfl⟩ ?_); conv => whnf))
    refine EqGoal.num (a := m) (b := 1) hm one_n4 ?_
    rw [decide_eq_false (by have := h.one; omega)]
    ((conv => whnf); repeat ((first | refine And.intro (rfl : (_ : Nat) = _) ?_ | refine And.intro (rfl : (_ : Bool) = true) ?_ | refine And.intro (Nat.le_of_ble_eq_true rfl) ?_ | refine And.intro ⟨Nat.le_of_ble_eq_true rfl, rfl, rfl⟩ ?_); conv => whnf))
    first | refine CallGoal.pure (hU h) ?_ | refine PCallGoal.pure (hU h) ?_
    ((conv => whnf); repeat ((first | refine And.intro (rfl : (_ : Nat) = _) ?_ | refine And.intro (rfl : (_ : Bool) = true) ?_ | refine And.intro (Nat.le_of_ble_eq_true rfl) ?_ | refine And.intro ⟨Nat.le_of_ble_eq_true rfl, rfl, rfl⟩ ?_); conv => whnf))
    refine EqGoal.same (a := m) (b := m) hm rfl ?_
    ((conv => whnf); repeat ((first | refine And.intro (rfl : (_ : Nat) = _) ?_ | refine And.intro (rfl : (_ : Bool) = true) ?_ | refine And.intro (Nat.le_of_ble_eq_true rfl) ?_ | refine And.intro ⟨Nat.le_of_ble_eq_true rfl, rfl, rfl⟩ ?_); conv => whnf))
    first | refine CallGoal.pure (hA h ha hb) ?_ | refine PCallGoal.pure (hA h ha hb) ?_
    ((conv => whnf); repeat ((first | refine And.intro (rfl : (_ : Nat) = _) ?_ | refine And.intro (rfl : (_ : Bool) = true) ?_ | refine And.intro (Nat.le_of_ble_eq_true rfl) ?_ | refine And.intro ⟨Nat.le_of_ble_eq_true rfl, rfl, rfl⟩ ?_); conv => whnf))
    first | refine CallGoal.pure (rA ha hb hm h0) ?_ | refine PCallGoal.pure (rA ha hb hm h0) ?_
    ((conv => whnf); repeat ((first | refine And.intro (rfl : (_ : Nat) = _) ?_ | refine And.intro (rfl : (_ : Bool) = true) ?_ | refine And.intro (Nat.le_of_ble_eq_true rfl) ?_ | refine And.intro ⟨Nat.le_of_ble_eq_true rfl, rfl, rfl⟩ ?_); conv => whnf))
    refine EqGoal.same (n4 _) rfl ?_
    ((conv => whnf); repeat ((first | refine And.intro (rfl : (_ : Nat) = _) ?_ | refine And.intro (rfl : (_ : Bool) = true) ?_ | refine And.intro (Nat.le_of_ble_eq_true rfl) ?_ | refine And.intro ⟨Nat.le_of_ble_eq_true rfl, rfl, rfl⟩ ?_); conv => whnf))
    first | refine CallGoal.pure (hS h ha hb) ?_ | refine PCallGoal.pure (hS h ha hb) ?_
    ((conv => whnf); repeat ((first | refine And.intro (rfl : (_ : Nat) = _) ?_ | refine And.intro (rfl : (_ : Bool) = true) ?_ | refine And.intro (Nat.le_of_ble_eq_true rfl) ?_ | refine And.intro ⟨Nat.le_of_ble_eq_true rfl, rfl, rfl⟩ ?_); conv => whnf))
    first | refine CallGoal.pure (rS ha hb hm h0) ?_ | refine PCallGoal.pure (rS ha hb hm h0) ?_
    ((conv => whnf); repeat ((first | refine And.intro (rfl : (_ : Nat) = _) ?_ | refine And.intro (rfl : (_ : Bool) = true) ?_ | refine And.intro (Nat.le_of_ble_eq_true rfl) ?_ | refine And.intro ⟨Nat.le_of_ble_eq_true rfl, rfl, rfl⟩ ?_); conv => whnf))
    refine EqGoal.same (n4 _) rfl ?_
    ((conv => whnf); repeat ((first | refine And.intro (rfl : (_ : Nat) = _) ?_ | refine And.intro (rfl : (_ : Bool) = true) ?_ | refine And.intro (Nat.le_of_ble_eq_true rfl) ?_ | refine And.intro ⟨Nat.le_of_ble_eq_true rfl, rfl, rfl⟩ ?_); conv => whnf))
    first | refine CallGoal.pure (hM h ha hb) ?_ | refine PCallGoal.pure (hM h ha hb) ?_
    ((conv => whnf); repeat ((first | refine And.intro (rfl : (_ : Nat) = _) ?_ | refine And.intro (rfl : (_ : Bool) = true) ?_ | refine And.intro (Nat.le_of_ble_eq_true rfl) ?_ | refine And.intro ⟨Nat.le_of_ble_eq_true rfl, rfl, rfl⟩ ?_); conv => whnf))
    first | refine CallGoal.pure (rM ha hb hm h0) ?_ | refine PCallGoal.pure (rM ha hb hm h0) ?_
    ((conv => whnf); repeat ((first | refine And.intro (rfl : (_ : Nat) = _) ?_ | refine And.intro (rfl : (_ : Bool) = true) ?_ | refine And.intro (Nat.le_of_ble_eq_true rfl) ?_ | refine And.intro ⟨Nat.le_of_ble_eq_true rfl, rfl, rfl⟩ ?_); conv => whnf))
    refine EqGoal.same (n4 _) rfl ?_
    ((conv => whnf); repeat ((first | refine And.intro (rfl : (_ : Nat) = _) ?_ | refine And.intro (rfl : (_ : Bool) = true) ?_ | refine And.intro (Nat.le_of_ble_eq_true rfl) ?_ | refine And.intro ⟨Nat.le_of_ble_eq_true rfl, rfl, rfl⟩ ?_); conv => whnf))
    exact ⟨.inl rfl, .drop ⟨rfl, rfl⟩⟩

theorem modpows_vc {m a : Int} {e : Nat} (hs : Ans P G 15 [] (.bool true)) (hN : MnewOk P G) (hX : MnewBadOk P G) (hW : MpowOk P G) (hI : MinvOk P G)
    (rW : RefPowOk P G) (rI : RefInvOk P G) (hm : N4 m) (ha : N4 a) (he : N4 (e : Int)) :
    vc P G c5 (Ret [.t 6] (.bool true)) (argFr 0 [num m, num a, num e]) [] := by
  rcases md_or hm with h | h
  · conv => whnf
    first | refine CallGoal.pure (hs) ?_ | refine PCallGoal.pure (hs) ?_
    ((conv => whnf); repeat ((first | refine And.intro (rfl : (_ : Nat) = _) ?_ | refine And.intro (rfl : (_ : Bool) = true) ?_ | refine And.intro (Nat.le_of_ble_eq_true rfl) ?_ | refine And.intro ⟨Nat.le_of_ble_eq_true rfl, rfl, rfl⟩ ?_); conv => whnf))
    first | refine CallGoal.pure (hX hm h) ?_ | refine PCallGoal.pure (hX hm h) ?_
    ((conv => whnf); repeat ((first | refine And.intro (rfl : (_ : Nat) = _) ?_ | refine And.intro (rfl : (_ : Bool) = true) ?_ | refine And.intro (Nat.le_of_ble_eq_true rfl) ?_ | refine And.intro ⟨Nat.le_of_ble_eq_true rfl, rfl, rfl⟩ ?_); conv => whnf))
    rw [mod_odd hm]
    by_cases h0 : m % 2 = 0
    · rw [show (m % 2 == 0) = true from by simp [h0]]
      ((conv => whnf); repeat ((first | refine And.intro (rfl : (_ : Nat) = _) ?_ | refine And.intro (rfl : (_ : Bool) = true) ?_ | refine And.intro (Nat.le_of_ble_eq_true rfl) ?_ | refine And.intro ⟨Nat.le_of_ble_eq_true rfl, rfl, rfl⟩ ?_); conv => whnf))
      exact ⟨.inl rfl, .drop ⟨rfl, rfl⟩⟩
    · rw [show (m % 2 == 0) = false from by simp [h0]]
      ((conv => whnf); repeat ((first | refine And.intro (rfl : (_ : Nat) = _) ?_ | refine And.intro (rfl : (_ : Bool) = true) ?_ | refine And.intro (Nat.le_of_ble_eq_true rfl) ?_ | refine And.intro ⟨Nat.le_of_ble_eq_true rfl, rfl, rfl⟩ ?_); conv => whnf))
      refine EqGoal.same (a := m) (b := 1) hm (by omega) ?_
      ((conv => whnf); repeat ((first | refine And.intro (rfl : (_ : Nat) = _) ?_ | refine And.intro (rfl : (_ : Bool) = true) ?_ | refine And.intro (Nat.le_of_ble_eq_true rfl) ?_ | refine And.intro ⟨Nat.le_of_ble_eq_true rfl, rfl, rfl⟩ ?_); conv => whnf))
      exact ⟨.inl rfl, .drop ⟨rfl, rfl⟩⟩
  · have n4 : ∀ x : Int, N4 (x % m) := fun x => low_n4 h x
    have h1 := h.one
    conv => whnf
    first | refine CallGoal.pure (hs) ?_ | refine PCallGoal.pure (hs) ?_
    ((conv => whnf); repeat ((first | refine And.intro (rfl : (_ : Nat) = _) ?_ | refine And.intro (rfl : (_ : Bool) = true) ?_ | refine And.intro (Nat.le_of_ble_eq_true rfl) ?_ | refine And.intro ⟨Nat.le_of_ble_eq_true rfl, rfl, rfl⟩ ?_); conv => whnf))
    first | refine CallGoal.pure (hN h) ?_ | refine PCallGoal.pure (hN h) ?_
    ((conv => whnf); repeat ((first | refine And.intro (rfl : (_ : Nat) = _) ?_ | refine And.intro (rfl : (_ : Bool) = true) ?_ | refine And.intro (Nat.le_of_ble_eq_true rfl) ?_ | refine And.intro ⟨Nat.le_of_ble_eq_true rfl, rfl, rfl⟩ ?_); conv => whnf))
    first | refine CallGoal.pure (hW h ha he) ?_ | refine PCallGoal.pure (hW h ha he) ?_
    ((conv => whnf); repeat ((first | refine And.intro (rfl : (_ : Nat) = _) ?_ | refine And.intro (rfl : (_ : Bool) = true) ?_ | refine And.intro (Nat.le_of_ble_eq_true rfl) ?_ | refine And.intro ⟨Nat.le_of_ble_eq_true rfl, rfl, rfl⟩ ?_); conv => whnf))
    first | refine CallGoal.pure (rW ha he hm (by omega)) ?_ | refine PCallGoal.pure (rW ha he hm (by omega)) ?_
    ((conv => whnf); repeat ((first | refine And.intro (rfl : (_ : Nat) = _) ?_ | refine And.intro (rfl : (_ : Bool) = true) ?_ | refine And.intro (Nat.le_of_ble_eq_true rfl) ?_ | refine And.intro ⟨Nat.le_of_ble_eq_true rfl, rfl, rfl⟩ ?_); conv => whnf))
    refine EqGoal.same (n4 _) rfl ?_
    ((conv => whnf); repeat ((first | refine And.intro (rfl : (_ : Nat) = _) ?_ | refine And.intro (rfl : (_ : Bool) = true) ?_ | refine And.intro (Nat.le_of_ble_eq_true rfl) ?_ | refine And.intro ⟨Nat.le_of_ble_eq_true rfl, rfl, rfl⟩ ?_); conv => whnf))
    first | refine CallGoal.pure (hI h ha) ?_ | refine PCallGoal.pure (hI h ha) ?_
    ((conv => whnf); repeat ((first | refine And.intro (rfl : (_ : Nat) = _) ?_ | refine And.intro (rfl : (_ : Bool) = true) ?_ | refine And.intro (Nat.le_of_ble_eq_true rfl) ?_ | refine And.intro ⟨Nat.le_of_ble_eq_true rfl, rfl, rfl⟩ ?_); conv => whnf))
    first | refine CallGoal.pure (rI ha hm (by omega)) ?_ | refine PCallGoal.pure (rI ha hm (by omega)) ?_
    ((conv => whnf); repeat ((first | refine And.intro (rfl : (_ : Nat) = _) ?_ | refine And.intro (rfl : (_ : Bool) = true) ?_ | refine And.intro (Nat.le_of_ble_eq_true rfl) ?_ | refine And.intro ⟨Nat.le_of_ble_eq_true rfl, rfl, rfl⟩ ?_); conv => whnf))
    refine EqGoal.same (n4 _) rfl ?_
    ((conv => whnf); repeat ((first | refine And.intro (rfl : (_ : Nat) = _) ?_ | refine And.intro (rfl : (_ : Bool) = true) ?_ | refine And.intro (Nat.le_of_ble_eq_true rfl) ?_ | refine And.intro ⟨Nat.le_of_ble_eq_true rfl, rfl, rfl⟩ ?_); conv => whnf))
    exact ⟨.inl rfl, .drop ⟨rfl, rfl⟩⟩

theorem modnegs_vc {m a b : Int} (hs : Ans P G 15 [] (.bool true)) (hN : MnewOk P G) (hX : MnewBadOk P G) (hA : MaddOk P G) (hS : MsubOk P G) (hM : MmulOk P G) (rL : RefLowOk P G) (hm : N4 m) (ha : N4 a) (hb : N4 b) :
    vc P G c7 (Ret [.t 6] (.bool true)) (argFr 0 [num m, num a, num b]) [] := by
  rcases md_or hm with h | h
  · conv => whnf
    first | refine CallGoal.pure (hs) ?_ | refine PCallGoal.pure (hs) ?_
    ((conv => whnf); repeat ((first | refine And.intro (rfl : (_ : Nat) = _) ?_ | refine And.intro (rfl : (_ : Bool) = true) ?_ | refine And.intro (Nat.le_of_ble_eq_true rfl) ?_ | refine And.intro ⟨Nat.le_of_ble_eq_true rfl, rfl, rfl⟩ ?_); conv => whnf))
    first | refine CallGoal.pure (hX hm h) ?_ | refine PCallGoal.pure (hX hm h) ?_
    ((conv => whnf); repeat ((first | refine And.intro (rfl : (_ : Nat) = _) ?_ | refine And.intro (rfl : (_ : Bool) = true) ?_ | refine And.intro (Nat.le_of_ble_eq_true rfl) ?_ | refine And.intro ⟨Nat.le_of_ble_eq_true rfl, rfl, rfl⟩ ?_); conv => whnf))
    rw [mod_odd hm]
    by_cases h0 : m % 2 = 0
    · rw [show (m % 2 == 0) = true from by simp [h0]]
      ((conv => whnf); repeat ((first | refine And.intro (rfl : (_ : Nat) = _) ?_ | refine And.intro (rfl : (_ : Bool) = true) ?_ | refine And.intro (Nat.le_of_ble_eq_true rfl) ?_ | refine And.intro ⟨Nat.le_of_ble_eq_true rfl, rfl, rfl⟩ ?_); conv => whnf))
      exact ⟨.inl rfl, .drop ⟨rfl, rfl⟩⟩
    · rw [show (m % 2 == 0) = false from by simp [h0]]
      ((conv => whnf); repeat ((first | refine And.intro (rfl : (_ : Nat) = _) ?_ | refine And.intro (rfl : (_ : Bool) = true) ?_ | refine And.intro (Nat.le_of_ble_eq_true rfl) ?_ | refine And.intro ⟨Nat.le_of_ble_eq_true rfl, rfl, rfl⟩ ?_); conv => whnf))
      refine EqGoal.same (a := m) (b := 1) hm (by omega) ?_
      ((conv => whnf); repeat ((first | refine And.intro (rfl : (_ : Nat) = _) ?_ | refine And.intro (rfl : (_ : Bool) = true) ?_ | refine And.intro (Nat.le_of_ble_eq_true rfl) ?_ | refine And.intro ⟨Nat.le_of_ble_eq_true rfl, rfl, rfl⟩ ?_); conv => whnf))
      exact ⟨.inl rfl, .drop ⟨rfl, rfl⟩⟩
  · have n4 : ∀ x : Int, N4 (x % m) := fun x => low_n4 h x
    have z4 : N4 0 := small_n4 (by decide) (by decide)
    have h1 := h.one
    conv => whnf
    first | refine CallGoal.pure (hs) ?_ | refine PCallGoal.pure (hs) ?_
    ((conv => whnf); repeat ((first | refine And.intro (rfl : (_ : Nat) = _) ?_ | refine And.intro (rfl : (_ : Bool) = true) ?_ | refine And.intro (Nat.le_of_ble_eq_true rfl) ?_ | refine And.intro ⟨Nat.le_of_ble_eq_true rfl, rfl, rfl⟩ ?_); conv => whnf))
    first | refine CallGoal.pure (hN h) ?_ | refine PCallGoal.pure (hN h) ?_
    ((conv => whnf); repeat ((first | refine And.intro (rfl : (_ : Nat) = _) ?_ | refine And.intro (rfl : (_ : Bool) = true) ?_ | refine And.intro (Nat.le_of_ble_eq_true rfl) ?_ | refine And.intro ⟨Nat.le_of_ble_eq_true rfl, rfl, rfl⟩ ?_); conv => whnf))
    first | refine CallGoal.pure (hS (a := 0) h z4 ha) ?_ | refine PCallGoal.pure (hS (a := 0) h z4 ha) ?_
    ((conv => whnf); repeat ((first | refine And.intro (rfl : (_ : Nat) = _) ?_ | refine And.intro (rfl : (_ : Bool) = true) ?_ | refine And.intro (Nat.le_of_ble_eq_true rfl) ?_ | refine And.intro ⟨Nat.le_of_ble_eq_true rfl, rfl, rfl⟩ ?_); conv => whnf))
    intro t9
    ((conv => whnf); repeat ((first | refine And.intro (rfl : (_ : Nat) = _) ?_ | refine And.intro (rfl : (_ : Bool) = true) ?_ | refine And.intro (Nat.le_of_ble_eq_true rfl) ?_ | refine And.intro ⟨Nat.le_of_ble_eq_true rfl, rfl, rfl⟩ ?_); conv => whnf))
    first | refine CallGoal.pure (rL ha hm (by omega)) ?_ | refine PCallGoal.pure (rL ha hm (by omega)) ?_
    ((conv => whnf); repeat ((first | refine And.intro (rfl : (_ : Nat) = _) ?_ | refine And.intro (rfl : (_ : Bool) = true) ?_ | refine And.intro (Nat.le_of_ble_eq_true rfl) ?_ | refine And.intro ⟨Nat.le_of_ble_eq_true rfl, rfl, rfl⟩ ?_); conv => whnf))
    intro t10
    ((conv => whnf); repeat ((first | refine And.intro (rfl : (_ : Nat) = _) ?_ | refine And.intro (rfl : (_ : Bool) = true) ?_ | refine And.intro (Nat.le_of_ble_eq_true rfl) ?_ | refine And.intro ⟨Nat.le_of_ble_eq_true rfl, rfl, rfl⟩ ?_); conv => whnf))
    first | refine CallGoal.pure (hA h (n4 _) ha) ?_ | refine PCallGoal.pure (hA h (n4 _) ha) ?_
    ((conv => whnf); repeat ((first | refine And.intro (rfl : (_ : Nat) = _) ?_ | refine And.intro (rfl : (_ : Bool) = true) ?_ | refine And.intro (Nat.le_of_ble_eq_true rfl) ?_ | refine And.intro ⟨Nat.le_of_ble_eq_true rfl, rfl, rfl⟩ ?_); conv => whnf))
    refine EqGoal.same (a := ((0 - a) % m + a) % m) (b := 0) (n4 _) (by rw [Int.emod_add_emod, Int.sub_add_cancel, Int.zero_emod]) ?_
    ((conv => whnf); repeat ((first | refine And.intro (rfl : (_ : Nat) = _) ?_ | refine And.intro (rfl : (_ : Bool) = true) ?_ | refine And.intro (Nat.le_of_ble_eq_true rfl) ?_ | refine And.intro ⟨Nat.le_of_ble_eq_true rfl, rfl, rfl⟩ ?_); conv => whnf))
    first | refine CallGoal.pure (hM h (n4 _) hb) ?_ | refine PCallGoal.pure (hM h (n4 _) hb) ?_
    ((conv => whnf); repeat ((first | refine And.intro (rfl : (_ : Nat) = _) ?_ | refine And.intro (rfl : (_ : Bool) = true) ?_ | refine And.intro (Nat.le_of_ble_eq_true rfl) ?_ | refine And.intro ⟨Nat.le_of_ble_eq_true rfl, rfl, rfl⟩ ?_); conv => whnf))
    first | refine CallGoal.pure (hM h ha hb) ?_ | refine PCallGoal.pure (hM h ha hb) ?_
    ((conv => whnf); repeat ((first | refine And.intro (rfl : (_ : Nat) = _) ?_ | refine And.intro (rfl : (_ : Bool) = true) ?_ | refine And.intro (Nat.le_of_ble_eq_true rfl) ?_ | refine And.intro ⟨Nat.le_of_ble_eq_true rfl, rfl, rfl⟩ ?_); conv => whnf))
    first | refine CallGoal.pure (hS (a := 0) h z4 (n4 _)) ?_ | refine PCallGoal.pure (hS (a := 0) h z4 (n4 _)) ?_
    ((conv => whnf); repeat ((first | refine And.intro (rfl : (_ : Nat) = _) ?_ | refine And.intro (rfl : (_ : Bool) = true) ?_ | refine And.intro (Nat.le_of_ble_eq_true rfl) ?_ | refine And.intro ⟨Nat.le_of_ble_eq_true rfl, rfl, rfl⟩ ?_); conv => whnf))
    refine EqGoal.same (n4 _) (by rw [mul_mod_l, Int.sub_emod 0 (a * b % m), mm_mod, ← Int.sub_emod, Int.sub_mul, Int.zero_mul]) ?_
    ((conv => whnf); repeat ((first | refine And.intro (rfl : (_ : Nat) = _) ?_ | refine And.intro (rfl : (_ : Bool) = true) ?_ | refine And.intro (Nat.le_of_ble_eq_true rfl) ?_ | refine And.intro ⟨Nat.le_of_ble_eq_true rfl, rfl, rfl⟩ ?_); conv => whnf))
    first | refine CallGoal.pure (hA h (n4 _) hb) ?_ | refine PCallGoal.pure (hA h (n4 _) hb) ?_
    ((conv => whnf); repeat ((first | refine And.intro (rfl : (_ : Nat) = _) ?_ | refine And.intro (rfl : (_ : Bool) = true) ?_ | refine And.intro (Nat.le_of_ble_eq_true rfl) ?_ | refine And.intro ⟨Nat.le_of_ble_eq_true rfl, rfl, rfl⟩ ?_); conv => whnf))
    first | refine CallGoal.pure (hA h ha hb) ?_ | refine PCallGoal.pure (hA h ha hb) ?_
    ((conv => whnf); repeat ((first | refine And.intro (rfl : (_ : Nat) = _) ?_ | refine And.intro (rfl : (_ : Bool) = true) ?_ | refine And.intro (Nat.le_of_ble_eq_true rfl) ?_ | refine And.intro ⟨Nat.le_of_ble_eq_true rfl, rfl, rfl⟩ ?_); conv => whnf))
    refine EqGoal.same (n4 _) (by rw [Int.emod_add_emod]) ?_
    ((conv => whnf); repeat ((first | refine And.intro (rfl : (_ : Nat) = _) ?_ | refine And.intro (rfl : (_ : Bool) = true) ?_ | refine And.intro (Nat.le_of_ble_eq_true rfl) ?_ | refine And.intro ⟨Nat.le_of_ble_eq_true rfl, rfl, rfl⟩ ?_); conv => whnf))
    first | refine CallGoal.pure (hM h (n4 _) hb) ?_ | refine PCallGoal.pure (hM h (n4 _) hb) ?_
    ((conv => whnf); repeat ((first | refine And.intro (rfl : (_ : Nat) = _) ?_ | refine And.intro (rfl : (_ : Bool) = true) ?_ | refine And.intro (Nat.le_of_ble_eq_true rfl) ?_ | refine And.intro ⟨Nat.le_of_ble_eq_true rfl, rfl, rfl⟩ ?_); conv => whnf))
    first | refine CallGoal.pure (hM h ha hb) ?_ | refine PCallGoal.pure (hM h ha hb) ?_
    ((conv => whnf); repeat ((first | refine And.intro (rfl : (_ : Nat) = _) ?_ | refine And.intro (rfl : (_ : Bool) = true) ?_ | refine And.intro (Nat.le_of_ble_eq_true rfl) ?_ | refine And.intro ⟨Nat.le_of_ble_eq_true rfl, rfl, rfl⟩ ?_); conv => whnf))
    refine EqGoal.same (n4 _) (by rw [mul_mod_l]) ?_
    ((conv => whnf); repeat ((first | refine And.intro (rfl : (_ : Nat) = _) ?_ | refine And.intro (rfl : (_ : Bool) = true) ?_ | refine And.intro (Nat.le_of_ble_eq_true rfl) ?_ | refine And.intro ⟨Nat.le_of_ble_eq_true rfl, rfl, rfl⟩ ?_); conv => whnf))
    first | refine CallGoal.pure (hS h hb (n4 _)) ?_ | refine PCallGoal.pure (hS h hb (n4 _)) ?_
    ((conv => whnf); repeat ((first | refine And.intro (rfl : (_ : Nat) = _) ?_ | refine And.intro (rfl : (_ : Bool) = true) ?_ | refine And.intro (Nat.le_of_ble_eq_true rfl) ?_ | refine And.intro ⟨Nat.le_of_ble_eq_true rfl, rfl, rfl⟩ ?_); conv => whnf))
    first | refine CallGoal.pure (hS h hb ha) ?_ | refine PCallGoal.pure (hS h hb ha) ?_
    ((conv => whnf); repeat ((first | refine And.intro (rfl : (_ : Nat) = _) ?_ | refine And.intro (rfl : (_ : Bool) = true) ?_ | refine And.intro (Nat.le_of_ble_eq_true rfl) ?_ | refine And.intro ⟨Nat.le_of_ble_eq_true rfl, rfl, rfl⟩ ?_); conv => whnf))
    refine EqGoal.same (n4 _) (by rw [Int.sub_emod b (a % m), mm_mod, ← Int.sub_emod]) ?_
    ((conv => whnf); repeat ((first | refine And.intro (rfl : (_ : Nat) = _) ?_ | refine And.intro (rfl : (_ : Bool) = true) ?_ | refine And.intro (Nat.le_of_ble_eq_true rfl) ?_ | refine And.intro ⟨Nat.le_of_ble_eq_true rfl, rfl, rfl⟩ ?_); conv => whnf))
    exact ⟨.inl rfl, .drop ⟨rfl, rfl⟩⟩
end Go.Proofs.Yteknjhamekpfjaa
