/- Walks: the law ModPrimes; the laws of the program itself. -/
import Derived.Test.YteknjhamekpfjaaModV
import Derived.Test.YteknjhamekpfjaaModK
import Derived.Test.YteknjhamekpfjaaNumQ
namespace Go.Proofs.Yteknjhamekpfjaa
open Go.Eng Go.Num
set_option maxHeartbeats 4000000
set_option maxRecDepth 10000
set_option linter.unusedVariables false
set_option linter.unusedSimpArgs false
section
variable {P : Program} {G : Nat → AV}

/-- A number that is not 0 by a prime, times its inverse. -/
theorem inv_fact {p : Nat} (h2 : 2 < p) (hf : ∀ a : Nat, a % p ≠ 0 → a ^ (p - 1) % p = 1) (a : Int) (ha : 0 ≤ a) (hne : a % (p : Int) ≠ 0) : a * (a ^ ((p : Int) - 2).toNat % (p : Int)) % (p : Int) = 1 := by
  obtain ⟨n, rfl⟩ : ∃ n : Nat, a = n := ⟨a.toNat, by omega⟩
  have h1 := hf n fun e => hne (by exact_mod_cast e)
  rw [mul_mod_r, Int.mul_comm, ← Int.pow_succ, show ((p : Int) - 2).toNat.succ = p - 1 from by omega]
  exact_mod_cast h1
def PA : Int := 57896044618658097711785492504343953926634992332820282019728792003956564819949
def PB : Int := 7237005577332262213973186563042994240857116359379907606001950938285454250989
def PC : Int := 115792089210356248762697446949407573530086143415290314195533631308867097853951
def PD : Int := 115792089210356248762697446949407573529996955224135760342422259061068512044369
theorem pa_inv (a : Int) (ha : 0 ≤ a) (hne : a % PA ≠ 0) : a * (a ^ (PA - 2).toNat % PA) % PA = 1 := inv_fact (p := 57896044618658097711785492504343953926634992332820282019728792003956564819949) (by decide) unitsP25519 a ha hne
theorem pb_inv (a : Int) (ha : 0 ≤ a) (hne : a % PB ≠ 0) : a * (a ^ (PB - 2).toNat % PB) % PB = 1 := inv_fact (p := 7237005577332262213973186563042994240857116359379907606001950938285454250989) (by decide) unitsL25519 a ha hne
theorem pc_inv (a : Int) (ha : 0 ≤ a) (hne : a % PC ≠ 0) : a * (a ^ (PC - 2).toNat % PC) % PC = 1 := inv_fact (p := 115792089210356248762697446949407573530086143415290314195533631308867097853951) (by decide) unitsP256 a ha hne
theorem pd_inv (a : Int) (ha : 0 ≤ a) (hne : a % PD ≠ 0) : a * (a ^ (PD - 2).toNat % PD) % PD = 1 := inv_fact (p := 115792089210356248762697446949407573529996955224135760342422259061068512044369) (by decide) unitsN256 a ha hne
theorem pa_dig : dig 4 PA = [18446744073709551597, 18446744073709551615, 18446744073709551615, 9223372036854775807] := by decide
theorem pb_dig : dig 4 PB = [6346243789798364141, 1503914060200516822, 0, 1152921504606846976] := by decide
theorem pc_dig : dig 4 PC = [18446744073709551615, 4294967295, 0, 18446744069414584321] := by decide
theorem pd_dig : dig 4 PD = [17562291160714782033, 13611842547513532036, 18446744073709551615, 18446744069414584320] := by decide
theorem pa_md : Md PA := ⟨by decide, by decide, by decide⟩
theorem pb_md : Md PB := ⟨by decide, by decide, by decide⟩
theorem pc_md : Md PC := ⟨by decide, by decide, by decide⟩
theorem pd_md : Md PD := ⟨by decide, by decide, by decide⟩
theorem primes_vc : vc P G c24 (Ret [.cell 0 16 true] (.agg (ws (dig 4 PA ++ (dig 4 PB ++ (dig 4 PC ++ dig 4 PD)))))) (argFr 0 []) [] := by
  rw [pa_dig, pb_dig, pc_dig, pd_dig]
  conv => whnf
  intro t0
  ((conv => whnf); repeat ((first | refine And.intro (rfl : (_ : Nat) = _) ?_ | refine And.intro (rfl : (_ : Bool) = true) ?_ | refine And.intro (Nat.le_of_ble_eq_true rfl) ?_ | refine And.intro ⟨Nat.le_of_ble_eq_true rfl, rfl, rfl⟩ ?_); conv => whnf))
  refine ⟨.inl rfl, .drop ?_⟩
  ((conv => whnf); repeat ((first | refine And.intro (rfl : (_ : Nat) = _) ?_ | refine And.intro (rfl : (_ : Bool) = true) ?_ | refine And.intro (Nat.le_of_ble_eq_true rfl) ?_ | refine And.intro ⟨Nat.le_of_ble_eq_true rfl, rfl, rfl⟩ ?_); conv => whnf))
  refine ⟨?_, rfl⟩
  rfl
theorem tmod_four (w : Int) : Int.tmod (IntKind.i64.wrap (Int.tmod w 4 + 4)) 4 = 0 ∨ Int.tmod (IntKind.i64.wrap (Int.tmod w 4 + 4)) 4 = 1 ∨ Int.tmod (IntKind.i64.wrap (Int.tmod w 4 + 4)) 4 = 2 ∨ Int.tmod (IntKind.i64.wrap (Int.tmod w 4 + 4)) 4 = 3 := by
  have h : -4 < Int.tmod w 4 ∧ Int.tmod w 4 < 4 := ⟨Int.lt_tmod_of_pos w (by decide), Int.tmod_lt_of_pos w (by decide)⟩
  rw [wr64 (by omega) (by omega), Int.tmod_eq_emod_of_nonneg (by omega)]
  omega
theorem modprimes_vc {which a : Int} (hs : Ans P G 15 [] (.bool true)) (hP : Ans P G 24 [] (.agg (ws (dig 4 PA ++ (dig 4 PB ++ (dig 4 PC ++ dig 4 PD)))))) (hN : MnewOk P G) (hM : MmulOk P G) (hI : MinvOk P G) (rL : RefLowOk P G) (ha : N4 a) :
    vc P G c6 (Ret [.t 4] (.bool true)) (argFr 0 [.int .i64 which, num a]) [] := by
  have z4 : N4 0 := small_n4 (by decide) (by decide)
  conv => whnf
  first | refine CallGoal.pure (hs) ?_ | refine PCallGoal.pure (hs) ?_
  ((conv => whnf); repeat ((first | refine And.intro (rfl : (_ : Nat) = _) ?_ | refine And.intro (rfl : (_ : Bool) = true) ?_ | refine And.intro (Nat.le_of_ble_eq_true rfl) ?_ | refine And.intro ⟨Nat.le_of_ble_eq_true rfl, rfl, rfl⟩ ?_); conv => whnf))
  first | refine CallGoal.pure (hP) ?_ | refine PCallGoal.pure (hP) ?_
  ((conv => whnf); repeat ((first | refine And.intro (rfl : (_ : Nat) = _) ?_ | refine And.intro (rfl : (_ : Bool) = true) ?_ | refine And.intro (Nat.le_of_ble_eq_true rfl) ?_ | refine And.intro ⟨Nat.le_of_ble_eq_true rfl, rfl, rfl⟩ ?_); conv => whnf))
  rcases tmod_four which with hw | hw | hw | hw
  · rw [hw]
    have md := pa_md
    have n4 : ∀ x : Int, N4 (x % PA) := fun x => low_n4 md x
    have h1 := md.one
    have fact := pa_inv a ha.1
    ((conv => whnf); repeat ((first | refine And.intro (rfl : (_ : Nat) = _) ?_ | refine And.intro (rfl : (_ : Bool) = true) ?_ | refine And.intro (Nat.le_of_ble_eq_true rfl) ?_ | refine And.intro ⟨Nat.le_of_ble_eq_true rfl, rfl, rfl⟩ ?_); conv => whnf))
    intro t5
    ((conv => whnf); repeat ((first | refine And.intro (rfl : (_ : Nat) = _) ?_ | refine And.intro (rfl : (_ : Bool) = true) ?_ | refine And.intro (Nat.le_of_ble_eq_true rfl) ?_ | refine And.intro ⟨Nat.le_of_ble_eq_true rfl, rfl, rfl⟩ ?_); conv => whnf))
    first | refine CallGoal.pure (hN (m := PA) md) ?_ | refine PCallGoal.pure (hN (m := PA) md) ?_
    ((conv => whnf); repeat ((first | refine And.intro (rfl : (_ : Nat) = _) ?_ | refine And.intro (rfl : (_ : Bool) = true) ?_ | refine And.intro (Nat.le_of_ble_eq_true rfl) ?_ | refine And.intro ⟨Nat.le_of_ble_eq_true rfl, rfl, rfl⟩ ?_); conv => whnf))
    intro t8
    ((conv => whnf); repeat ((first | refine And.intro (rfl : (_ : Nat) = _) ?_ | refine And.intro (rfl : (_ : Bool) = true) ?_ | refine And.intro (Nat.le_of_ble_eq_true rfl) ?_ | refine And.intro ⟨Nat.le_of_ble_eq_true rfl, rfl, rfl⟩ ?_); conv => whnf))
    first | refine CallGoal.pure (rL (a := a) (m := PA) ha md.n4 (by omega)) ?_ | refine PCallGoal.pure (rL (a := a) (m := PA) ha md.n4 (by omega)) ?_
    ((conv => whnf); repeat ((first | refine And.intro (rfl : (_ : Nat) = _) ?_ | refine And.intro (rfl : (_ : Bool) = true) ?_ | refine And.intro (Nat.le_of_ble_eq_true rfl) ?_ | refine And.intro ⟨Nat.le_of_ble_eq_true rfl, rfl, rfl⟩ ?_); conv => whnf))
    by_cases hz : a % PA = 0
    · refine EqGoal.num (a := a % PA) (b := 0) (n4 _) z4 ?_
      rw [decide_eq_true hz]
      ((conv => whnf); repeat ((first | refine And.intro (rfl : (_ : Nat) = _) ?_ | refine And.intro (rfl : (_ : Bool) = true) ?_ | refine And.intro (Nat.le_of_ble_eq_true rfl) ?_ | refine And.intro ⟨Nat.le_of_ble_eq_true rfl, rfl, rfl⟩ ?_); conv => whnf))
      first | refine CallGoal.pure (hI (m := PA) (a := a) md ha) ?_ | refine PCallGoal.pure (hI (m := PA) (a := a) md ha) ?_
      ((conv => whnf); repeat ((first | refine And.intro (rfl : (_ : Nat) = _) ?_ | refine And.intro (rfl : (_ : Bool) = true) ?_ | refine And.intro (Nat.le_of_ble_eq_true rfl) ?_ | refine And.intro ⟨Nat.le_of_ble_eq_true rfl, rfl, rfl⟩ ?_); conv => whnf))
      first | refine CallGoal.pure (hM (m := PA) md ha (n4 _)) ?_ | refine PCallGoal.pure (hM (m := PA) md ha (n4 _)) ?_
      ((conv => whnf); repeat ((first | refine And.intro (rfl : (_ : Nat) = _) ?_ | refine And.intro (rfl : (_ : Bool) = true) ?_ | refine And.intro (Nat.le_of_ble_eq_true rfl) ?_ | refine And.intro ⟨Nat.le_of_ble_eq_true rfl, rfl, rfl⟩ ?_); conv => whnf))
      refine EqGoal.same (a := a * (a ^ (PA - 2).toNat % PA) % PA) (b := 0) (n4 _) (by rw [Int.mul_emod, hz, Int.zero_mul, Int.zero_emod]) ?_
      ((conv => whnf); repeat ((first | refine And.intro (rfl : (_ : Nat) = _) ?_ | refine And.intro (rfl : (_ : Bool) = true) ?_ | refine And.intro (Nat.le_of_ble_eq_true rfl) ?_ | refine And.intro ⟨Nat.le_of_ble_eq_true rfl, rfl, rfl⟩ ?_); conv => whnf))
      exact ⟨.inl rfl, .drop ⟨rfl, rfl⟩⟩
    · refine EqGoal.num (a := a % PA) (b := 0) (n4 _) z4 ?_
      rw [decide_eq_false hz]
      ((conv => whnf); repeat ((first | refine And.intro (rfl : (_ : Nat) = _) ?_ | refine And.intro (rfl : (_ : Bool) = true) ?_ | refine And.intro (Nat.le_of_ble_eq_true rfl) ?_ | refine And.intro ⟨Nat.le_of_ble_eq_true rfl, rfl, rfl⟩ ?_); conv => whnf))
      first | refine CallGoal.pure (hI (m := PA) (a := a) md ha) ?_ | refine PCallGoal.pure (hI (m := PA) (a := a) md ha) ?_
      ((conv => whnf); repeat ((first | refine And.intro (rfl : (_ : Nat) = _) ?_ | refine And.intro (rfl : (_ : Bool) = true) ?_ | refine And.intro (Nat.le_of_ble_eq_true rfl) ?_ | refine And.intro ⟨Nat.le_of_ble_eq_true rfl, rfl, rfl⟩ ?_); conv => whnf))
      first | refine CallGoal.pure (hM (m := PA) md ha (n4 _)) ?_ | refine PCallGoal.pure (hM (m := PA) md ha (n4 _)) ?_
      ((conv => whnf); repeat ((first | refine And.intro (rfl : (_ : Nat) = _) ?_ | refine And.intro (rfl : (_ : Bool) = true) ?_ | refine And.intro (Nat.le_of_ble_eq_true rfl) ?_ | refine And.intro ⟨Nat.le_of_ble_eq_true rfl, rfl, rfl⟩ ?_); conv => whnf))
      refine EqGoal.same (a := a * (a ^ (PA - 2).toNat % PA) % PA) (b := 1) (n4 _) (fact hz) ?_
      ((conv => whnf); repeat ((first | refine And.intro (rfl : (_ : Nat) = _) ?_ | refine And.intro (rfl : (_ : Bool) = true) ?_ | refine And.intro (Nat.le_of_ble_eq_true rfl) ?_ | refine And.intro ⟨Nat.le_of_ble_eq_true rfl, rfl, rfl⟩ ?_); conv => whnf))
      exact ⟨.inl rfl, .drop ⟨rfl, rfl⟩⟩
  · rw [hw]
    have md := pb_md
    have n4 : ∀ x : Int, N4 (x % PB) := fun x => low_n4 md x
    have h1 := md.one
    have fact := pb_inv a ha.1
    ((conv => whnf); repeat ((first | refine And.intro (rfl : (_ : Nat) = _) ?_ | refine And.intro (rfl : (_ : Bool) = true) ?_ | refine And.intro (Nat.le_of_ble_eq_true rfl) ?_ | refine And.intro ⟨Nat.le_of_ble_eq_true rfl, rfl, rfl⟩ ?_); conv => whnf))
    intro t5
    ((conv => whnf); repeat ((first | refine And.intro (rfl : (_ : Nat) = _) ?_ | refine And.intro (rfl : (_ : Bool) = true) ?_ | refine And.intro (Nat.le_of_ble_eq_true rfl) ?_ | refine And.intro ⟨Nat.le_of_ble_eq_true rfl, rfl, rfl⟩ ?_); conv => whnf))
    first | refine CallGoal.pure (hN (m := PB) md) ?_ | refine PCallGoal.pure (hN (m := PB) md) ?_
    ((conv => whnf); repeat ((first | refine And.intro (rfl : (_ : Nat) = _) ?_ | refine And.intro (rfl : (_ : Bool) = true) ?_ | refine And.intro (Nat.le_of_ble_eq_true rfl) ?_ | refine And.intro ⟨Nat.le_of_ble_eq_true rfl, rfl, rfl⟩ ?_); conv => whnf))
    intro t8
    ((conv => whnf); repeat ((first | refine And.intro (rfl : (_ : Nat) = _) ?_ | refine And.intro (rfl : (_ : Bool) = true) ?_ | refine And.intro (Nat.le_of_ble_eq_true rfl) ?_ | refine And.intro ⟨Nat.le_of_ble_eq_true rfl, rfl, rfl⟩ ?_); conv => whnf))
    first | refine CallGoal.pure (rL (a := a) (m := PB) ha md.n4 (by omega)) ?_ | refine PCallGoal.pure (rL (a := a) (m := PB) ha md.n4 (by omega)) ?_
    ((conv => whnf); repeat ((first | refine And.intro (rfl : (_ : Nat) = _) ?_ | refine And.intro (rfl : (_ : Bool) = true) ?_ | refine And.intro (Nat.le_of_ble_eq_true rfl) ?_ | refine And.intro ⟨Nat.le_of_ble_eq_true rfl, rfl, rfl⟩ ?_); conv => whnf))
    by_cases hz : a % PB = 0
    · refine EqGoal.num (a := a % PB) (b := 0) (n4 _) z4 ?_
      rw [decide_eq_true hz]
      ((conv => whnf); repeat ((first | refine And.intro (rfl : (_ : Nat) = _) ?_ | refine And.intro (rfl : (_ : Bool) = true) ?_ | refine And.intro (Nat.le_of_ble_eq_true rfl) ?_ | refine And.intro ⟨Nat.le_of_ble_eq_true rfl, rfl, rfl⟩ ?_); conv => whnf))
      first | refine CallGoal.pure (hI (m := PB) (a := a) md ha) ?_ | refine PCallGoal.pure (hI (m := PB) (a := a) md ha) ?_
      ((conv => whnf); repeat ((first | refine And.intro (rfl : (_ : Nat) = _) ?_ | refine And.intro (rfl : (_ : Bool) = true) ?_ | refine And.intro (Nat.le_of_ble_eq_true rfl) ?_ | refine And.intro ⟨Nat.le_of_ble_eq_true rfl, rfl, rfl⟩ ?_); conv => whnf))
      first | refine CallGoal.pure (hM (m := PB) md ha (n4 _)) ?_ | refine PCallGoal.pure (hM (m := PB) md ha (n4 _)) ?_
      ((conv => whnf); repeat ((first | refine And.intro (rfl : (_ : Nat) = _) ?_ | refine And.intro (rfl : (_ : Bool) = true) ?_ | refine And.intro (Nat.le_of_ble_eq_true rfl) ?_ | refine And.intro ⟨Nat.le_of_ble_eq_true rfl, rfl, rfl⟩ ?_); conv => whnf))
      refine EqGoal.same (a := a * (a ^ (PB - 2).toNat % PB) % PB) (b := 0) (n4 _) (by rw [Int.mul_emod, hz, Int.zero_mul, Int.zero_emod]) ?_
      ((conv => whnf); repeat ((first | refine And.intro (rfl : (_ : Nat) = _) ?_ | refine And.intro (rfl : (_ : Bool) = true) ?_ | refine And.intro (Nat.le_of_ble_eq_true rfl) ?_ | refine And.intro ⟨Nat.le_of_ble_eq_true rfl, rfl, rfl⟩ ?_); conv => whnf))
      exact ⟨.inl rfl, .drop ⟨rfl, rfl⟩⟩
    · refine EqGoal.num (a := a % PB) (b := 0) (n4 _) z4 ?_
      rw [decide_eq_false hz]
      ((conv => whnf); repeat ((first | refine And.intro (rfl : (_ : Nat) = _) ?_ | refine And.intro (rfl : (_ : Bool) = true) ?_ | refine And.intro (Nat.le_of_ble_eq_true rfl) ?_ | refine And.intro ⟨Nat.le_of_ble_eq_true rfl, rfl, rfl⟩ ?_); conv => whnf))
      first | refine CallGoal.pure (hI (m := PB) (a := a) md ha) ?_ | refine PCallGoal.pure (hI (m := PB) (a := a) md ha) ?_
      ((conv => whnf); repeat ((first | refine And.intro (rfl : (_ : Nat) = _) ?_ | refine And.intro (rfl : (_ : Bool) = true) ?_ | refine And.intro (Nat.le_of_ble_eq_true rfl) ?_ | refine And.intro ⟨Nat.le_of_ble_eq_true rfl, rfl, rfl⟩ ?_); conv => whnf))
      first | refine CallGoal.pure (hM (m := PB) md ha (n4 _)) ?_ | refine PCallGoal.pure (hM (m := PB) md ha (n4 _)) ?_
      ((conv => whnf); repeat ((first | refine And.intro (rfl : (_ : Nat) = _) ?_ | refine And.intro (rfl : (_ : Bool) = true) ?_ | refine And.intro (Nat.le_of_ble_eq_true rfl) ?_ | refine And.intro ⟨Nat.le_of_ble_eq_true rfl, rfl, rfl⟩ ?_); conv => whnf))
      refine EqGoal.same (a := a * (a ^ (PB - 2).toNat % PB) % PB) (b := 1) (n4 _) (fact hz) ?_
      ((conv => whnf); repeat ((first | refine And.intro (rfl : (_ : Nat) = _) ?_ | refine And.intro (rfl : (_ : Bool) = true) ?_ | refine And.intro (Nat.le_of_ble_eq_true rfl) ?_ | refine And.intro ⟨Nat.le_of_ble_eq_true rfl, rfl, rfl⟩ ?_); conv => whnf))
      exact ⟨.inl rfl, .drop ⟨rfl, rfl⟩⟩
  · rw [hw]
    have md := pc_md
    have n4 : ∀ x : Int, N4 (x % PC) := fun x => low_n4 md x
    have h1 := md.one
    have fact := pc_inv a ha.1
    ((conv => whnf); repeat ((first | refine And.intro (rfl : (_ : Nat) = _) ?_ | refine And.intro (rfl : (_ : Bool) = true) ?_ | refine And.intro (Nat.le_of_ble_eq_true rfl) ?_ | refine And.intro ⟨Nat.le_of_ble_eq_true rfl, rfl, rfl⟩ ?_); conv => whnf))
    intro t5
    ((conv => whnf); repeat ((first | refine And.intro (rfl : (_ : Nat) = _) ?_ | refine And.intro (rfl : (_ : Bool) = true) ?_ | refine And.intro (Nat.le_of_ble_eq_true rfl) ?_ | refine And.intro ⟨Nat.le_of_ble_eq_true rfl, rfl, rfl⟩ ?_); conv => whnf))
    first | refine CallGoal.pure (hN (m := PC) md) ?_ | refine PCallGoal.pure (hN (m := PC) md) ?_
    ((conv => whnf); repeat ((first | refine And.intro (rfl : (_ : Nat) = _) ?_ | refine And.intro (rfl : (_ : Bool) = true) ?_ | refine And.intro (Nat.le_of_ble_eq_true rfl) ?_ | refine And.intro ⟨Nat.le_of_ble_eq_true rfl, rfl, rfl⟩ ?_); conv => whnf))
    intro t8
    ((conv => whnf); repeat ((first | refine And.intro (rfl : (_ : Nat) = _) ?_ | refine And.intro (rfl : (_ : Bool) = true) ?_ | refine And.intro (Nat.le_of_ble_eq_true rfl) ?_ | refine And.intro ⟨Nat.le_of_ble_eq_true rfl, rfl, rfl⟩ ?_); conv => whnf))
    first | refine CallGoal.pure (rL (a := a) (m := PC) ha md.n4 (by omega)) ?_ | refine PCallGoal.pure (rL (a := a) (m := PC) ha md.n4 (by omega)) ?_
    ((conv => whnf); repeat ((first | refine And.intro (rfl : (_ : Nat) = _) ?_ | refine And.intro (rfl : (_ : Bool) = true) ?_ | refine And.intro (Nat.le_of_ble_eq_true rfl) ?_ | refine And.intro ⟨Nat.le_of_ble_eq_true rfl, rfl, rfl⟩ ?_); conv => whnf))
    by_cases hz : a % PC = 0
    · refine EqGoal.num (a := a % PC) (b := 0) (n4 _) z4 ?_
      rw [decide_eq_true hz]
      ((conv => whnf); repeat ((first | refine And.intro (rfl : (_ : Nat) = _) ?_ | refine And.intro (rfl : (_ : Bool) = true) ?_ | refine And.intro (Nat.le_of_ble_eq_true rfl) ?_ | refine And.intro ⟨Nat.le_of_ble_eq_true rfl, rfl, rfl⟩ ?_); conv => whnf))
      first | refine CallGoal.pure (hI (m := PC) (a := a) md ha) ?_ | refine PCallGoal.pure (hI (m := PC) (a := a) md ha) ?_
      ((conv => whnf); repeat ((first | refine And.intro (rfl : (_ : Nat) = _) ?_ | refine And.intro (rfl : (_ : Bool) = true) ?_ | refine And.intro (Nat.le_of_ble_eq_true rfl) ?_ | refine And.intro ⟨Nat.le_of_ble_eq_true rfl, rfl, rfl⟩ ?_); conv => whnf))
      first | refine CallGoal.pure (hM (m := PC) md ha (n4 _)) ?_ | refine PCallGoal.pure (hM (m := PC) md ha (n4 _)) ?_
      ((conv => whnf); repeat ((first | refine And.intro (rfl : (_ : Nat) = _) ?_ | refine And.intro (rfl : (_ : Bool) = true) ?_ | refine And.intro (Nat.le_of_ble_eq_true rfl) ?_ | refine And.intro ⟨Nat.le_of_ble_eq_true rfl, rfl, rfl⟩ ?_); conv => whnf))
      refine EqGoal.same (a := a * (a ^ (PC - 2).toNat % PC) % PC) (b := 0) (n4 _) (by rw [Int.mul_emod, hz, Int.zero_mul, Int.zero_emod]) ?_
      ((conv => whnf); repeat ((first | refine And.intro (rfl : (_ : Nat) = _) ?_ | refine And.intro (rfl : (_ : Bool) = true) ?_ | refine And.intro (Nat.le_of_ble_eq_true rfl) ?_ | refine And.intro ⟨Nat.le_of_ble_eq_true rfl, rfl, rfl⟩ ?_); conv => whnf))
      exact ⟨.inl rfl, .drop ⟨rfl, rfl⟩⟩
    · refine EqGoal.num (a := a % PC) (b := 0) (n4 _) z4 ?_
      rw [decide_eq_false hz]
      ((conv => whnf); repeat ((first | refine And.intro (rfl : (_ : Nat) = _) ?_ | refine And.intro (rfl : (_ : Bool) = true) ?_ | refine And.intro (Nat.le_of_ble_eq_true rfl) ?_ | refine And.intro ⟨Nat.le_of_ble_eq_true rfl, rfl, rfl⟩ ?_); conv => whnf))
      first | refine CallGoal.pure (hI (m := PC) (a := a) md ha) ?_ | refine PCallGoal.pure (hI (m := PC) (a := a) md ha) ?_
      ((conv => whnf); repeat ((first | refine And.intro (rfl : (_ : Nat) = _) ?_ | refine And.intro (rfl : (_ : Bool) = true) ?_ | refine And.intro (Nat.le_of_ble_eq_true rfl) ?_ | refine And.intro ⟨Nat.le_of_ble_eq_true rfl, rfl, rfl⟩ ?_); conv => whnf))
      first | refine CallGoal.pure (hM (m := PC) md ha (n4 _)) ?_ | refine PCallGoal.pure (hM (m := PC) md ha (n4 _)) ?_
      ((conv => whnf); repeat ((first | refine And.intro (rfl : (_ : Nat) = _) ?_ | refine And.intro (rfl : (_ : Bool) = true) ?_ | refine And.intro (Nat.le_of_ble_eq_true rfl) ?_ | refine And.intro ⟨Nat.le_of_ble_eq_true rfl, rfl, rfl⟩ ?_); conv => whnf))
      refine EqGoal.same (a := a * (a ^ (PC - 2).toNat % PC) % PC) (b := 1) (n4 _) (fact hz) ?_
      ((conv => whnf); repeat ((first | refine And.intro (rfl : (_ : Nat) = _) ?_ | refine And.intro (rfl : (_ : Bool) = true) ?_ | refine And.intro (Nat.le_of_ble_eq_true rfl) ?_ | refine And.intro ⟨Nat.le_of_ble_eq_true rfl, rfl, rfl⟩ ?_); conv => whnf))
      exact ⟨.inl rfl, .drop ⟨rfl, rfl⟩⟩
  · rw [hw]
    have md := pd_md
    have n4 : ∀ x : Int, N4 (x % PD) := fun x => low_n4 md x
    have h1 := md.one
    have fact := pd_inv a ha.1
    ((conv => whnf); repeat ((first | refine And.intro (rfl : (_ : Nat) = _) ?_ | refine And.intro (rfl : (_ : Bool) = true) ?_ | refine And.intro (Nat.le_of_ble_eq_true rfl) ?_ | refine And.intro ⟨Nat.le_of_ble_eq_true rfl, rfl, rfl⟩ ?_); conv => whnf))
    intro t5
    ((conv => whnf); repeat ((first | refine And.intro (rfl : (_ : Nat) = _) ?_ | refine And.intro (rfl : (_ : Bool) = true) ?_ | refine And.intro (Nat.le_of_ble_eq_true rfl) ?_ | refine And.intro ⟨Nat.le_of_ble_eq_true rfl, rfl, rfl⟩ ?_); conv => whnf))
    first | refine CallGoal.pure (hN (m := PD) md) ?_ | refine PCallGoal.pure (hN (m := PD) md) ?_
    ((conv => whnf); repeat ((first | refine And.intro (rfl : (_ : Nat) = _) ?_ | refine And.intro (rfl : (_ : Bool) = true) ?_ | refine And.intro (Nat.le_of_ble_eq_true rfl) ?_ | refine And.intro ⟨Nat.le_of_ble_eq_true rfl, rfl, rfl⟩ ?_); conv => whnf))
    intro t8
    ((conv => whnf); repeat ((first | refine And.intro (rfl : (_ : Nat) = _) ?_ | refine And.intro (rfl : (_ : Bool) = true) ?_ | refine And.intro (Nat.le_of_ble_eq_true rfl) ?_ | refine And.intro ⟨Nat.le_of_ble_eq_true rfl, rfl, rfl⟩ ?_); conv => whnf))
    first | refine CallGoal.pure (rL (a := a) (m := PD) ha md.n4 (by omega)) ?_ | refine PCallGoal.pure (rL (a := a) (m := PD) ha md.n4 (by omega)) ?_
    ((conv => whnf); repeat ((first | refine And.intro (rfl : (_ : Nat) = _) ?_ | refine And.intro (rfl : (_ : Bool) = true) ?_ | refine And.intro (Nat.le_of_ble_eq_true rfl) ?_ | refine And.intro ⟨Nat.le_of_ble_eq_true rfl, rfl, rfl⟩ ?_); conv => whnf))
    by_cases hz : a % PD = 0
    · refine EqGoal.num (a := a % PD) (b := 0) (n4 _) z4 ?_
      rw [decide_eq_true hz]
      ((conv => whnf); repeat ((first | refine And.intro (rfl : (_ : Nat) = _) ?_ | refine And.intro (rfl : (_ : Bool) = true) ?_ | refine And.intro (Nat.le_of_ble_eq_true rfl) ?_ | refine And.intro ⟨Nat.le_of_ble_eq_true rfl, rfl, rfl⟩ ?_); conv => whnf))
      first | refine CallGoal.pure (hI (m := PD) (a := a) md ha) ?_ | refine PCallGoal.pure (hI (m := PD) (a := a) md ha) ?_
      ((conv => whnf); repeat ((first | refine And.intro (rfl : (_ : Nat) = _) ?_ | refine And.intro (rfl : (_ : Bool) = true) ?_ | refine And.intro (Nat.le_of_ble_eq_true rfl) ?_ | refine And.intro ⟨Nat.le_of_ble_eq_true rfl, rfl, rfl⟩ ?_); conv => whnf))
      first | refine CallGoal.pure (hM (m := PD) md ha (n4 _)) ?_ | refine PCallGoal.pure (hM (m := PD) md ha (n4 _)) ?_
      ((conv => whnf); repeat ((first | refine And.intro (rfl : (_ : Nat) = _) ?_ | refine And.intro (rfl : (_ : Bool) = true) ?_ | refine And.intro (Nat.le_of_ble_eq_true rfl) ?_ | refine And.intro ⟨Nat.le_of_ble_eq_true rfl, rfl, rfl⟩ ?_); conv => whnf))
      refine EqGoal.same (a := a * (a ^ (PD - 2).toNat % PD) % PD) (b := 0) (n4 _) (by rw [Int.mul_emod, hz, Int.zero_mul, Int.zero_emod]) ?_
      ((conv => whnf); repeat ((first | refine And.intro (rfl : (_ : Nat) = _) ?_ | refine And.intro (rfl : (_ : Bool) = true) ?_ | refine And.intro (Nat.le_of_ble_eq_true rfl) ?_ | refine And.intro ⟨Nat.le_of_ble_eq_true rfl, rfl, rfl⟩ ?_); conv => whnf))
      exact ⟨.inl rfl, .drop ⟨rfl, rfl⟩⟩
    · refine EqGoal.num (a := a % PD) (b := 0) (n4 _) z4 ?_
      rw [decide_eq_false hz]
      ((conv => whnf); repeat ((first | refine And.intro (rfl : (_ : Nat) = _) ?_ | refine And.intro (rfl : (_ : Bool) = true) ?_ | refine And.intro (Nat.le_of_ble_eq_true rfl) ?_ | refine And.intro ⟨Nat.le_of_ble_eq_true rfl, rfl, rfl⟩ ?_); conv => whnf))
      first | refine CallGoal.pure (hI (m := PD) (a := a) md ha) ?_ | refine PCallGoal.pure (hI (m := PD) (a := a) md ha) ?_
      ((conv => whnf); repeat ((first | refine And.intro (rfl : (_ : Nat) = _) ?_ | refine And.intro (rfl : (_ : Bool) = true) ?_ | refine And.intro (Nat.le_of_ble_eq_true rfl) ?_ | refine And.intro ⟨Nat.le_of_ble_eq_true rfl, rfl, rfl⟩ ?_); conv => whnf))
      first | refine CallGoal.pure (hM (m := PD) md ha (n4 _)) ?_ | refine PCallGoal.pure (hM (m := PD) md ha (n4 _)) ?_
      ((conv => whnf); repeat ((first | refine And.intro (rfl : (_ : Nat) = _) ?_ | refine And.intro (rfl : (_ : Bool) = true) ?_ | refine And.intro (Nat.le_of_ble_eq_true rfl) ?_ | refine And.intro ⟨Nat.le_of_ble_eq_true rfl, rfl, rfl⟩ ?_); conv => whnf))
      refine EqGoal.same (a := a * (a ^ (PD - 2).toNat % PD) % PD) (b := 1) (n4 _) (fact hz) ?_
      ((conv => whnf); repeat ((first | refine And.intro (rfl : (_ : Nat) = _) ?_ | refine And.intro (rfl : (_ : Bool) = true) ?_ | refine And.intro (Nat.le_of_ble_eq_true rfl) ?_ | refine And.intro ⟨Nat.le_of_ble_eq_true rfl, rfl, rfl⟩ ?_); conv => whnf))
      exact ⟨.inl rfl, .drop ⟨rfl, rfl⟩⟩
end
theorem len64_ok : Len64Ok P0 G0 := fun hx h0 => ACall.fn fn78 (Nat.le_of_ble_eq_true rfl) (len64_vc hx h0)
theorem lz_ok : LzOk P0 G0 := fun hx h0 => ACall.fn fn68 (Nat.le_of_ble_eq_true rfl) (lz_vc len64_ok hx h0)
theorem div64_ok : Div64Ok P0 G0 := fun {hi lo y} hy hlo hhi hlt => by
  by_cases h : hi = 0
  · subst h; exact ACall.fn fn69 (Nat.le_of_ble_eq_true rfl) (div64z_vc hy hlo (by omega))
  · exact ACall.fn fn69 (Nat.le_of_ble_eq_true rfl) (div64_vc lz_ok hy hlo hhi hlt (by omega))
theorem rem_ok : RemOk P0 G0 := fun h1 h2 h3 h4 => ACall.fn fn51 (Nat.le_of_ble_eq_true rfl) (rem_vc lz_ok mul64_ok div64_ok h1 h2 h3 h4)
theorem refless_ok : RefLessOk P0 G0 := fun ha hb h => ACall.fn fn50 (Nat.le_of_ble_eq_true rfl) (refless_vc ha hb h)
theorem reflow_ok : RefLowOk P0 G0 := fun ha hm h => ACall.fn fn25 (Nat.le_of_ble_eq_true rfl) (reflow_vc rem_ok ha hm h)
theorem refadd_ok : RefAddOk P0 G0 := fun ha hb hm h => ACall.fn fn27 (Nat.le_of_ble_eq_true rfl) (refadd_vc rem_ok ha hb hm h)
theorem refneg_ok : RefNegOk P0 G0 := fun ha hm h => ACall.fn fn53 (Nat.le_of_ble_eq_true rfl) (refneg_vc reflow_ok refless_ok ha hm h)
theorem refsub_ok : RefSubOk P0 G0 := fun ha hb hm h => ACall.fn fn28 (Nat.le_of_ble_eq_true rfl) (refsub_vc reflow_ok refneg_ok refadd_ok ha hb hm h)
theorem refmul_ok : RefMulOk P0 G0 := fun ha hb hm h => ACall.fn fn29 (Nat.le_of_ble_eq_true rfl) (refmul_vc mul64_ok rem_ok ha hb hm h)
theorem refpow_ok : RefPowOk P0 G0 := fun ha he hm h => ACall.fn fn21 (Nat.le_of_ble_eq_true rfl) (refpow_vc reflow_ok refmul_ok ha he hm h)
theorem refinv_ok : RefInvOk P0 G0 := fun ha hm h => ACall.fn fn23 (Nat.le_of_ble_eq_true rfl) (refinv_vc refless_ok refpow_ok ha hm h)
theorem refred_ok : RefRedOk P0 G0 := fun hm h hl => ACall.fn fn31 (Nat.le_of_ble_eq_true rfl) (refred_vc rem_ok hm h hl)
theorem refnum_ok : RefNumOk P0 G0 := fun h => ACall.fn fn55 (Nat.le_of_ble_eq_true rfl) (refnum_vc h)
theorem refbig_ok : RefBigOk P0 G0 := fun h => ACall.fn fn32 (Nat.le_of_ble_eq_true rfl) (refbig_vc refnum_ok h)
theorem modsnd : Ans P0 G0 15 [] (.bool true) := ACall.fn fn15 (Nat.le_of_ble_eq_true rfl) (modsound_vc mnew_ok madd_ok msub_ok mmul_ok mpow_ok minv_ok)
theorem modulus_ok : ∀ {m : Int}, Md m → Ans P0 G0 26 [mptr m] (num m) := fun h => ACall.fn fn26 (Nat.le_of_ble_eq_true rfl) (modulus_vc h)
theorem modsums_ans {m a b : Int} (hm : N4 m) (ha : N4 a) (hb : N4 b) : Ans P0 G0 8 [num m, num a, num b] (.bool true) :=
  ACall.fn fn8 (Nat.le_of_ble_eq_true rfl) (modsums_vc modsnd mnew_ok mnewbad_ok modulus_ok madd_ok msub_ok mmul_ok refadd_ok refsub_ok refmul_ok hm ha hb)
theorem modpows_ans {m a e : Int} (hm : N4 m) (ha : N4 a) (he : N4 e) : Ans P0 G0 5 [num m, num a, num e] (.bool true) := by
  obtain ⟨n, rfl⟩ : ∃ n : Nat, e = n := ⟨e.toNat, by have := he.1; omega⟩
  exact ACall.fn fn5 (Nat.le_of_ble_eq_true rfl) (modpows_vc modsnd mnew_ok mnewbad_ok mpow_ok minv_ok refpow_ok refinv_ok hm ha he)
theorem modnegs_ans {m a b : Int} (hm : N4 m) (ha : N4 a) (hb : N4 b) : Ans P0 G0 7 [num m, num a, num b] (.bool true) :=
  ACall.fn fn7 (Nat.le_of_ble_eq_true rfl) (modnegs_vc modsnd mnew_ok mnewbad_ok madd_ok msub_ok mmul_ok reflow_ok hm ha hb)
theorem modreds_ans {m : Int} {app : App} {l : List UInt8} (hm : N4 m) (_ : app = .nil ∧ l = [] ∨ app = .no) (hl : l.length ≤ maxLen) : Ans P0 G0 9 [num m, bs app l] (.bool true) :=
  ACall.fn fn9 (Nat.le_of_ble_eq_true rfl) (modreds_vc modsnd mnew_ok mnewbad_ok madd_ok reduce_ok refred_ok refbig_ok (ACall.fn fn30 (Nat.le_of_ble_eq_true rfl) rednil_vc) (ACall.fn fn18 (Nat.le_of_ble_eq_true rfl) mulnil_vc)
    (ACall.fn fn26 (Nat.le_of_ble_eq_true rfl) modnil_vc) hm (Nat.le_trans hl (by decide)))
theorem modprimes_ans {w a : Int} (_ : -9223372036854775808 ≤ w ∧ w ≤ 9223372036854775807) (ha : N4 a) : Ans P0 G0 6 [.int .i64 w, num a] (.bool true) :=
  ACall.fn fn6 (Nat.le_of_ble_eq_true rfl) (modprimes_vc modsnd (ACall.fn fn24 (Nat.le_of_ble_eq_true rfl) primes_vc) mnew_ok mmul_ok minv_ok reflow_ok ha)
end Go.Proofs.Yteknjhamekpfjaa
