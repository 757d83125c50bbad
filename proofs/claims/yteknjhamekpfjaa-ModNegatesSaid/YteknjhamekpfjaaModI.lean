/- Walks: New. -/
import Derived.Test.YteknjhamekpfjaaModH
namespace Go.Proofs.Yteknjhamekpfjaa
open Go.Eng Go.Num
set_option maxHeartbeats 1000000
set_option maxRecDepth 10000
set_option linter.unusedVariables false
set_option linter.unusedSimpArgs false
variable {P : Program} {G : Nat → AV}

/-- The inverse on its way. -/
def nwk (m : Int) : Nat → Int
  | 0 => m % 18446744073709551616
  | j + 1 => nwt (m % 18446744073709551616) (nwk m j)
theorem nwk_w1 (m : Int) : ∀ j, W1 (nwk m j)
  | 0 => by simp only [nwk]; omega
  | j + 1 => by simp only [nwk, nwt]; omega
theorem mk_nwk (m : Int) : mk m = (0 - nwk m 6) % 18446744073709551616 := rfl

theorem test_odd {m : Int} (h : N4 m) : band .u64 (m % 18446744073709551616) 1 = m % 2 := by rw [band_one (by omega)]; omega
theorem mnewbad_vc {m : Int} (hm : N4 m) (h : m % 2 = 0 ∨ m = 1) : vc P G c16 (Ret [.t 2, .t 3] (.tup [.v (.pointer none), .int .i64 1])) (argFr 0 [num m]) [] := by
  conv => whnf
  rw [test_odd hm]
  by_cases h0 : m % 2 = 0
  · rw [show (m % 2 == 0) = true from by simp [h0]]
    ((conv => whnf); repeat ((first | refine And.intro (rfl : (_ : Nat) = _) ?_ | refine And.intro (rfl : (_ : Bool) = true) ?_ | refine And.intro (Nat.le_of_ble_eq_true rfl) ?_ | refine And.intro ⟨Nat.le_of_ble_eq_true rfl, rfl, rfl⟩ ?_); conv => whnf))
    exact ⟨.inl rfl, .drop ⟨rfl, rfl⟩⟩
  · obtain rfl : m = 1 := by omega
    ((conv => whnf); repeat ((first | refine And.intro (rfl : (_ : Nat) = _) ?_ | refine And.intro (rfl : (_ : Bool) = true) ?_ | refine And.intro (Nat.le_of_ble_eq_true rfl) ?_ | refine And.intro ⟨Nat.le_of_ble_eq_true rfl, rfl, rfl⟩ ?_); conv => whnf))
    refine EqGoal.num (a := 1) (b := 1) one_n4 one_n4 ?_
    ((conv => whnf); repeat ((first | refine And.intro (rfl : (_ : Nat) = _) ?_ | refine And.intro (rfl : (_ : Bool) = true) ?_ | refine And.intro (Nat.le_of_ble_eq_true rfl) ?_ | refine And.intro ⟨Nat.le_of_ble_eq_true rfl, rfl, rfl⟩ ?_); conv => whnf))
    exact ⟨.inl rfl, .drop ⟨rfl, rfl⟩⟩

theorem R2_step {m : Int} (j : Nat) : 2 * (2 ^ j % m) % m = 2 ^ (j + 1) % m := by
  rw [mul_mod_r, Int.pow_succ, Int.mul_comm]
def NewK (m : Int) (b : Nat) (n : Nat) (fr : Fr) (st : St) : Prop :=
  ∃ j : Nat, j + n = 6 ∧ fr = [(1, .ptr (ws (dig 4 m))), (4, .optr 16019 b 0), (20, .int .i64 (j : Nat))] ∧ st = [.obj 16019 b (ws (dig 4 m ++ nwk m j :: [1, 0, 0, 0]))]
def NewR (m : Int) (b : Nat) (n : Nat) (fr : Fr) (st : St) : Prop :=
  ∃ j : Nat, j + n = 512 ∧ fr = [(4, .optr 16019 b 0), (46, .int .i64 (j : Nat))] ∧ st = [.obj 16019 b (ws (dig 4 m ++ mk m :: dig 4 (2 ^ j % m)))]
theorem mnew_vc {m : Int} (hD : DoubleOk P G) (hm : Md m) : vc P G c16 (Ret [.t 2, .t 3] (.tup [mptr m, .int .i64 0])) (argFr 0 [num m]) [] := by
  have h1 := hm.one
  have h2 := hm.odd
  have h3 := hm.lt
  conv => whnf
  rw [test_odd hm.n4, show (m % 2 == 0) = false from by simp [h2]]
  ((conv => whnf); repeat ((first | refine And.intro (rfl : (_ : Nat) = _) ?_ | refine And.intro (rfl : (_ : Bool) = true) ?_ | refine And.intro (Nat.le_of_ble_eq_true rfl) ?_ | refine And.intro ⟨Nat.le_of_ble_eq_true rfl, rfl, rfl⟩ ?_); conv => whnf))
  refine EqGoal.num (a := m) (b := 1) hm.n4 one_n4 ?_
  rw [decide_eq_false (by omega)]
  ((conv => whnf); repeat ((first | refine And.intro (rfl : (_ : Nat) = _) ?_ | refine And.intro (rfl : (_ : Bool) = true) ?_ | refine And.intro (Nat.le_of_ble_eq_true rfl) ?_ | refine And.intro ⟨Nat.le_of_ble_eq_true rfl, rfl, rfl⟩ ?_); conv => whnf))
  intro b
  conv => whnf
  refine LoopGoal.inv (NewK m b) 6 (Frz.keep (fr' := [(1, .ptr (ws (dig 4 m))), (4, .optr 16019 b 0), (20, .int .i64 (0 : Nat))]) (Fr.sub_cons rfl (Fr.sub_cons rfl (Fr.sub_cons rfl (Fr.sub_nil _))))) ⟨0, rfl, rfl, rfl⟩ ?_
  rintro n fr st ⟨j, hj, rfl, rfl⟩
  conv => whnf
  rw [lss_nat (n := 6) 6 rfl]
  by_cases h6 : j < 6
  · rw [decide_eq_true h6]
    ((conv => whnf); repeat ((first | refine And.intro (rfl : (_ : Nat) = _) ?_ | refine And.intro (rfl : (_ : Bool) = true) ?_ | refine And.intro (Nat.le_of_ble_eq_true rfl) ?_ | refine And.intro ⟨Nat.le_of_ble_eq_true rfl, rfl, rfl⟩ ?_); conv => whnf))
    refine ⟨n - 1, by omega, _, _, Frz.keep (fr' := [(1, .ptr (ws (dig 4 m))), (4, .optr 16019 b 0), (20, .int .i64 (j + 1 : Nat))]) (Fr.sub_cons rfl (Fr.sub_cons rfl (Fr.sub_cons (congrArg (fun z => some (AV.int .i64 z)) (i64_succ (by omega))) (Fr.sub_nil _)))), j + 1, by omega, rfl, ?_⟩
    have e : IntKind.u64.wrap (nwk m j * IntKind.u64.wrap (2 - IntKind.u64.wrap (m % 18446744073709551616 * nwk m j))) = nwk m (j + 1) := by rw [wrap_u64, wrap_u64, wrap_u64]; rfl
    rw [← e]
    rfl
  · rw [decide_eq_false h6]
    obtain rfl : j = 6 := by omega
    ((conv => whnf); repeat ((first | refine And.intro (rfl : (_ : Nat) = _) ?_ | refine And.intro (rfl : (_ : Bool) = true) ?_ | refine And.intro (Nat.le_of_ble_eq_true rfl) ?_ | refine And.intro ⟨Nat.le_of_ble_eq_true rfl, rfl, rfl⟩ ?_); conv => whnf))
    have e : IntKind.u64.wrap (0 - nwk m 6) = mk m := by rw [wrap_u64]; rfl
    refine LoopGoal.inv (NewR m b) 512 (Frz.keep (fr' := [(4, .optr 16019 b 0), (46, .int .i64 (0 : Nat))]) (Fr.sub_cons rfl (Fr.sub_cons rfl (Fr.sub_nil _)))) ⟨0, rfl, rfl, ?_⟩ ?_
    · rw [← e, Int.pow_zero, Int.emod_eq_of_lt (by omega) h1]
      rfl
    rintro n2 fr st ⟨i, hi, rfl, rfl⟩
    conv => whnf
    rw [lss_nat (n := 512) 512 rfl]
    by_cases h5 : i < 512
    · rw [decide_eq_true h5]
      have hc := hD (k := mk m) (r := 2 ^ i % m) hm (low_lt hm (2 ^ i))
      rw [R2_step] at hc
      ((conv => whnf); repeat ((first | refine And.intro (rfl : (_ : Nat) = _) ?_ | refine And.intro (rfl : (_ : Bool) = true) ?_ | refine And.intro (Nat.le_of_ble_eq_true rfl) ?_ | refine And.intro ⟨Nat.le_of_ble_eq_true rfl, rfl, rfl⟩ ?_); conv => whnf))
      refine CallGoal.lend (l₁ := []) (l₂ := []) (tag := 16019) (b := b) (cells := ws (dig 4 m ++ mk m :: dig 4 (2 ^ i % m))) [mp m (mk m) (2 ^ i % m), num (2 ^ i % m)] 1 hc (plain_num _) rfl (fun j y y' h1 h2 => ?_) ?_
      · match j with
        | 0 => cases h1; cases h2; exact .optr 0
        | 1 => cases h1; cases h2; exact .refl _
        | j + 2 => cases h1
      ((conv => whnf); repeat ((first | refine And.intro (rfl : (_ : Nat) = _) ?_ | refine And.intro (rfl : (_ : Bool) = true) ?_ | refine And.intro (Nat.le_of_ble_eq_true rfl) ?_ | refine And.intro ⟨Nat.le_of_ble_eq_true rfl, rfl, rfl⟩ ?_); conv => whnf))
      refine ⟨n2 - 1, by omega, _, _, Frz.keep (fr' := [(4, .optr 16019 b 0), (46, .int .i64 (i + 1 : Nat))]) (Fr.sub_cons rfl (Fr.sub_cons (congrArg (fun z => some (AV.int .i64 z)) (i64_succ (by omega))) (Fr.sub_nil _))), i + 1, by omega, rfl, rfl⟩
    · rw [decide_eq_false h5]
      obtain rfl : i = 512 := by omega
      ((conv => whnf); repeat ((first | refine And.intro (rfl : (_ : Nat) = _) ?_ | refine And.intro (rfl : (_ : Bool) = true) ?_ | refine And.intro (Nat.le_of_ble_eq_true rfl) ?_ | refine And.intro ⟨Nat.le_of_ble_eq_true rfl, rfl, rfl⟩ ?_); conv => whnf))
      refine ⟨.inl rfl, RetGoal.frz (sz := 1) [(2, mptr m), (3, .int .i64 0)] (fun p hp => ?_) ⟨rfl, rfl⟩⟩
      simp only [List.mem_cons, List.not_mem_nil, or_false] at hp
      rcases hp with rfl | rfl
      · exact ⟨_, rfl, .optr 0⟩
      · exact ⟨_, rfl, .refl _⟩
def MnewOk (P : Program) (G : Nat → AV) : Prop := ∀ {m : Int}, Md m → Ans P G 16 [num m] (.tup [mptr m, .int .i64 0])
def MnewBadOk (P : Program) (G : Nat → AV) : Prop := ∀ {m : Int}, N4 m → m % 2 = 0 ∨ m = 1 → Ans P G 16 [num m] (.tup [.v (.pointer none), .int .i64 1])
end Go.Proofs.Yteknjhamekpfjaa
