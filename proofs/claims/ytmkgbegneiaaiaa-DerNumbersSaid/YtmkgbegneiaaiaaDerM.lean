/- Walks over der: Number. -/
import Derived.Test.YtmkgbegneiaaiaaDerL
namespace Go.Proofs.Ytmkgbegneiaaiaa
open Go.Eng
set_option maxHeartbeats 1000000
set_option linter.unusedVariables false
set_option linter.unusedSimpArgs false
variable {P : Program} {G : Nat → AV}

/-- So many bytes of a number, the highest first. -/
def be : Nat → Nat → List UInt8
  | 0, _ => []
  | k + 1, n => UInt8.ofNat (n / 256 ^ k) :: be k n
theorem be_len : ∀ k n, (be k n).length = k
  | 0, _ => rfl
  | k + 1, n => by simp [be, be_len k n]
theorem natS_be (n : Nat) : ∀ (j k : Nat), n < 256 ^ k → natS (be (k + j) n) = natS (be k n)
  | 0, _, _ => rfl
  | j + 1, k, h => by
    show natS (UInt8.ofNat (n / 256 ^ (k + j)) :: be (k + j) n) = _
    have h2 : n < 256 ^ (k + j) := Nat.lt_of_lt_of_le h (Nat.pow_le_pow_right (by omega) (by omega))
    rw [Nat.div_eq_of_lt h2, natS_zero _ _ rfl]
    exact natS_be n j k h
theorem natS_be8 {n k : Nat} (h : n < 256 ^ k) (h8 : n < 256 ^ 8) : natS (be k n) = natS (be 8 n) := by
  rw [← natS_be n 8 k h, Nat.add_comm, natS_be n k 8 h8]

def NatOk (P : Program) (G : Nat → AV) : Prop := ∀ (app : App) (l : List UInt8), (app = .nil → l = []) → l.length < 549755813888 → Ans P G 20 [bs app l] (putA 2 (natS l))

def NumI (n0 : Nat) (n : Nat) (fr : Fr) (st : St) : Prop :=
  ∃ (k : Nat) (a : App), n = n0 / 256 ^ k ∧ k ≤ 8 ∧ a ≠ .nil ∧ fr = [(0, .int .u64 (n0 / 256 ^ k : Nat)), (3, bs a (be k n0))] ∧ st = []

theorem shr8 (n : Nat) : shr .u64 (n : Int) 8 = ((n / 256 : Nat) : Int) := by
  show (n : Int).fdiv 256 = _
  rw [Int.fdiv_eq_ediv_of_nonneg _ (by omega)]; omega

theorem number_vc (hNat : NatOk P G) (n0 : Nat) (h0 : n0 < 18446744073709551616) : vc P G c18 (Ret [.t 2] (putA 2 (natS (be 8 n0)))) (argFr 0 [.int .u64 n0]) [] := by
  conv => whnf
  refine LoopGoal.inv (NumI n0) (n0 / 256 ^ 1) (Frz.keep (fr' := [(0, .int .u64 (n0 / 256 ^ 1 : Nat)), (3, bs .full (be 1 n0))]) (Fr.sub_cons ?_ (Fr.sub_cons ?_ (Fr.sub_nil _)))) ⟨1, .full, rfl, by omega, by simp, rfl, rfl⟩ ?_
  · show some (AV.int .u64 (shr .u64 (n0 : Int) 8)) = _
    rw [shr8]
  · show some (AV.sl .full 1 [[.int .u8 (IntKind.u8.wrap (n0 : Int))]]) = _
    rw [b8_wrap]
    simp [be, Nat.pow_zero]
  rintro n fr st ⟨k, a, rfl, hk, ha, rfl, rfl⟩
  conv => whnf
  refine bcase_mk (fun h => ?_) (fun h => ?_)
  · have hpos : 0 < n0 / 256 ^ k := by
      rw [lssB_eq] at h
      have h := of_decide_eq_true h
      generalize n0 / 256 ^ k = q at h ⊢
      omega
    have hk8 : k < 8 := by
      rcases Nat.lt_or_ge k 8 with q | q
      · exact q
      · have : n0 / 256 ^ k = 0 := Nat.div_eq_of_lt (Nat.lt_of_lt_of_le h0 (Nat.le_trans (by decide : 18446744073709551616 ≤ 256 ^ 8) (Nat.pow_le_pow_right (by omega) q)))
        omega
    conv => whnf
    refine AppGoal.fresh (.inr rfl) (by show (1 + (List.map b8 (be k n0)).length) * 1 ≤ _; rw [List.length_map, be_len]; omega) (by show 1 + (List.map b8 (be k n0)).length ≤ _; rw [List.length_map, be_len]; omega) ?_ ?_
    · intro hz
      have hlen := congrArg List.length hz
      rw [List.length_map, be_len] at hlen
      simp at hlen
      subst hlen
      conv => whnf
      refine ⟨n0 / 256 ^ 1, ?_, _, _, Frz.keep (fr' := [(0, .int .u64 (n0 / 256 ^ 1 : Nat)), (3, bs .full (be 1 n0))]) (Fr.sub_cons ?_ (Fr.sub_cons ?_ (Fr.sub_nil _))), 1, .full, rfl, by omega, by simp, rfl, rfl⟩
      · simp at hpos ⊢; omega
      · show some (AV.int .u64 (shr .u64 ((n0 / 256 ^ 0 : Nat) : Int) 8)) = _
        rw [shr8]; simp
      · show some (AV.sl .full 1 [[.int .u8 (IntKind.u8.wrap ((n0 / 256 ^ 0 : Nat) : Int))]]) = _
        rw [b8_wrap]; simp [be]
    · intro b cap
      conv => whnf
      refine ⟨n0 / 256 ^ (k + 1), ?_, _, _, .done (fr' := [(0, .int .u64 (n0 / 256 ^ (k + 1) : Nat)), (3, bs (.tok b cap) (be (k + 1) n0))]) (Fr.sub_get (Fr.sub_cons ?_ (Fr.sub_cons ?_ (Fr.sub_nil _)))) (St.le_nil _), k + 1, .tok b cap, rfl, by omega, by simp, rfl, rfl⟩
      · rw [Nat.pow_succ, ← Nat.div_div_eq_div_mul]; omega
      · show some (AV.int .u64 (shr .u64 ((n0 / 256 ^ k : Nat) : Int) 8)) = _
        rw [shr8, Nat.div_div_eq_div_mul, ← Nat.pow_succ]
      · show some (AV.sl (.tok b cap) 1 ([[.int .u8 (IntKind.u8.wrap ((n0 / 256 ^ k : Nat) : Int))]] ++ List.map b8 (be k n0))) = _
        rw [b8_wrap]; rfl
  · have hz : n0 / 256 ^ k = 0 := by
      rw [lssB_eq] at h
      have h := of_decide_eq_false h
      generalize n0 / 256 ^ k = q at h ⊢
      omega
    have hlt : n0 < 256 ^ k := by
      rcases Nat.lt_or_ge n0 (256 ^ k) with q | q
      · exact q
      · have := Nat.div_pos q (Nat.pow_pos (by omega) : 0 < 256 ^ k)
        omega
    have hc := hNat a (be k n0) (fun e => absurd e ha) (by rw [be_len]; omega)
    rw [natS_be8 hlt h0] at hc
    conv => whnf
    refine CallGoal.pure hc ?_
    conv => whnf
    refine ⟨.inl rfl, .drop ?_⟩
    conv => whnf
    exact ⟨rfl, rfl⟩
end Go.Proofs.Ytmkgbegneiaaiaa
