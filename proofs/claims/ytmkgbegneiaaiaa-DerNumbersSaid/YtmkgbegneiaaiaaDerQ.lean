/- Walks over der: the law DerNumbers. -/
import Derived.Test.YtmkgbegneiaaiaaDerO
namespace Go.Proofs.Ytmkgbegneiaaiaa
open Go.Eng
set_option maxHeartbeats 1000000
set_option linter.unusedVariables false
set_option linter.unusedSimpArgs false
variable {P : Program} {G : Nat → AV}

def WholeOk (P : Program) (G : Nat → AV) : Prop := ∀ (app : App) (l : List UInt8), (app = .nil → l = []) → l.length < 549755813888 → Ans P G 16 [bs app l] (wholeA l)
def RefWholeOk (P : Program) (G : Nat → AV) : Prop := ∀ (app : App) (l : List UInt8), (app = .nil → l = []) → l.length < 900 → Ans P G 17 [bs app l] (wholeA l)
def NumOk (P : Program) (G : Nat → AV) : Prop := ∀ n : Nat, n < 18446744073709551616 → Ans P G 18 [.int .u64 n] (putA 2 (natS (be 8 n)))

theorem shr_u64 (n k : Nat) (hk : k < 64) : shr .u64 (n : Int) (k : Nat) = ((n / 2 ^ k : Nat) : Int) := by
  show (n : Int).fdiv (2 ^ (min (k : Int).toNat 64)) = _
  rw [show min ((k : Int).toNat) 64 = k from by simp; omega, Int.fdiv_eq_ediv_of_nonneg _ (by exact Int.le_of_lt (Int.pow_pos (by omega)))]
  simp

theorem big_eq (n : Nat) : ([[AV.int .u8 (IntKind.u8.wrap (shr .u64 (n : Int) 56))], [AV.int .u8 (IntKind.u8.wrap (shr .u64 (n : Int) 48))], [AV.int .u8 (IntKind.u8.wrap (shr .u64 (n : Int) 40))], [AV.int .u8 (IntKind.u8.wrap (shr .u64 (n : Int) 32))],
    [AV.int .u8 (IntKind.u8.wrap (shr .u64 (n : Int) 24))], [AV.int .u8 (IntKind.u8.wrap (shr .u64 (n : Int) 16))], [AV.int .u8 (IntKind.u8.wrap (shr .u64 (n : Int) 8))], [AV.int .u8 (IntKind.u8.wrap (n : Int))]] : List (List AV)) = (be 8 n).map b8 := by
  have h56 : shr .u64 (n : Int) 56 = ((n / 2 ^ 56 : Nat) : Int) := shr_u64 n 56 (by omega)
  have h48 : shr .u64 (n : Int) 48 = ((n / 2 ^ 48 : Nat) : Int) := shr_u64 n 48 (by omega)
  have h40 : shr .u64 (n : Int) 40 = ((n / 2 ^ 40 : Nat) : Int) := shr_u64 n 40 (by omega)
  have h32 : shr .u64 (n : Int) 32 = ((n / 2 ^ 32 : Nat) : Int) := shr_u64 n 32 (by omega)
  have h24 : shr .u64 (n : Int) 24 = ((n / 2 ^ 24 : Nat) : Int) := shr_u64 n 24 (by omega)
  have h16 : shr .u64 (n : Int) 16 = ((n / 2 ^ 16 : Nat) : Int) := shr_u64 n 16 (by omega)
  have h8 : shr .u64 (n : Int) 8 = ((n / 2 ^ 8 : Nat) : Int) := shr_u64 n 8 (by omega)
  rw [h56, h48, h40, h32, h24, h16, h8]
  simp only [b8_wrap, be, List.map_cons, List.map_nil]
  simp only [show (256 : Nat) ^ 7 = 2 ^ 56 from by decide, show (256 : Nat) ^ 6 = 2 ^ 48 from by decide, show (256 : Nat) ^ 5 = 2 ^ 40 from by decide, show (256 : Nat) ^ 4 = 2 ^ 32 from by decide, show (256 : Nat) ^ 3 = 2 ^ 24 from by decide, show (256 : Nat) ^ 2 = 2 ^ 16 from by decide, show (256 : Nat) ^ 1 = 2 ^ 8 from by decide, show (256 : Nat) ^ 0 = 1 from by decide, Nat.div_one]

def NumsI (app : App) (l D : List UInt8) (n : Nat) (fr : Fr) (st : St) : Prop :=
  ∃ i : Nat, i + n = l.length ∧ D = (l.drop i).dropWhile (· == 0) ∧ fr = [(1, bs app l), (13, .int .i64 0), (14, bs .no D), (15, .bool true), (16, .int .i64 i)] ∧ st = []

theorem dernumbers_vc (hS : SoundOk P G) (hGet : GetOk P G) (hW : WholeOk P G) (hRW : RefWholeOk P G) (hNum : NumOk P G) (hNat : NatOk P G) (hRN : RefNatOk P G) (n : Nat) (h0 : n < 18446744073709551616) (app : App) (l : List UInt8) (happ : app = .nil → l = [])
    (hl : l.length ≤ 9223372036854775807) : vc P G c6 (Ret [.t 4] (.bool true)) (argFr 0 [.int .u64 n, bs app l]) [] := by
  have hnl := natS_len l
  have hn8 : (natS (be 8 n)).length ≤ 9 := by have := natS_len (be 8 n); rw [be_len] at this; exact this
  conv => whnf
  refine CallGoal.pure hS ?_
  conv => whnf
  refine bcase_mk (fun h => ?_) (fun h => ?_)
  · conv => whnf
    exact ⟨.inl rfl, .drop ⟨rfl, rfl⟩⟩
  have h3 : l.length ≤ 300 := by simp [lssB_eq] at h; omega
  obtain ⟨ap, x, ok, hwa⟩ : ∃ ap x ok, wholeA l = .tup [bs ap x, .bool ok] := by
    unfold wholeA
    split
    · exact ⟨_, _, _, rfl⟩
    · exact ⟨_, _, _, rfl⟩
  have cW := hW app l happ (by omega)
  have cRW := hRW app l happ (by omega)
  rw [hwa] at cW cRW
  have pA : ∀ m : List UInt8, m.length < 65536 → putA 2 m = bs .no (putS 2 m) := fun m h => by rw [putA, if_pos h]
  have cN := hNum n h0
  rw [pA _ (by omega)] at cN
  have cB := hRN .full (be 8 n) (by rw [be_len]; omega)
  rw [pA _ (by omega)] at cB
  have cB' := cB
  unfold bs at cB'
  rw [← big_eq n] at cB'
  have c20 := hNat app l happ (by omega)
  rw [pA _ (by omega)] at c20
  have c19 := hRN app l (by omega)
  rw [pA _ (by omega)] at c19
  conv => whnf
  refine CallGoal.pure cW ?_
  conv => whnf
  refine CallGoal.pure cRW ?_
  conv => whnf
  refine CallGoal.pure cN ?_
  conv => whnf
  refine StrGoal.b8 ?_
  conv => whnf
  refine CallGoal.pure cB' ?_
  conv => whnf
  refine StrGoal.b8 ?_
  conv => whnf
  refine bcase_mk (fun q => absurd q (by simp)) (fun _ => ?_)
  conv => whnf
  refine CallGoal.pure c20 ?_
  conv => whnf
  refine StrGoal.b8 ?_
  conv => whnf
  refine CallGoal.pure c19 ?_
  conv => whnf
  refine StrGoal.b8 ?_
  conv => whnf
  refine bcase_mk (fun q => absurd q (by simp)) (fun _ => ?_)
  conv => whnf
  refine bcase_mk (fun q => absurd q (by simp)) (fun _ => ?_)
  conv => whnf
  refine StrGoal.b8 ?_
  conv => whnf
  refine StrGoal.b8 ?_
  conv => whnf
  refine bcase_mk (fun q => absurd q (by simp)) (fun _ => ?_)
  conv => whnf
  refine CallGoal.pure c20 ?_
  conv => whnf
  obtain ⟨hh, g1, g2, g3, g4, g5⟩ := get_put 2 (natS l) (by decide) (by omega)
  have cG := hGet .no (putS 2 (natS l)) (by simp) (by omega)
  unfold getA at cG
  rw [g1] at cG
  simp only at cG
  rw [g2, g3, List.take_of_length_le (Nat.le_refl _)] at cG
  refine CallGoal.pure cG ?_
  conv => whnf
  have cW2 := hW .no (natS l) (by simp) (by omega)
  unfold wholeA at cW2
  rw [whole_nat] at cW2
  refine CallGoal.pure cW2 ?_
  conv => whnf
  refine LoopGoal.inv (NumsI app l (l.dropWhile (· == 0))) l.length (Frz.keep (fr' := [(1, bs app l), (13, .int .i64 0), (14, bs .no (l.dropWhile (· == 0))), (15, .bool true), (16, .int .i64 0)]) (Fr.sub_cons rfl (Fr.sub_cons rfl (Fr.sub_cons rfl (Fr.sub_cons rfl (Fr.sub_cons rfl (Fr.sub_nil _))))))) ⟨0, by omega, rfl, rfl, rfl⟩ ?_
  rintro m fr st ⟨i, hi, hdw, rfl, rfl⟩
  have hL : ((List.map b8 l).length : Int) = (l.length : Nat) := by simp
  conv => whnf
  rw [hL]
  cases hd : l.drop i with
  | nil =>
    have hge : l.length ≤ i := by simpa using hd
    rw [hd] at hdw
    rw [show lssB (i : Int) ((l.length : Nat) : Int) = false from by rw [lssB_eq]; simp; omega]
    conv => whnf
    refine StrGoal.b8 ?_
    conv => whnf
    refine SliceGoal.b8end i rfl (by simp) (by omega) ?_
    conv => whnf
    refine StrGoal.b8 ?_
    conv => whnf
    refine ⟨.inl rfl, .drop ⟨?_, rfl⟩⟩
    show AV.bool (_ == _) = _
    rw [hd, hdw]; rfl
  | cons c r =>
    have hlt : i < l.length := by
      rcases Nat.lt_or_ge i l.length with q | q
      · exact q
      · rw [List.drop_eq_nil_of_le q] at hd; cases hd
    have hget : l[i]? = some c := by have := congrArg (·[0]?) hd; simpa using this
    rw [hd] at hdw
    rw [show lssB (i : Int) ((l.length : Nat) : Int) = true from by rw [lssB_eq]; simp; omega]
    conv => whnf
    refine IdxGoal.b8n hget ?_
    conv => whnf
    by_cases hz : c.toNat = 0
    · rw [show ((c.toNat : Int) == 0) = true from by simp [hz]]
      have e1 : IntKind.i64.wrap ((i : Int) + 1) = ((i + 1 : Nat) : Int) := by rw [wr64 (by omega) (by omega)]; omega
      conv => whnf
      refine ⟨m - 1, by omega, _, _, Frz.keep (fr' := [(1, bs app l), (13, .int .i64 0), (14, bs .no (l.dropWhile (· == 0))), (15, .bool true), (16, .int .i64 (i + 1 : Nat))]) (Fr.sub_cons rfl (Fr.sub_cons rfl (Fr.sub_cons rfl (Fr.sub_cons rfl (Fr.sub_cons (congrArg (fun z => some (AV.int .i64 z)) e1) (Fr.sub_nil _)))))), i + 1, by omega, ?_, rfl, rfl⟩
      rw [hdw, dropWhile_zero hz]
      congr 1
      have := congrArg (List.drop 1) hd
      simpa using this.symm
    · rw [show ((c.toNat : Int) == 0) = false from by simp; omega]
      conv => whnf
      refine StrGoal.b8 ?_
      conv => whnf
      refine SliceGoal.b8end i rfl (by simp) (by omega) ?_
      conv => whnf
      refine StrGoal.b8 ?_
      conv => whnf
      refine ⟨.inl rfl, .drop ⟨?_, rfl⟩⟩
      show AV.bool (_ == _) = _
      rw [hd, hdw, dropWhile_one hz, beq_self_eq_true]
end Go.Proofs.Ytmkgbegneiaaiaa
