/- Walks over der: the reference's Whole: unfinished. -/
import Derived.Test.YtmkgbegneiaaiaaDerK
namespace Go.Proofs.Ytmkgbegneiaaiaa
open Go.Eng
set_option maxHeartbeats 1000000
set_option linter.unusedVariables false
set_option linter.unusedSimpArgs false
variable {P : Program} {G : Nat → AV}

def RefNatOk (P : Program) (G : Nat → AV) : Prop := ∀ (app : App) (l : List UInt8), l.length < 549755813888 → Ans P G 19 [bs app l] (putA 2 (natS l))

theorem refwhole_vc (hPut : RefPutOk P G) (hNat : RefNatOk P G) (app : App) (l : List UInt8) (happ : app = .nil → l = []) (hl : l.length < 900) : vc P G c17 (Ret [.t 2, .t 3] (wholeA l)) (argFr 0 [bs app l]) [] := by
  have fail : ∀ {fr : Fr}, fr.get 2 = some (bs .nil []) → fr.get 3 = some (.bool false) → wholeS l = none → RetGoal [.t 2, .t 3] (fun r st => r = wholeA l ∧ st = []) fr [] := fun h2 h3 h => by
    refine .drop ?_
    simp only [retVC, rvsVC, rvVC, h2, h3, withAV]
    exact ⟨by rw [wholeA, h], trivial⟩
  have done : ∀ {fr : Fr} {a : App} {x : List UInt8}, a ≠ .nil → fr.get 2 = some (bs a x) → fr.get 3 = some (.bool true) → wholeS l = some x → RetGoal [.t 2, .t 3] (fun r st => r = wholeA l ∧ st = []) fr [] := fun {fr a x} ha h2 h3 h => by
    refine .weak [(2, bs .no x), (3, .bool true)] (fun p hp => ?_) ?_
    · simp only [List.mem_cons, List.not_mem_nil, or_false] at hp
      rcases hp with rfl | rfl
      · exact ⟨_, h2, .slno _ _ _ ha⟩
      · exact ⟨_, h3, .refl _⟩
    · exact ⟨by rw [wholeA, h], rfl⟩
  have hn := natS_len l
  have hL : ((List.map b8 l).length : Int) = (l.length : Nat) := by simp
  have c1 : Ans P G 19 [bs app l] (bs .no (putS 2 (natS l))) := by
    have := hNat app l (by omega)
    rwa [putA, if_pos (by omega)] at this
  have c2 : Ans P G 13 [.int .u8 2, bs app l] (bs .no (putS 2 l)) := by
    have := hPut 2 app l (by omega)
    rwa [putA, if_pos (by omega)] at this
  conv => whnf
  refine LoopGoal.inv (SkipI app l 0 4) l.length (Frz.keep (fr' := [(0, bs app l), (4, .int .i64 0)]) (Fr.sub_cons rfl (Fr.sub_cons rfl (Fr.sub_nil _)))) ⟨0, by omega, rfl, rfl, rfl⟩ ?_
  rintro n fr st ⟨i, hi, hdw, rfl, rfl⟩
  conv => whnf
  rw [hL]
  -- what stands behind the loop: the bytes from i on begin with no zero
  cases hd : l.drop i with
  | nil =>
    have hge : l.length ≤ i := by simpa using hd
    rw [hd] at hdw
    rw [show lssB (i : Int) ((l.length : Nat) : Int) = false from by rw [lssB_eq]; simp; omega]
    rcases l with _ | ⟨c, r⟩
    · conv => whnf
      exact ⟨.inl rfl, fail rfl rfl rfl⟩
    have hne : app ≠ .nil := fun e => by cases happ e
    have hw := whole_spec c r
    rw [hdw] at hw
    conv => whnf
    refine CallGoal.pure c1 ?_
    conv => whnf
    refine StrGoal.b8 ?_
    conv => whnf
    refine CallGoal.pure c2 ?_
    conv => whnf
    refine StrGoal.b8 ?_
    conv => whnf
    refine bcase_mk (fun h1 => ?_) (fun h1 => ?_)
    · have h1' : natS (c :: r) ≠ c :: r := by
        intro e
        rw [e] at h1
        simp at h1
      conv => whnf
      exact ⟨.inl rfl, fail rfl rfl (by rw [hw, if_neg (fun q => h1' q.1)])⟩
    have h1' : natS (c :: r) = c :: r := putS_inj (tag := 2) (by omega) (by omega) (by simpa using h1)
    conv => whnf
    refine IdxGoal.b8 (c := c) (by decide) rfl ?_
    conv => whnf
    refine bcase_mk (fun h2 => ?_) (fun h2 => ?_)
    · have h2' : ¬ c.toNat < 128 := by simp [lssB_eq] at h2; omega
      conv => whnf
      exact ⟨.inl rfl, fail rfl rfl (by rw [hw, if_neg (fun q => h2' q.2)])⟩
    have h2' : c.toNat < 128 := by simp [lssB_eq] at h2; omega
    conv => whnf
    refine SliceGoal.b8end i rfl (by simp) (by omega) ?_
    conv => whnf
    refine ⟨.inl rfl, done (App.cut_ne hne _) rfl rfl ?_⟩
    rw [hw, if_pos ⟨h1', h2'⟩, hd]
    rfl
  | cons c' r' =>
    have hlt : i < l.length := by
      rcases Nat.lt_or_ge i l.length with q | q
      · exact q
      · rw [List.drop_eq_nil_of_le q] at hd; cases hd
    have hget : l[i]? = some c' := by have := congrArg (·[0]?) hd; simpa using this
    have hcl := c'.toNat_lt
    rw [hd] at hdw
    rw [show lssB (i : Int) ((l.length : Nat) : Int) = true from by rw [lssB_eq]; simp; omega]
    conv => whnf
    refine IdxGoal.b8n hget ?_
    conv => whnf
    by_cases hz : c'.toNat = 0
    · rw [show ((c'.toNat : Int) == 0) = true from by simp [hz]]
      have e1 : IntKind.i64.wrap ((i : Int) + 1) = ((i + 1 : Nat) : Int) := by rw [wr64 (by omega) (by omega)]; omega
      conv => whnf
      refine ⟨n - 1, by omega, _, _, Frz.keep (fr' := [(0, bs app l), (4, .int .i64 (i + 1 : Nat))]) (Fr.sub_cons rfl (Fr.sub_cons (congrArg (fun z => some (AV.int .i64 z)) e1) (Fr.sub_nil _))), i + 1, by omega, ?_, rfl, rfl⟩
      rw [hdw, dropWhile_zero hz]
      congr 1
      have := congrArg (List.drop 1) hd
      simpa using this.symm
    rw [show ((c'.toNat : Int) == 0) = false from by simp; omega]
    rcases l with _ | ⟨c, r⟩
    · simp at hlt
    have hne : app ≠ .nil := fun e => by cases happ e
    have hw := whole_spec c r
    rw [hdw, dropWhile_one hz] at hw
    conv => whnf
    refine CallGoal.pure c1 ?_
    conv => whnf
    refine StrGoal.b8 ?_
    conv => whnf
    refine CallGoal.pure c2 ?_
    conv => whnf
    refine StrGoal.b8 ?_
    conv => whnf
    refine bcase_mk (fun h1 => ?_) (fun h1 => ?_)
    · have h1' : natS (c :: r) ≠ c :: r := by
        intro e
        rw [e] at h1
        simp at h1
      conv => whnf
      exact ⟨.inl rfl, fail rfl rfl (by rw [hw, if_neg (fun q => h1' q.1)])⟩
    have h1' : natS (c :: r) = c :: r := putS_inj (tag := 2) (by omega) (by omega) (by simpa using h1)
    conv => whnf
    refine IdxGoal.b8 (c := c) (by decide) rfl ?_
    conv => whnf
    refine bcase_mk (fun h2 => ?_) (fun h2 => ?_)
    · have h2' : ¬ c.toNat < 128 := by simp [lssB_eq] at h2; omega
      conv => whnf
      exact ⟨.inl rfl, fail rfl rfl (by rw [hw, if_neg (fun q => h2' q.2)])⟩
    have h2' : c.toNat < 128 := by simp [lssB_eq] at h2; omega
    conv => whnf
    refine SliceGoal.b8end i rfl (by simp) (by omega) ?_
    conv => whnf
    refine ⟨.inl rfl, done (App.cut_ne hne _) rfl rfl ?_⟩
    rw [hw, if_pos ⟨h1', h2'⟩, hd]
end Go.Proofs.Ytmkgbegneiaaiaa
