/- Walks over der: Whole. -/
import Derived.Test.YtmkgbegneiaaiaaDerI
namespace Go.Proofs.Ytmkgbegneiaaiaa
open Go.Eng
set_option maxHeartbeats 1000000
set_option linter.unusedVariables false
set_option linter.unusedSimpArgs false
variable {P : Program} {G : Nat → AV}

/-- The bytes of an INTEGER that is not below 0, without zeros ahead. -/
def wholeS (l : List UInt8) : Option (List UInt8) := match l with
  | [] => none
  | [c] => if c.toNat < 128 then (if c.toNat = 0 then some [] else some [c]) else none
  | c :: d :: r => if c.toNat < 128 then (if c.toNat = 0 then (if d.toNat < 128 then none else some (d :: r)) else some (c :: d :: r)) else none
def wholeA (l : List UInt8) : AV := match wholeS l with
  | some x => .tup [bs .no x, .bool true]
  | none => .tup [bs .nil [], .bool false]

theorem whole_vc (app : App) (l : List UInt8) (happ : app = .nil → l = []) (hl : l.length < 549755813888) : vc P G c16 (Ret [.t 2, .t 3] (wholeA l)) (argFr 0 [bs app l]) [] := by
  have fail : ∀ {fr : Fr}, fr.get 2 = some (bs .nil []) → fr.get 3 = some (.bool false) → wholeS l = none → RetGoal [.t 2, .t 3] (fun r st => r = wholeA l ∧ st = []) fr [] := fun h2 h3 h => by
    refine .drop ?_
    simp only [retVC, rvsVC, rvVC, h2, h3, withAV]
    exact ⟨by rw [wholeA, h], trivial⟩
  have done : ∀ {fr : Fr} {a : App} {x : List UInt8}, a ≠ .nil → fr.get 2 = some (bs a x) → fr.get 3 = some (.bool true) → wholeS l = some x → RetGoal [.t 2, .t 3] (fun r st => r = wholeA l ∧ st = []) fr [] := fun {fr a x} ha h2 h3 h => by
    refine .weak [(2, bs .no x), (3, .bool true)] (fun p hp => ?_) ?_
    · simp only [List.mem_cons, List.not_mem_nil, or_false] at hp
      rcases hp with rfl | rfl
      · exact ⟨_, h2, .slno _ _ _ ha⟩
      · exact ⟨_, h3, .refl _⟩
    · exact ⟨by rw [wholeA, h], rfl⟩
  rcases l with _ | ⟨c, _ | ⟨d, r⟩⟩
  · conv => whnf
    exact ⟨.inl rfl, fail rfl rfl rfl⟩
  · have hne : app ≠ .nil := fun e => by cases happ e
    conv => whnf
    refine IdxGoal.b8 (c := c) (by decide) rfl ?_
    conv => whnf
    refine bcase_mk (fun h => ?_) (fun h => ?_)
    · have h' : ¬ c.toNat < 128 := by simp [lssB_eq] at h; omega
      conv => whnf
      exact ⟨.inl rfl, fail rfl rfl (by simp [wholeS, h'])⟩
    have h' : c.toNat < 128 := by simp [lssB_eq] at h; omega
    conv => whnf
    refine IdxGoal.b8 (c := c) (by decide) rfl ?_
    conv => whnf
    by_cases hz : c.toNat = 0
    · rw [show ((c.toNat : Int) == 0) = true from by simp [hz]]
      conv => whnf
      refine SliceGoal.b8end 1 rfl (by simp) (by simp) ?_
      conv => whnf
      exact ⟨.inl rfl, done (App.cut_ne hne _) rfl rfl (by simp [wholeS, h', hz])⟩
    · rw [show ((c.toNat : Int) == 0) = false from by simp; omega]
      conv => whnf
      exact ⟨.inl rfl, done hne rfl rfl (by simp [wholeS, h', hz])⟩
  · have hne : app ≠ .nil := fun e => by cases happ e
    conv => whnf
    refine IdxGoal.b8 (c := c) (by decide) rfl ?_
    conv => whnf
    refine bcase_mk (fun h => ?_) (fun h => ?_)
    · have h' : ¬ c.toNat < 128 := by simp [lssB_eq] at h; omega
      conv => whnf
      exact ⟨.inl rfl, fail rfl rfl (by simp [wholeS, h'])⟩
    have h' : c.toNat < 128 := by simp [lssB_eq] at h; omega
    conv => whnf
    refine IdxGoal.b8 (c := c) (by decide) rfl ?_
    conv => whnf
    by_cases hz : c.toNat = 0
    · rw [show ((c.toNat : Int) == 0) = true from by simp [hz]]
      conv => whnf
      refine IdxGoal.b8 (c := d) (by decide) rfl ?_
      conv => whnf
      refine bcase_mk (fun h2 => ?_) (fun h2 => ?_)
      · have h2' : d.toNat < 128 := by simp [lssB_eq] at h2; omega
        conv => whnf
        exact ⟨.inl rfl, fail rfl rfl (by simp [wholeS, h', hz, h2'])⟩
      have h2' : ¬ d.toNat < 128 := by simp [lssB_eq] at h2; omega
      conv => whnf
      refine IdxGoal.b8 (c := c) (by decide) rfl ?_
      conv => whnf
      rw [show ((c.toNat : Int) == 0) = true from by simp [hz]]
      conv => whnf
      refine SliceGoal.b8end 1 rfl (by simp) (by simp) ?_
      conv => whnf
      exact ⟨.inl rfl, done (App.cut_ne hne _) rfl rfl (by simp [wholeS, h', hz, h2'])⟩
    · rw [show ((c.toNat : Int) == 0) = false from by simp; omega]
      conv => whnf
      refine IdxGoal.b8 (c := c) (by decide) rfl ?_
      conv => whnf
      rw [show ((c.toNat : Int) == 0) = false from by simp; omega]
      conv => whnf
      exact ⟨.inl rfl, done hne rfl rfl (by simp [wholeS, h', hz])⟩
end Go.Proofs.Ytmkgbegneiaaiaa
