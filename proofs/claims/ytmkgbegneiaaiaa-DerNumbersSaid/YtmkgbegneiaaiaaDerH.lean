/- Walks over der: Natural. -/
import Derived.Test.YtmkgbegneiaaiaaDerG
namespace Go.Proofs.Ytmkgbegneiaaiaa
open Go.Eng
set_option maxHeartbeats 1000000
set_option linter.unusedVariables false
set_option linter.unusedSimpArgs false
variable {P : Program} {G : Nat → AV}

/-- An INTEGER's bytes of bytes, the highest first. -/
def natS (l : List UInt8) : List UInt8 := match l.dropWhile (· == 0) with
  | [] => [0]
  | c :: r => if c.toNat < 128 then c :: r else 0 :: c :: r
theorem natS_zero (c : UInt8) (r : List UInt8) (h : c.toNat = 0) : natS (c :: r) = natS r := by
  have e : c = 0 := by rw [← u8_eq h (by omega)]; rfl
  subst e; rfl
theorem natS_one {c : UInt8} {r : List UInt8} (h : c.toNat ≠ 0) : natS (c :: r) = if c.toNat < 128 then c :: r else 0 :: c :: r := by
  have e : (c == 0) = false := by
    rw [beq_eq_false_iff_ne]; rintro rfl; exact h rfl
  simp [natS, List.dropWhile, e]
theorem natS_len (l : List UInt8) : (natS l).length ≤ l.length + 1 := by
  have h : (l.dropWhile (· == 0)).length ≤ l.length := by
    have := congrArg List.length (List.takeWhile_append_dropWhile (p := (· == (0 : UInt8))) (l := l))
    rw [List.length_append] at this; omega
  unfold natS
  split
  · simp
  · rename_i c r e
    rw [e] at h
    simp only [List.length_cons] at h
    split <;> simp <;> omega

def NatI (l : List UInt8) (n : Nat) (fr : Fr) (st : St) : Prop :=
  ∃ (a : App) (m : List UInt8), n = m.length ∧ m.length ≤ l.length ∧ natS m = natS l ∧ (a = .nil → m = []) ∧ fr = [(0, bs a m)] ∧ st = []

theorem natural_vc (hPut : PutOk P G) (app : App) (l : List UInt8) (happ : app = .nil → l = []) (hl : l.length < 549755813888) : vc P G c20 (Ret [.t 2] (putA 2 (natS l))) (argFr 0 [bs app l]) [] := by
  have hn := natS_len l
  conv => whnf
  refine LoopGoal.inv (NatI l) l.length (Frz.keep (fr' := [(0, bs app l)]) (Fr.sub_cons rfl (Fr.sub_nil _))) ⟨app, l, rfl, Nat.le_refl _, rfl, happ, rfl, rfl⟩ ?_
  rintro n fr st ⟨a, m, rfl, hml, hnat, ha, rfl, rfl⟩
  -- what stands behind the loop
  have call : ∀ (ap : App) (x : List UInt8), x = natS l → Ans P G 12 [.int .u8 2, .sl .full 1 [[bs ap x]]] (putA 2 (natS l)) := fun ap x e => by
    subst e
    have := hPut 2 .full [(ap, natS l)] (by simp; omega) (by simp)
    rw [show (([(ap, natS l)] : List (App × List UInt8)).map (·.2)).flatten = natS l from by simp] at this
    exact this
  rcases m with _ | ⟨c, _ | ⟨d, r⟩⟩
  · have h0 : natS l = [0] := by rw [← hnat]; rfl
    conv => whnf
    refine AppGoal.fresh (.inr rfl) (of_decide_eq_true rfl) (of_decide_eq_true rfl) (fun _ => ?_) fun b cap => ?_
    · conv => whnf
      refine CallGoal.pure (call .full [0] h0.symm) ?_
      conv => whnf
      refine ⟨.inl rfl, .drop ?_⟩
      conv => whnf
      exact ⟨rfl, rfl⟩
    · conv => whnf
      refine CallGoal.pure (call (.tok b cap) [0] h0.symm) ?_
      conv => whnf
      refine ⟨.inl rfl, .drop ?_⟩
      conv => whnf
      exact ⟨rfl, rfl⟩
  · have hcl := c.toNat_lt
    conv => whnf
    refine IdxGoal.b8 (c := c) (by decide) rfl ?_
    conv => whnf
    refine bcase_mk (fun h => ?_) (fun h => ?_)
    · have h' : ¬ c.toNat < 128 := by simp [lssB_eq] at h; omega
      have h0 : natS l = [0, c] := by rw [← hnat, natS_one (by omega), if_neg h']
      conv => whnf
      refine AppGoal.fresh (.inr rfl) (of_decide_eq_true rfl) (of_decide_eq_true rfl) (fun h => by cases h) fun b cap => ?_
      conv => whnf
      refine CallGoal.pure (call (.tok b cap) [0, c] h0.symm) ?_
      conv => whnf
      refine ⟨.inl rfl, .drop ?_⟩
      conv => whnf
      exact ⟨rfl, rfl⟩
    · have h' : c.toNat < 128 := by simp [lssB_eq] at h; omega
      have h0 : natS l = [c] := by
        rw [← hnat]
        by_cases hz : c.toNat = 0
        · rw [natS_zero c [] hz]
          have e : c = 0 := by rw [← u8_eq hz (by omega)]; rfl
          rw [e]; rfl
        · rw [natS_one hz, if_pos h']
      conv => whnf
      refine CallGoal.pure (call a [c] h0.symm) ?_
      conv => whnf
      refine ⟨.inl rfl, .drop ?_⟩
      conv => whnf
      exact ⟨rfl, rfl⟩
  · have hcl := c.toNat_lt
    conv => whnf
    refine IdxGoal.b8 (c := c) (by decide) rfl ?_
    conv => whnf
    by_cases hz : c.toNat = 0
    · rw [show ((c.toNat : Int) == 0) = true from by simp [hz]]
      conv => whnf
      refine SliceGoal.b8end 1 rfl (by simp) (by simp) ?_
      conv => whnf
      have hne : a ≠ .nil := fun e => by cases ha e
      refine ⟨(d :: r).length, by simp, [(0, bs (a.cut true) (d :: r))], [], Frz.keep (Fr.sub_cons rfl (Fr.sub_nil _)), a.cut true, d :: r, rfl, by simp at hml ⊢; omega, by rw [← hnat, natS_zero c _ hz], fun e => absurd e (App.cut_ne hne _), rfl, rfl⟩
    · rw [show ((c.toNat : Int) == 0) = false from by simp; omega]
      conv => whnf
      refine IdxGoal.b8 (c := c) (by decide) rfl ?_
      conv => whnf
      refine bcase_mk (fun h => ?_) (fun h => ?_)
      · have h' : ¬ c.toNat < 128 := by simp [lssB_eq] at h; omega
        have h0 : natS l = 0 :: c :: d :: r := by rw [← hnat, natS_one hz, if_neg h']
        conv => whnf
        refine AppGoal.fresh (.inr rfl) (by show (1 + (List.map b8 (c :: d :: r)).length) * 1 ≤ _; rw [List.length_map]; omega) (by show 1 + (List.map b8 (c :: d :: r)).length ≤ _; rw [List.length_map]; omega) (fun h => by cases h) fun b cap => ?_
        conv => whnf
        refine CallGoal.pure (call (.tok b cap) (0 :: c :: d :: r) h0.symm) ?_
        conv => whnf
        refine ⟨.inl rfl, .drop ?_⟩
        conv => whnf
        exact ⟨rfl, rfl⟩
      · have h' : c.toNat < 128 := by simp [lssB_eq] at h; omega
        have h0 : natS l = c :: d :: r := by rw [← hnat, natS_one hz, if_pos h']
        conv => whnf
        refine CallGoal.pure (call a (c :: d :: r) h0.symm) ?_
        conv => whnf
        refine ⟨.inl rfl, .drop ?_⟩
        conv => whnf
        exact ⟨rfl, rfl⟩
end Go.Proofs.Ytmkgbegneiaaiaa
