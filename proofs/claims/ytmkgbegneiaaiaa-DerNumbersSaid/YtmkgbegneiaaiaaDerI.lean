/- Walks over der: the reference's Natural. -/
import Derived.Test.YtmkgbegneiaaiaaDerH
namespace Go.Proofs.Ytmkgbegneiaaiaa
open Go.Eng
set_option maxHeartbeats 1000000
set_option linter.unusedVariables false
set_option linter.unusedSimpArgs false
variable {P : Program} {G : Nat → AV}

def SkipI (app : App) (l : List UInt8) (t0 t1 : Nat) (n : Nat) (fr : Fr) (st : St) : Prop :=
  ∃ i : Nat, i + n = l.length ∧ l.dropWhile (· == 0) = (l.drop i).dropWhile (· == 0) ∧ fr = [(t0, bs app l), (t1, .int .i64 i)] ∧ st = []

theorem dropWhile_zero {c : UInt8} {r : List UInt8} (h : c.toNat = 0) : (c :: r).dropWhile (· == 0) = r.dropWhile (· == 0) := by
  have e : c = 0 := by rw [← u8_eq h (by omega)]; rfl
  subst e; rfl
theorem dropWhile_one {c : UInt8} {r : List UInt8} (h : c.toNat ≠ 0) : (c :: r).dropWhile (· == 0) = c :: r := by
  have e : (c == 0) = false := by
    rw [beq_eq_false_iff_ne]; rintro rfl; exact h rfl
  simp [List.dropWhile, e]

theorem refnatural_vc (hPut : RefPutOk P G) (app : App) (l : List UInt8) (hl : l.length < 549755813888) : vc P G c19 (Ret [.t 2] (putA 2 (natS l))) (argFr 0 [bs app l]) [] := by
  have hn := natS_len l
  have call : ∀ (ap : App) (x : List UInt8), x = natS l → Ans P G 13 [.int .u8 2, bs ap x] (putA 2 (natS l)) := fun ap x e => by
    subst e
    exact hPut 2 ap (natS l) (by omega)
  conv => whnf
  refine LoopGoal.inv (SkipI app l 0 3) l.length (Frz.keep (fr' := [(0, bs app l), (3, .int .i64 0)]) (Fr.sub_cons rfl (Fr.sub_cons rfl (Fr.sub_nil _)))) ⟨0, by omega, rfl, rfl, rfl⟩ ?_
  rintro n fr st ⟨i, hi, hdw, rfl, rfl⟩
  have hL : ((List.map b8 l).length : Int) = (l.length : Nat) := by simp
  -- what stands behind the loop
  have hdrop : ∀ c r, l.drop i = c :: r → i < l.length ∧ l[i]? = some c := fun c r e => by
    have h1 : i < l.length := by
      rcases Nat.lt_or_ge i l.length with q | q
      · exact q
      · rw [List.drop_eq_nil_of_le q] at e; cases e
    exact ⟨h1, by have := congrArg (·[0]?) e; simpa using this⟩
  conv => whnf
  rw [hL]
  cases hd : l.drop i with
  | nil =>
    have hge : l.length ≤ i := by simpa using hd
    have h0 : natS l = [0] := by rw [natS, hdw, hd]; rfl
    rw [show lssB (i : Int) ((l.length : Nat) : Int) = false from by rw [lssB_eq]; simp; omega]
    conv => whnf
    refine SliceGoal.b8end i rfl (by simp) (by omega) ?_
    rw [hd]
    conv => whnf
    refine AppGoal.fresh (.inl rfl) (of_decide_eq_true rfl) (of_decide_eq_true rfl) (fun _ => ?_) fun b cap => ?_
    · conv => whnf
      refine AppGoal.fresh (.inr rfl) (of_decide_eq_true rfl) (of_decide_eq_true rfl) (fun _ => ?_) fun b cap => ?_
      · conv => whnf
        refine CallGoal.pure (call .full [0] h0.symm) ?_
        conv => whnf
        refine ⟨.inl rfl, .drop ?_⟩
        conv => whnf
        exact ⟨rfl, rfl⟩
      · conv => whnf
        refine CallGoal.pure (call (.tok b cap) [0] h0.symm) ?_
        conv => whnf
        refine ⟨.inl rfl, .drop ?_⟩
        conv => whnf
        exact ⟨rfl, rfl⟩
    · conv => whnf
      refine AppGoal.fresh (.inr rfl) (of_decide_eq_true rfl) (of_decide_eq_true rfl) (fun _ => ?_) fun b cap => ?_
      · conv => whnf
        refine CallGoal.pure (call .full [0] h0.symm) ?_
        conv => whnf
        refine ⟨.inl rfl, .drop ?_⟩
        conv => whnf
        exact ⟨rfl, rfl⟩
      · conv => whnf
        refine CallGoal.pure (call (.tok b cap) [0] h0.symm) ?_
        conv => whnf
        refine ⟨.inl rfl, .drop ?_⟩
        conv => whnf
        exact ⟨rfl, rfl⟩
  | cons c r =>
    obtain ⟨hlt, hget⟩ := hdrop c r hd
    have hcl := c.toNat_lt
    have hrl : r.length + 1 ≤ l.length := by
      have := congrArg List.length hd
      simp at this; omega
    rw [show lssB (i : Int) ((l.length : Nat) : Int) = true from by rw [lssB_eq]; simp; omega]
    conv => whnf
    refine IdxGoal.b8n hget ?_
    conv => whnf
    by_cases hz : c.toNat = 0
    · rw [show ((c.toNat : Int) == 0) = true from by simp [hz]]
      have e1 : IntKind.i64.wrap ((i : Int) + 1) = ((i + 1 : Nat) : Int) := by rw [wr64 (by omega) (by omega)]; omega
      conv => whnf
      refine ⟨n - 1, by omega, _, _, Frz.keep (fr' := [(0, bs app l), (3, .int .i64 (i + 1 : Nat))]) (Fr.sub_cons rfl (Fr.sub_cons (congrArg (fun z => some (AV.int .i64 z)) e1) (Fr.sub_nil _))), i + 1, by omega, ?_, rfl, rfl⟩
      rw [hdw, hd, dropWhile_zero hz]
      congr 1
      have := congrArg (List.drop 1) hd
      simpa using this.symm
    · rw [show ((c.toNat : Int) == 0) = false from by simp; omega]
      conv => whnf
      refine SliceGoal.b8end i rfl (by simp) (by omega) ?_
      rw [hd]
      conv => whnf
      refine AppGoal.fresh (.inl rfl) (by show (0 + (List.map b8 (c :: r)).length) * 1 ≤ _; rw [List.length_map]; simp; omega) (by show 0 + (List.map b8 (c :: r)).length ≤ _; rw [List.length_map]; simp; omega) (fun h => by cases h) fun b cap => ?_
      conv => whnf
      refine IdxGoal.b8 (l := c :: r) (c := c) (by decide) rfl ?_
      conv => whnf
      refine bcase_mk (fun h => ?_) (fun h => ?_)
      · have h' : ¬ c.toNat < 128 := by simp [lssB_eq] at h; omega
        have h0 : natS l = 0 :: c :: r := by rw [natS, hdw, hd, dropWhile_one hz]; simp only; rw [if_neg h']
        conv => whnf
        refine AppGoal.fresh (.inr rfl) (by show (1 + (List.map b8 (c :: r)).length) * 1 ≤ _; rw [List.length_map]; simp; omega) (by show 1 + (List.map b8 (c :: r)).length ≤ _; rw [List.length_map]; simp; omega) (fun h => by cases h) fun b cap => ?_
        conv => whnf
        refine CallGoal.pure (call (.tok b cap) (0 :: c :: r) h0.symm) ?_
        conv => whnf
        refine ⟨.inl rfl, .drop ?_⟩
        conv => whnf
        exact ⟨rfl, rfl⟩
      · have h' : c.toNat < 128 := by simp [lssB_eq] at h; omega
        have h0 : natS l = c :: r := by rw [natS, hdw, hd, dropWhile_one hz]; simp only; rw [if_pos h']
        conv => whnf
        refine CallGoal.pure (call (.tok b cap) (c :: r) h0.symm) ?_
        conv => whnf
        refine ⟨.inl rfl, .drop ?_⟩
        conv => whnf
        exact ⟨rfl, rfl⟩
end Go.Proofs.Ytmkgbegneiaaiaa
