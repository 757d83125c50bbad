/- Walks over der: the reference's Get; sound; the law DerGets. -/
import Derived.Test.YtmkgbegneiaaiaaDerB
namespace Go.Proofs.Ytmkgbegneiaaiaa
open Go.Eng
set_option maxHeartbeats 1000000
set_option linter.unusedVariables false
variable {P : Program} {G : Nat → AV}

theorem refget_vc (app : App) (l : List UInt8) (hl : l.length < 1099511627776) : vc P G c15 (Ret [.t 2, .t 3, .t 4] (getB l)) (argFr 0 [bs app l]) [] := by
  have fail : ∀ {fr : Fr}, fr.get 2 = some (.int .i64 0) → fr.get 3 = some (.int .i64 0) → fr.get 4 = some (.bool false) → getN l = none → RetGoal [.t 2, .t 3, .t 4] (fun r st => r = getB l ∧ st = []) fr [] := fun h2 h3 h4 h => by
    refine .drop ?_
    simp only [retVC, rvsVC, rvVC, h2, h3, h4, withAV]
    exact ⟨by rw [getB, h], trivial⟩
  have done : ∀ {fr : Fr} {h n : Nat} {x y z : Int}, getN l = some (h, n) → fr.get 2 = some (.int .i64 x) → fr.get 3 = some (.int .i64 y) → fr.get 4 = some (.bool (!lssB (((List.map b8 l).length : Nat) : Int) z)) → x = h → y = n → z = ((h + n : Nat) : Int) → RetGoal [.t 2, .t 3, .t 4] (fun r st => r = getB l ∧ st = []) fr [] := fun {fr h n x y z} hg h2 h3 h4 ex ey ez => by
    refine .drop ?_
    simp only [retVC, rvsVC, rvVC, h2, h3, h4, withAV]
    refine ⟨?_, trivial⟩
    rw [getB, hg, ex, ey, ez, lssB_eq]
    have : (!decide (((List.map b8 l).length : Int) < ((h + n : Nat) : Int))) = decide (h + n ≤ l.length) := by
      by_cases q : h + n ≤ l.length
      · rw [decide_eq_true q, decide_eq_false (by simp; omega)]; rfl
      · rw [decide_eq_false q, decide_eq_true (by simp; omega)]; rfl
    rw [this]
  rcases l with _ | ⟨a, _ | ⟨b, r⟩⟩
  · conv => whnf
    exact ⟨.inl rfl, fail rfl rfl rfl rfl⟩
  · conv => whnf
    exact ⟨.inl rfl, fail rfl rfl rfl rfl⟩
  have hbl := b.toNat_lt
  have eb : IntKind.i64.wrap (b.toNat : Int) = b.toNat := wr64 (by omega) (by omega)
  have hlen : r.length + 2 < 1099511627776 := by simpa using hl
  have e32 : ((a.toNat : Int).tmod 32 == 31) = decide (a.toNat % 32 = 31) := by
    rw [Int.tmod_eq_emod_of_nonneg (by omega)]
    by_cases q : a.toNat % 32 = 31
    · rw [decide_eq_true q]; simp; omega
    · rw [decide_eq_false q]; simp; omega
  conv => whnf
  refine IdxGoal.b8 (c := a) (by decide) rfl ?_
  conv => whnf
  rw [e32]
  refine bcase_mk (fun h => ?_) (fun h => ?_)
  · have h1 : a.toNat % 32 = 31 := by simpa using h
    conv => whnf
    exact ⟨.inl rfl, fail rfl rfl rfl (by simp [getN, h1])⟩
  have h1 : ¬ a.toNat % 32 = 31 := by simpa using h
  conv => whnf
  refine IdxGoal.b8 (c := b) (by decide) rfl ?_
  conv => whnf
  refine IdxGoal.b8 (c := b) (by decide) rfl ?_
  conv => whnf
  by_cases h129 : b.toNat = 129
  · rw [h129]
    rcases r with _ | ⟨c, r⟩
    · conv => whnf
      exact ⟨.inl rfl, fail rfl rfl rfl (by simp [getN, h1, h129])⟩
    have hcl := c.toNat_lt
    have hr : r.length < 1099511627776 := by simp at hlen; omega
    have ec : IntKind.i64.wrap (c.toNat : Int) = c.toNat := wr64 (by omega) (by omega)
    conv => whnf
    refine IdxGoal.b8 (c := c) (by decide) rfl ?_
    conv => whnf
    refine bcase_mk (fun h2 => ?_) (fun h2 => ?_)
    · have h2' : c.toNat < 128 := by simp [lssB_eq] at h2; omega
      conv => whnf
      exact ⟨.inl rfl, fail rfl rfl rfl (by simp [getN, h1, h129, h2'])⟩
    have h2' : ¬ c.toNat < 128 := by simp [lssB_eq] at h2; omega
    have hg : getN (a :: b :: c :: r) = some (3, c.toNat) := by simp [getN, h1, h129, h2']
    conv => whnf
    refine IdxGoal.b8 (c := c) (by decide) rfl ?_
    conv => whnf
    exact ⟨.inl rfl, done hg rfl rfl rfl rfl ec (by rw [ec, wr64 (by omega) (by omega)]; omega)⟩
  have e1 : ((b.toNat : Int) == 129) = false := by simp; omega
  rw [e1]
  conv => whnf
  by_cases h130 : b.toNat = 130
  · rw [show ((b.toNat : Int) == 130) = true from by simp [h130]]
    rcases r with _ | ⟨c, _ | ⟨d, r⟩⟩
    · conv => whnf
      exact ⟨.inl rfl, fail rfl rfl rfl (by simp [getN, h1, h130])⟩
    · conv => whnf
      exact ⟨.inl rfl, fail rfl rfl rfl (by simp [getN, h1, h130])⟩
    have hcl := c.toNat_lt
    have hdl := d.toNat_lt
    have hr : r.length < 1099511627776 := by simp at hlen; omega
    have ec : IntKind.i64.wrap (c.toNat : Int) = c.toNat := wr64 (by omega) (by omega)
    have ed : IntKind.i64.wrap (d.toNat : Int) = d.toNat := wr64 (by omega) (by omega)
    conv => whnf
    refine IdxGoal.b8 (c := c) (by decide) rfl ?_
    conv => whnf
    refine bcase_mk (fun h2 => ?_) (fun h2 => ?_)
    · have h2' : c.toNat = 0 := by simp at h2; omega
      conv => whnf
      exact ⟨.inl rfl, fail rfl rfl rfl (by simp [getN, h1, h130, h2'])⟩
    have h2' : ¬ c.toNat = 0 := by simp at h2; omega
    have hg : getN (a :: b :: c :: d :: r) = some (4, c.toNat * 256 + d.toNat) := by simp [getN, h1, h130, h2']
    have en : IntKind.i64.wrap (IntKind.i64.wrap (IntKind.i64.wrap (c.toNat : Int) * 256) + IntKind.i64.wrap (d.toNat : Int)) = ((c.toNat * 256 + d.toNat : Nat) : Int) := by
      rw [ec, ed, wr64 (n := (c.toNat : Int) * 256) (by omega) (by omega), wr64 (by omega) (by omega)]; omega
    conv => whnf
    refine IdxGoal.b8 (c := c) (by decide) rfl ?_
    conv => whnf
    refine IdxGoal.b8 (c := d) (by decide) rfl ?_
    conv => whnf
    exact ⟨.inl rfl, done hg rfl rfl rfl rfl en (by rw [en, wr64 (by omega) (by omega)]; omega)⟩
  have e2 : ((b.toNat : Int) == 130) = false := by simp; omega
  rw [e2]
  conv => whnf
  rw [eb]
  refine bcase_mk (fun h2 => ?_) (fun h2 => ?_)
  · have h2' : ¬ b.toNat < 128 := by simp [lssB_eq] at h2; omega
    have hg : getN (a :: b :: r) = none := by
      simp only [getN, if_neg h1]
      split <;> first | omega | simp [h2']
    conv => whnf
    exact ⟨.inl rfl, fail rfl rfl rfl hg⟩
  · have h2' : b.toNat < 128 := by simp [lssB_eq] at h2; omega
    have hg : getN (a :: b :: r) = some (2, b.toNat) := by
      simp only [getN, if_neg h1]
      split <;> first | omega | simp [h2']
    conv => whnf
    exact ⟨.inl rfl, done hg rfl rfl rfl rfl rfl (by rw [wr64 (by omega) (by omega)]; omega)⟩

def GetOk (P : Program) (G : Nat → AV) : Prop := ∀ (app : App) (l : List UInt8), (app = .nil → l = []) → l.length < 1099511627776 → Ans P G 14 [bs app l] (getA l)
def RefGetOk (P : Program) (G : Nat → AV) : Prop := ∀ (app : App) (l : List UInt8), l.length < 1099511627776 → Ans P G 15 [bs app l] (getB l)

theorem sound_vc (hGet : GetOk P G) (hNum : Ans P G 18 [.int .u64 128] (bs .no [2, 2, 0, 128])) (hWhen : Ans P G 26 [.int .u64 0] (bs .no [23, 13, 55, 48, 48, 49, 48, 49, 48, 48, 48, 48, 48, 48, 90])) :
    vc P G c11 (Ret [.t 0] (.bool true)) (argFr 0 []) [] := by
  conv => whnf
  refine CallGoal.pure hNum ?_
  conv => whnf
  refine CallGoal.pure (hGet .no [2, 2, 0, 128] (by simp) (by simp)) ?_
  conv => whnf
  refine StrGoal.b8 (l := [0, 128]) ?_
  conv => whnf
  refine CallGoal.pure hWhen ?_
  conv => whnf
  refine StrGoal.b8 (l := [23, 13, 55, 48, 48, 49, 48, 49, 48, 48, 48, 48, 48, 48, 90]) ?_
  conv => whnf
  exact ⟨.inl rfl, .drop ⟨rfl, rfl⟩⟩

def SoundOk (P : Program) (G : Nat → AV) : Prop := Ans P G 11 [] (.bool true)

theorem dergets_vc (hS : SoundOk P G) (hGet : GetOk P G) (hRef : RefGetOk P G) (app : App) (l : List UInt8) (happ : app = .nil → l = []) (hl : l.length ≤ 9223372036854775807) : vc P G c4 (Ret [.t 2] (.bool true)) (argFr 0 [bs app l]) [] := by
  conv => whnf
  refine CallGoal.pure hS ?_
  conv => whnf
  refine bcase_mk (fun h => ?_) (fun h => ?_)
  · conv => whnf
    exact ⟨.inl rfl, .drop ⟨rfl, rfl⟩⟩
  have h5 : l.length ≤ 5000 := by simp [lssB_eq] at h; omega
  conv => whnf
  refine CallGoal.pure (hGet app l happ (by omega)) ?_
  have hb := hRef app l (by omega)
  unfold getB at hb
  unfold getA getS
  cases hn : getN l with
  | none =>
    rw [hn] at hb
    conv => whnf
    refine CallGoal.pure hb ?_
    conv => whnf
    exact ⟨.inl rfl, .drop ⟨rfl, rfl⟩⟩
  | some p =>
    obtain ⟨hh, n⟩ := p
    rw [hn] at hb
    simp only at hb ⊢
    by_cases hle : hh + n ≤ l.length
    · rw [if_pos hle]
      rw [decide_eq_true hle] at hb
      have hne : ∃ a r, l = a :: r := by
        cases l with
        | nil => cases hn
        | cons a r => exact ⟨a, r, rfl⟩
      obtain ⟨a, r, rfl⟩ := hne
      conv => whnf
      refine CallGoal.pure hb ?_
      conv => whnf
      refine IdxGoal.b8 (c := a) (by decide) rfl ?_
      conv => whnf
      rw [show (((((a :: r).getD 0 0).toNat : Nat) : Int) == (a.toNat : Int)) = true from by simp]
      have es : IntKind.i64.wrap ((hh : Int) + n) = ((hh + n : Nat) : Int) := by rw [wr64 (by omega) (by omega)]; omega
      conv => whnf
      refine StrGoal.b8 ?_
      conv => whnf
      refine SliceGoal.b8 hh (hh + n) rfl es (by omega) hle ?_
      rw [Nat.add_sub_cancel_left]
      conv => whnf
      refine StrGoal.b8 ?_
      conv => whnf
      refine bcase_mk (fun hq => ?_) (fun hq => absurd hq (by simp))
      conv => whnf
      refine StrGoal.b8 ?_
      conv => whnf
      refine SliceGoal.b8end (hh + n) es (by simp) hle ?_
      conv => whnf
      refine StrGoal.b8 ?_
      conv => whnf
      refine ⟨.inl rfl, .drop ⟨?_, rfl⟩⟩
      show AV.bool (_ == _) = _
      rw [beq_self_eq_true]
    · rw [if_neg hle]
      rw [decide_eq_false hle] at hb
      conv => whnf
      refine CallGoal.pure hb ?_
      conv => whnf
      exact ⟨.inl rfl, .drop ⟨rfl, rfl⟩⟩
end Go.Proofs.Ytmkgbegneiaaiaa
