/- Walks over der: Get, both. -/
import Derived.Test.YtmkgbegneiaaiaaDerA
namespace Go.Proofs.Ytmkgbegneiaaiaa
open Go.Eng
set_option maxHeartbeats 1000000
set_option linter.unusedVariables false
variable {P : Program} {G : Nat → AV}

theorem band31 (c : UInt8) : band .u8 (c.toNat : Int) 31 = ((c.toNat % 32 : Nat) : Int) := by
  have h := c.toNat_lt
  unfold band
  rw [show (BitVec.ofInt IntKind.u8.bits (c.toNat : Int) &&& BitVec.ofInt IntKind.u8.bits 31).toNat = c.toNat % 32 from by
    rw [BitVec.toNat_and]
    simp only [IntKind.bits, BitVec.toNat_ofInt]
    rw [show ((c.toNat : Int) % ((2 ^ 8 : Nat) : Int)).toNat = c.toNat from by omega, show ((31 : Int) % ((2 ^ 8 : Nat) : Int)).toNat = 2 ^ 5 - 1 from by decide]
    exact Nat.and_two_pow_sub_one_eq_mod c.toNat 5]
  rw [IntKind.wrap_u8]; omega
theorem bor8 (a b : UInt8) : bor .i64 (shl .i64 (a.toNat : Int) 8) (b.toNat : Int) = ((a.toNat * 256 + b.toNat : Nat) : Int) := by
  have ha := a.toNat_lt
  have hb := b.toNat_lt
  have e : shl .i64 (a.toNat : Int) 8 = ((a.toNat * 256 : Nat) : Int) := by
    show IntKind.i64.wrap ((a.toNat : Int) * 2 ^ 8) = _
    rw [wr64 (by omega) (by omega)]; omega
  rw [e]
  unfold bor
  rw [show (BitVec.ofInt IntKind.i64.bits ((a.toNat * 256 : Nat) : Int) ||| BitVec.ofInt IntKind.i64.bits (b.toNat : Int)).toNat = a.toNat * 256 + b.toNat from by
    rw [BitVec.toNat_or]
    simp only [IntKind.bits, BitVec.toNat_ofInt]
    rw [show (((a.toNat * 256 : Nat) : Int) % ((2 ^ 64 : Nat) : Int)).toNat = a.toNat <<< 8 from by rw [Nat.shiftLeft_eq]; omega, show ((b.toNat : Int) % ((2 ^ 64 : Nat) : Int)).toNat = b.toNat from by omega]
    rw [← Nat.shiftLeft_add_eq_or_of_lt (by omega), Nat.shiftLeft_eq]]
  rw [wr64 (by omega) (by omega)]

/-- Where the first element's bytes begin, and how many they are. -/
def getN (l : List UInt8) : Option (Nat × Nat) := match l with
  | a :: b :: r =>
    if a.toNat % 32 = 31 then none
    else match b.toNat, r with
      | 129, c :: _ => if c.toNat < 128 then none else some (3, c.toNat)
      | 130, c :: d :: _ => if c.toNat = 0 then none else some (4, c.toNat * 256 + d.toNat)
      | n, _ => if n < 128 then some (2, n) else none
  | _ => none
def getS (l : List UInt8) : Option (Nat × Nat) := match getN l with
  | some (h, n) => if h + n ≤ l.length then some (h, n) else none
  | none => none
def getA (l : List UInt8) : AV := match getS l with
  | some (h, n) => .tup [u8 (l.getD 0 0), bs .no ((l.drop h).take n), bs .no (l.drop (h + n)), .int .i64 0]
  | none => .tup [.int .u8 0, bs .nil [], bs .nil [], .int .i64 3]
/-- What the reference hands back. -/
def getB (l : List UInt8) : AV := match getN l with
  | some (h, n) => .tup [.int .i64 h, .int .i64 n, .bool (decide (h + n ≤ l.length))]
  | none => .tup [.int .i64 0, .int .i64 0, .bool false]

theorem get_vc (app : App) (l : List UInt8) (happ : app = .nil → l = []) (hl : l.length < 1099511627776) : vc P G c14 (Ret [.t 2, .t 3, .t 4, .t 5] (getA l)) (argFr 0 [bs app l]) [] := by
  have fail : ∀ {fr : Fr}, fr.get 2 = some (.int .u8 0) → fr.get 3 = some (bs .nil []) → fr.get 4 = some (bs .nil []) → fr.get 5 = some (.int .i64 3) → getS l = none → RetGoal [.t 2, .t 3, .t 4, .t 5] (fun r st => r = getA l ∧ st = []) fr [] := fun h2 h3 h4 h5 h => by
    refine .drop ?_
    simp only [retVC, rvsVC, rvVC, h2, h3, h4, h5, withAV]
    exact ⟨by rw [getA, h], trivial⟩
  have done : ∀ {fr : Fr} {a1 a2 : App} {h n : Nat}, getS l = some (h, n) → a1 ≠ .nil → a2 ≠ .nil → fr.get 2 = some (u8 (l.getD 0 0)) → fr.get 3 = some (bs a1 ((l.drop h).take n)) → fr.get 4 = some (bs a2 (l.drop (h + n))) → fr.get 5 = some (.int .i64 0) → RetGoal [.t 2, .t 3, .t 4, .t 5] (fun r st => r = getA l ∧ st = []) fr [] := fun {fr a1 a2 h n} hg n1 n2 h2 h3 h4 h5 => by
    refine .weak [(2, u8 (l.getD 0 0)), (3, bs .no ((l.drop h).take n)), (4, bs .no (l.drop (h + n))), (5, .int .i64 0)] (fun p hp => ?_) ?_
    · simp only [List.mem_cons, List.not_mem_nil, or_false] at hp
      rcases hp with rfl | rfl | rfl | rfl
      · exact ⟨_, h2, .refl _⟩
      · exact ⟨_, h3, .slno _ _ _ n1⟩
      · exact ⟨_, h4, .slno _ _ _ n2⟩
      · exact ⟨_, h5, .refl _⟩
    · exact ⟨by rw [getA, hg], rfl⟩
  rcases l with _ | ⟨a, _ | ⟨b, r⟩⟩
  · conv => whnf
    exact ⟨.inl rfl, fail rfl rfl rfl rfl rfl⟩
  · conv => whnf
    exact ⟨.inl rfl, fail rfl rfl rfl rfl rfl⟩
  · have hne : app ≠ .nil := fun e => by cases happ e
    conv => whnf
    refine IdxGoal.b8 (c := a) (by decide) rfl ?_
    conv => whnf
    refine bcase_mk (fun h => ?_) (fun h => ?_)
    · rw [band31] at h
      have h1 : a.toNat % 32 = 31 := by simp at h; omega
      conv => whnf
      exact ⟨.inl rfl, fail rfl rfl rfl rfl (by simp [getS, getN, h1])⟩
    rw [band31] at h
    have h1 : ¬ a.toNat % 32 = 31 := by simp at h; omega
    conv => whnf
    refine IdxGoal.b8 (c := b) (by decide) rfl ?_
    have hbl := b.toNat_lt
    have eb : IntKind.i64.wrap (b.toNat : Int) = b.toNat := wr64 (by omega) (by omega)
    have hlen : r.length + 2 < 1099511627776 := by simpa using hl
    conv => whnf
    rw [eb]
    by_cases h129 : b.toNat = 129
    · rw [h129]
      rcases r with _ | ⟨c, r⟩
      · conv => whnf
        exact ⟨.inl rfl, fail rfl rfl rfl rfl (by simp [getS, getN, h1, h129])⟩
      have hcl := c.toNat_lt
      have hr : r.length < 1099511627776 := by simp at hlen; omega
      have ec : IntKind.i64.wrap (c.toNat : Int) = c.toNat := wr64 (by omega) (by omega)
      conv => whnf
      refine IdxGoal.b8 (c := c) (by decide) rfl ?_
      conv => whnf
      refine bcase_mk (fun h2 => ?_) (fun h2 => ?_)
      · have h2' : ¬ c.toNat < 128 := by simp [lssB_eq] at h2; omega
        have hg : getN (a :: b :: c :: r) = some (3, c.toNat) := by simp [getN, h1, h129, h2']
        conv => whnf
        refine IdxGoal.b8 (c := c) (by decide) rfl ?_
        have el : IntKind.i64.wrap (((List.map b8 (a :: b :: c :: r)).length : Int) - 3) = ((a :: b :: c :: r).length : Int) - 3 := by rw [wr64 (by simp; omega) (by simp; omega)]; simp
        conv => whnf
        rw [el]
        refine bcase_mk (fun q => ?_) (fun q => ?_)
        · have q' : ¬ 3 + c.toNat ≤ (a :: b :: c :: r).length := by simp [lssB_eq] at q; simp; omega
          conv => whnf
          exact ⟨.inl rfl, fail rfl rfl rfl rfl (by rw [getS, hg]; simp only; rw [if_neg q'])⟩
        have q' : 3 + c.toNat ≤ (a :: b :: c :: r).length := by simp [lssB_eq] at q; simp; omega
        have es : IntKind.i64.wrap (3 + IntKind.i64.wrap (c.toNat : Int)) = ((3 + c.toNat : Nat) : Int) := by rw [ec, wr64 (by omega) (by omega)]; omega
        conv => whnf
        refine IdxGoal.b8 (c := a) (by decide) rfl ?_
        conv => whnf
        refine SliceGoal.b8 3 (3 + c.toNat) rfl es (by omega) q' ?_
        conv => whnf
        refine SliceGoal.b8end (3 + c.toNat) es (by simp) q' ?_
        conv => whnf
        refine ⟨.inl rfl, done (by rw [getS, hg]; simp only; rw [if_pos q']) (App.cut_ne hne _) (App.cut_ne hne _) rfl (by rw [Nat.add_sub_cancel_left]; rfl) rfl rfl⟩
      · have h2' : c.toNat < 128 := by simp [lssB_eq] at h2; omega
        conv => whnf
        exact ⟨.inl rfl, fail rfl rfl rfl rfl (by simp [getS, getN, h1, h129, h2'])⟩
    by_cases h130 : b.toNat = 130
    · rw [h130]
      rcases r with _ | ⟨c, _ | ⟨d, r⟩⟩
      · conv => whnf
        exact ⟨.inl rfl, fail rfl rfl rfl rfl (by simp [getS, getN, h1, h130])⟩
      · conv => whnf
        exact ⟨.inl rfl, fail rfl rfl rfl rfl (by simp [getS, getN, h1, h130])⟩
      have hcl := c.toNat_lt
      have hdl := d.toNat_lt
      have hr : r.length < 1099511627776 := by simp at hlen; omega
      have ec : IntKind.i64.wrap (c.toNat : Int) = c.toNat := wr64 (by omega) (by omega)
      have ed : IntKind.i64.wrap (d.toNat : Int) = d.toNat := wr64 (by omega) (by omega)
      conv => whnf
      refine IdxGoal.b8 (c := c) (by decide) rfl ?_
      conv => whnf
      refine bcase_mk (fun h2 => ?_) (fun h2 => ?_)
      · have h2' : ¬ c.toNat = 0 := by simp [lssB_eq] at h2; omega
        have hg : getN (a :: b :: c :: d :: r) = some (4, c.toNat * 256 + d.toNat) := by simp [getN, h1, h130, h2']
        conv => whnf
        refine IdxGoal.b8 (c := c) (by decide) rfl ?_
        conv => whnf
        refine IdxGoal.b8 (c := d) (by decide) rfl ?_
        have en : bor .i64 (shl .i64 (IntKind.i64.wrap (c.toNat : Int)) 8) (IntKind.i64.wrap (d.toNat : Int)) = ((c.toNat * 256 + d.toNat : Nat) : Int) := by rw [ec, ed]; exact bor8 c d
        have el : IntKind.i64.wrap (((List.map b8 (a :: b :: c :: d :: r)).length : Int) - 4) = ((a :: b :: c :: d :: r).length : Int) - 4 := by rw [wr64 (by simp; omega) (by simp; omega)]; simp
        conv => whnf
        rw [el]
        refine bcase_mk (fun q => ?_) (fun q => ?_)
        · have q' : ¬ 4 + (c.toNat * 256 + d.toNat) ≤ (a :: b :: c :: d :: r).length := by simp [lssB_eq] at q; simp; omega
          conv => whnf
          exact ⟨.inl rfl, fail rfl rfl rfl rfl (by rw [getS, hg]; simp only; rw [if_neg q'])⟩
        have q' : 4 + (c.toNat * 256 + d.toNat) ≤ (a :: b :: c :: d :: r).length := by simp [lssB_eq] at q; simp; omega
        have es : IntKind.i64.wrap (4 + bor .i64 (shl .i64 (IntKind.i64.wrap (c.toNat : Int)) 8) (IntKind.i64.wrap (d.toNat : Int))) = ((4 + (c.toNat * 256 + d.toNat) : Nat) : Int) := by rw [en, wr64 (by omega) (by omega)]; omega
        conv => whnf
        refine IdxGoal.b8 (c := a) (by decide) rfl ?_
        conv => whnf
        refine SliceGoal.b8 4 (4 + (c.toNat * 256 + d.toNat)) rfl es (by omega) q' ?_
        conv => whnf
        refine SliceGoal.b8end (4 + (c.toNat * 256 + d.toNat)) es (by simp) q' ?_
        conv => whnf
        refine ⟨.inl rfl, done (by rw [getS, hg]; simp only; rw [if_pos q']) (App.cut_ne hne _) (App.cut_ne hne _) rfl (by rw [Nat.add_sub_cancel_left]; rfl) rfl rfl⟩
      · have h2' : c.toNat = 0 := by simp [lssB_eq] at h2; omega
        conv => whnf
        exact ⟨.inl rfl, fail rfl rfl rfl rfl (by simp [getS, getN, h1, h130, h2'])⟩
    have e1 : ((b.toNat : Int) == 129) = false := by simp; omega
    have e2 : ((b.toNat : Int) == 130) = false := by simp; omega
    rw [e1]
    conv => whnf
    rw [e2]
    conv => whnf
    refine bcase_mk (fun h2 => ?_) (fun h2 => ?_)
    · have h2' : ¬ b.toNat < 128 := by simp [lssB_eq] at h2; omega
      have hg : getN (a :: b :: r) = none := by
        simp only [getN, if_neg h1]
        split <;> first | omega | simp [h2']
      conv => whnf
      exact ⟨.inl rfl, fail rfl rfl rfl rfl (by rw [getS, hg])⟩
    · have h2' : b.toNat < 128 := by simp [lssB_eq] at h2; omega
      have hg : getN (a :: b :: r) = some (2, b.toNat) := by
        simp only [getN, if_neg h1]
        split <;> first | omega | simp [h2']
      have el : IntKind.i64.wrap (((List.map b8 (a :: b :: r)).length : Int) - 2) = ((a :: b :: r).length : Int) - 2 := by rw [wr64 (by simp; omega) (by simp; omega)]; simp
      conv => whnf
      rw [el]
      refine bcase_mk (fun q => ?_) (fun q => ?_)
      · have q' : ¬ 2 + b.toNat ≤ (a :: b :: r).length := by simp [lssB_eq] at q; simp; omega
        conv => whnf
        exact ⟨.inl rfl, fail rfl rfl rfl rfl (by rw [getS, hg]; simp only; rw [if_neg q'])⟩
      have q' : 2 + b.toNat ≤ (a :: b :: r).length := by simp [lssB_eq] at q; simp; omega
      have es : IntKind.i64.wrap (2 + (b.toNat : Int)) = ((2 + b.toNat : Nat) : Int) := by rw [wr64 (by omega) (by omega)]; omega
      conv => whnf
      refine IdxGoal.b8 (c := a) (by decide) rfl ?_
      conv => whnf
      refine SliceGoal.b8 2 (2 + b.toNat) rfl es (by omega) q' ?_
      conv => whnf
      refine SliceGoal.b8end (2 + b.toNat) es (by simp) q' ?_
      conv => whnf
      refine ⟨.inl rfl, done (by rw [getS, hg]; simp only; rw [if_pos q']) (App.cut_ne hne _) (App.cut_ne hne _) rfl (by rw [Nat.add_sub_cancel_left]; rfl) rfl rfl⟩
end Go.Proofs.Ytmkgbegneiaaiaa
