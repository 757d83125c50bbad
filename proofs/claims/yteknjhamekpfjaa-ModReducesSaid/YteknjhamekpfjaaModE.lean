/- Walks: bytes by a modulus; numbers below it; sums and differences by it. -/
import Derived.Test.YteknjhamekpfjaaModD
namespace Go.Proofs.Yteknjhamekpfjaa
open Go.Eng Go.Num
set_option maxHeartbeats 1000000
set_option maxRecDepth 10000
set_option linter.unusedVariables false
set_option linter.unusedSimpArgs false
variable {P : Program} {G : Nat → AV}

theorem Frz.sub {fr fr' : Fr} {st st' : St} (h : Fr.sub fr' fr) (hs : st'.Sublist st) : Frz fr st fr' st' := .done (Fr.sub_get h) ⟨st, .refl _, hs⟩
theorem num_zero : ws (dig 4 0) = [u64 0, u64 0, u64 0, u64 0] := rfl
/-- One bit more. -/
theorem redstep {V m c : Int} {k : Nat} (hk : k < 8) (hm : 1 < m) : (2 * ((V * 2 ^ k + c / 2 ^ (8 - k)) % m) % m + c / 2 ^ (7 - k) % 2) % m = (V * 2 ^ (k + 1) + c / 2 ^ (8 - (k + 1))) % m := by
  rw [Int.mul_emod, Int.emod_emod_of_dvd _ (Int.dvd_refl m), ← Int.mul_emod, Int.emod_add_emod]
  refine congrArg (· % m) ?_
  rw [show 8 - (k + 1) = 7 - k from by omega, show 8 - k = (7 - k) + 1 from by omega, Int.pow_succ, Int.pow_succ, ← Int.ediv_ediv_of_nonneg (Int.le_of_lt (Int.pow_pos (by omega)))]
  generalize c / 2 ^ (7 - k) = y
  have : 2 * (V * 2 ^ k) = V * (2 ^ k * 2) := by grind
  omega

def RedO (m : Int) (app : App) (l : List UInt8) (t4 t5 : Nat) (n : Nat) (fr : Fr) (st : St) : Prop :=
  ∃ j : Nat, j + n = l.length ∧ fr = [(0, mptr m), (4, .optr 30004 t4 0), (5, .optr 30005 t5 0), (14, bs app l), (15, .int .i64 l.length), (16, .int .i64 j)] ∧
    st = [.obj 30004 t4 [u64 0, u64 0, u64 0, u64 0], .obj 30005 t5 (ws (dig 4 (beV (l.take j) % m)))]
def RedN (m : Int) (app : App) (l : List UInt8) (t4 t5 j : Nat) (c : UInt8) (n : Nat) (fr : Fr) (st : St) : Prop :=
  ∃ k : Nat, k + n = 8 ∧ fr = [(0, mptr m), (4, .optr 30004 t4 0), (5, .optr 30005 t5 0), (14, bs app l), (15, .int .i64 l.length), (16, .int .i64 j), (7, u8 c), (8, .int .i64 (7 - (k : Int)))] ∧
    st = [.obj 30004 t4 [u64 0, u64 0, u64 0, u64 0], .obj 30005 t5 (ws (dig 4 ((beV (l.take j) * 2 ^ k + (c.toNat : Int) / 2 ^ (8 - k)) % m)))]

theorem reduce_vc {m : Int} {app : App} {l : List UInt8} (hA : WaddOk P G) (hO : OnceOk P G) (hD : DoubleOk P G) (hm : Md m) (hl : l.length < 1099511627776) : vc P G c30 (Ret [.cell 4 4 true] (num (beV l % m))) (argFr 0 [mptr m, bs app l]) [] := by
  have hm1 := hm.one
  have hm2 := hm.lt
  conv => whnf
  intro t4 t5
  conv => whnf
  refine LoopGoal.inv (RedO m app l t4 t5) l.length (Frz.keep (fr' := [(0, mptr m), (4, .optr 30004 t4 0), (5, .optr 30005 t5 0), (14, bs app l), (15, .int .i64 l.length), (16, .int .i64 (0 : Nat))])
    (Fr.sub_cons rfl (Fr.sub_cons rfl (Fr.sub_cons rfl (Fr.sub_cons rfl (Fr.sub_cons (by show some (AV.int .i64 ((List.map b8 l).length : Nat)) = _; rw [List.length_map]) (Fr.sub_cons rfl (Fr.sub_nil _)))))))) ⟨0, by omega, rfl, ?_⟩ ?_
  · rw [List.take_zero, show beV [] % m = 0 from by simp [beV], num_zero]; rfl
  rintro n fr st ⟨j, hj, rfl, rfl⟩
  conv => whnf
  rw [lss_nat (n := (l.length : Int)) l.length rfl]
  by_cases hjl : j < l.length
  · rw [decide_eq_true hjl]
    obtain ⟨c, hc⟩ : ∃ c, l[j]? = some c := ⟨_, List.getElem?_eq_getElem hjl⟩
    have hcl := c.toNat_lt
    ((conv => whnf); repeat ((first | refine And.intro (rfl : (_ : Nat) = _) ?_ | refine And.intro (rfl : (_ : Bool) = true) ?_ | refine And.intro (Nat.le_of_ble_eq_true rfl) ?_ | refine And.intro ⟨Nat.le_of_ble_eq_true rfl, rfl, rfl⟩ ?_); conv => whnf))
    refine IdxGoal.b8n hc ?_
    ((conv => whnf); repeat ((first | refine And.intro (rfl : (_ : Nat) = _) ?_ | refine And.intro (rfl : (_ : Bool) = true) ?_ | refine And.intro (Nat.le_of_ble_eq_true rfl) ?_ | refine And.intro ⟨Nat.le_of_ble_eq_true rfl, rfl, rfl⟩ ?_); conv => whnf))
    refine LoopGoal.inv (RedN m app l t4 t5 j c) 8 (Frz.keep (fr' := [(0, mptr m), (4, .optr 30004 t4 0), (5, .optr 30005 t5 0), (14, bs app l), (15, .int .i64 l.length), (16, .int .i64 j), (7, u8 c), (8, .int .i64 (7 - ((0 : Nat) : Int)))])
      (Fr.sub_cons rfl (Fr.sub_cons rfl (Fr.sub_cons rfl (Fr.sub_cons rfl (Fr.sub_cons rfl (Fr.sub_cons rfl (Fr.sub_cons rfl (Fr.sub_cons rfl (Fr.sub_nil _)))))))))) ⟨0, rfl, rfl, ?_⟩ ?_
    · rw [show (c.toNat : Int) / 2 ^ (8 - 0) = 0 from by simp; omega, Int.pow_zero, Int.mul_one, Int.add_zero]
    rintro n2 fr st ⟨k, hk, rfl, rfl⟩
    conv => whnf
    by_cases h8 : k < 8
    · rw [show lssB (7 - (k : Int)) 0 = false from by rw [lssB_eq]; simp; omega]
      have hr := Int.emod_nonneg (beV (l.take j) * 2 ^ k + (c.toNat : Int) / 2 ^ (8 - k)) (b := m) (by omega)
      have hr2 := Int.emod_lt_of_pos (beV (l.take j) * 2 ^ k + (c.toNat : Int) / 2 ^ (8 - k)) (b := m) (by omega)
      have hst := redstep (V := beV (l.take j)) (c := (c.toNat : Int)) (m := m) h8 hm1
      generalize (beV (l.take j) * 2 ^ k + (c.toNat : Int) / 2 ^ (8 - k)) % m = r at *
      ((conv => whnf); repeat ((first | refine And.intro (rfl : (_ : Nat) = _) ?_ | refine And.intro (rfl : (_ : Bool) = true) ?_ | refine And.intro (Nat.le_of_ble_eq_true rfl) ?_ | refine And.intro ⟨Nat.le_of_ble_eq_true rfl, rfl, rfl⟩ ?_); conv => whnf))
      first | refine CallGoal.pure (hD hm ⟨hr, hr2⟩) ?_ | refine PCallGoal.pure (hD hm ⟨hr, hr2⟩) ?_
      ((conv => whnf); repeat ((first | refine And.intro (rfl : (_ : Nat) = _) ?_ | refine And.intro (rfl : (_ : Bool) = true) ?_ | refine And.intro (Nat.le_of_ble_eq_true rfl) ?_ | refine And.intro ⟨Nat.le_of_ble_eq_true rfl, rfl, rfl⟩ ?_); conv => whnf))
      have eb : band .u64 (shr .u64 (IntKind.u64.wrap (c.toNat : Int)) (7 - (k : Int))) 1 = (c.toNat : Int) / 2 ^ (7 - k) % 2 := by
        rw [wrap_u64, show (c.toNat : Int) % 18446744073709551616 = c.toNat from by omega, show 7 - (k : Int) = ((7 - k : Nat) : Int) from by omega, shr_nn (k := .u64) (7 - k) (by show 7 - k ≤ 64; omega), band_one (div_w1 _ (by omega))]
      have hy : (0 ≤ (c.toNat : Int) / 2 ^ (7 - k) % 2) ∧ (c.toNat : Int) / 2 ^ (7 - k) % 2 ≤ 1 := by omega
      generalize (c.toNat : Int) / 2 ^ (7 - k) % 2 = y at *
      have hx0 := Int.emod_nonneg (2 * r) (b := m) (by omega)
      have hx1 := Int.emod_lt_of_pos (2 * r) (b := m) (by omega)
      generalize 2 * r % m = x at *
      have hx4 : N4 x := ⟨hx0, by omega⟩
      have hy4 : N4 y := ⟨hy.1, by rw [B4]; omega⟩
      refine ifB_mk (by rw [show 7 - (k : Int) = ((7 - k : Nat) : Int) from by omega]; rfl) ?_
      ((conv => whnf); repeat ((first | refine And.intro (rfl : (_ : Nat) = _) ?_ | refine And.intro (rfl : (_ : Bool) = true) ?_ | refine And.intro (Nat.le_of_ble_eq_true rfl) ?_ | refine And.intro ⟨Nat.le_of_ble_eq_true rfl, rfl, rfl⟩ ?_); conv => whnf))
      rw [eb]
      have hwa := hA hx4 hy4
      rw [← num_small (x := y) (by omega)] at hwa
      first | refine CallGoal.pure (hwa) ?_ | refine PCallGoal.pure (hwa) ?_
      ((conv => whnf); repeat ((first | refine And.intro (rfl : (_ : Nat) = _) ?_ | refine And.intro (rfl : (_ : Bool) = true) ?_ | refine And.intro (Nat.le_of_ble_eq_true rfl) ?_ | refine And.intro ⟨Nat.le_of_ble_eq_true rfl, rfl, rfl⟩ ?_); conv => whnf))
      intro t9
      ((conv => whnf); repeat ((first | refine And.intro (rfl : (_ : Nat) = _) ?_ | refine And.intro (rfl : (_ : Bool) = true) ?_ | refine And.intro (Nat.le_of_ble_eq_true rfl) ?_ | refine And.intro ⟨Nat.le_of_ble_eq_true rfl, rfl, rfl⟩ ?_); conv => whnf))
      have hs : (x + y) / 18446744073709551616 ^ 4 = 0 ∨ (x + y) / 18446744073709551616 ^ 4 = 1 := by rw [B4] at *; omega
      have hc := hO (m := m) (k := mk m) (r := R2 m) (a := (x + y) % 18446744073709551616 ^ 4) (o := (x + y) / 18446744073709551616 ^ 4) hm (mod4 _) hs (by rw [B4] at *; omega)
      rw [show (x + y) / 18446744073709551616 ^ 4 * 18446744073709551616 ^ 4 + (x + y) % 18446744073709551616 ^ 4 = x + y from by rw [B4]; omega, hst] at hc
      first | refine CallGoal.pure (hc) ?_ | refine PCallGoal.pure (hc) ?_
      ((conv => whnf); repeat ((first | refine And.intro (rfl : (_ : Nat) = _) ?_ | refine And.intro (rfl : (_ : Bool) = true) ?_ | refine And.intro (Nat.le_of_ble_eq_true rfl) ?_ | refine And.intro ⟨Nat.le_of_ble_eq_true rfl, rfl, rfl⟩ ?_); conv => whnf))
      refine ⟨n2 - 1, by omega, _, _, Frz.sub (fr' := [(0, mptr m), (4, .optr 30004 t4 0), (5, .optr 30005 t5 0), (14, bs app l), (15, .int .i64 l.length), (16, .int .i64 j), (7, u8 c), (8, .int .i64 (7 - ((k + 1 : Nat) : Int)))])
        (Fr.sub_cons rfl (Fr.sub_cons rfl (Fr.sub_cons rfl (Fr.sub_cons rfl (Fr.sub_cons rfl (Fr.sub_cons rfl (Fr.sub_cons rfl (Fr.sub_cons (congrArg (fun z => some (AV.int .i64 z)) ?_) (Fr.sub_nil _))))))))) (List.sublist_append_left [_, _] [_]), k + 1, by omega, rfl, rfl⟩
      rw [wr64 (by omega) (by omega)]; omega
    · obtain rfl : k = 8 := by omega
      rw [show lssB (7 - ((8 : Nat) : Int)) 0 = true from by decide]
      ((conv => whnf); repeat ((first | refine And.intro (rfl : (_ : Nat) = _) ?_ | refine And.intro (rfl : (_ : Bool) = true) ?_ | refine And.intro (Nat.le_of_ble_eq_true rfl) ?_ | refine And.intro ⟨Nat.le_of_ble_eq_true rfl, rfl, rfl⟩ ?_); conv => whnf))
      refine ⟨n - 1, by omega, _, _, Frz.keep (fr' := [(0, mptr m), (4, .optr 30004 t4 0), (5, .optr 30005 t5 0), (14, bs app l), (15, .int .i64 l.length), (16, .int .i64 (j + 1 : Nat))])
        (Fr.sub_cons rfl (Fr.sub_cons rfl (Fr.sub_cons rfl (Fr.sub_cons rfl (Fr.sub_cons rfl (Fr.sub_cons (congrArg (fun z => some (AV.int .i64 z)) ?_) (Fr.sub_nil _))))))), j + 1, by omega, rfl, ?_⟩
      · rw [wr64 (by omega) (by omega)]; omega
      · rw [show l.take (j + 1) = l.take j ++ [c] from by rw [List.take_add_one, hc]; rfl, beV_snoc]
        rw [show beV (l.take j) * 2 ^ 8 + (c.toNat : Int) / 2 ^ (8 - 8) = 256 * beV (l.take j) + c.toNat from by simp; omega]
  · rw [decide_eq_false hjl]
    obtain rfl : j = l.length := by omega
    ((conv => whnf); repeat ((first | refine And.intro (rfl : (_ : Nat) = _) ?_ | refine And.intro (rfl : (_ : Bool) = true) ?_ | refine And.intro (Nat.le_of_ble_eq_true rfl) ?_ | refine And.intro ⟨Nat.le_of_ble_eq_true rfl, rfl, rfl⟩ ?_); conv => whnf))
    refine ⟨.inl rfl, .drop ?_⟩
    ((conv => whnf); repeat ((first | refine And.intro (rfl : (_ : Nat) = _) ?_ | refine And.intro (rfl : (_ : Bool) = true) ?_ | refine And.intro (Nat.le_of_ble_eq_true rfl) ?_ | refine And.intro ⟨Nat.le_of_ble_eq_true rfl, rfl, rfl⟩ ?_); conv => whnf))
    refine ⟨?_, rfl⟩
    rw [List.take_length]
    rfl
def ReduceOk (P : Program) (G : Nat → AV) : Prop := ∀ {m : Int} {app : App} {l : List UInt8}, Md m → l.length < 1099511627776 → Ans P G 30 [mptr m, bs app l] (num (beV l % m))

theorem chunk_b8 : ∀ (l : List UInt8), chunk 1 l.length (l.map fun c => u8 c) = l.map b8
  | [] => rfl
  | c :: r => by rw [List.length_cons, chunk, List.map_cons, List.map_cons]; exact congrArg _ (chunk_b8 r)
theorem low_vc {m a : Int} (hL : LessOk P G) (hB : BytesOk P G) (hR : ReduceOk P G) (hm : Md m) (ha : N4 a) : vc P G c44 (Ret [.cell 4 4 true] (num (a % m))) (argFr 0 [mptr m, num a]) [] := by
  conv => whnf
  intro t4
  ((conv => whnf); repeat ((first | refine And.intro (rfl : (_ : Nat) = _) ?_ | refine And.intro (rfl : (_ : Bool) = true) ?_ | refine And.intro (Nat.le_of_ble_eq_true rfl) ?_ | refine And.intro ⟨Nat.le_of_ble_eq_true rfl, rfl, rfl⟩ ?_); conv => whnf))
  first | refine CallGoal.pure (hL ha hm.n4) ?_ | refine PCallGoal.pure (hL ha hm.n4) ?_
  ((conv => whnf); repeat ((first | refine And.intro (rfl : (_ : Nat) = _) ?_ | refine And.intro (rfl : (_ : Bool) = true) ?_ | refine And.intro (Nat.le_of_ble_eq_true rfl) ?_ | refine And.intro ⟨Nat.le_of_ble_eq_true rfl, rfl, rfl⟩ ?_); conv => whnf))
  by_cases h : a < m
  · rw [decide_eq_true h]
    ((conv => whnf); repeat ((first | refine And.intro (rfl : (_ : Nat) = _) ?_ | refine And.intro (rfl : (_ : Bool) = true) ?_ | refine And.intro (Nat.le_of_ble_eq_true rfl) ?_ | refine And.intro ⟨Nat.le_of_ble_eq_true rfl, rfl, rfl⟩ ?_); conv => whnf))
    refine ⟨.inl rfl, .drop ?_⟩
    ((conv => whnf); repeat ((first | refine And.intro (rfl : (_ : Nat) = _) ?_ | refine And.intro (rfl : (_ : Bool) = true) ?_ | refine And.intro (Nat.le_of_ble_eq_true rfl) ?_ | refine And.intro ⟨Nat.le_of_ble_eq_true rfl, rfl, rfl⟩ ?_); conv => whnf))
    refine ⟨?_, rfl⟩
    rw [Int.emod_eq_of_lt ha.1 h]; rfl
  · rw [decide_eq_false h]
    ((conv => whnf); repeat ((first | refine And.intro (rfl : (_ : Nat) = _) ?_ | refine And.intro (rfl : (_ : Bool) = true) ?_ | refine And.intro (Nat.le_of_ble_eq_true rfl) ?_ | refine And.intro ⟨Nat.le_of_ble_eq_true rfl, rfl, rfl⟩ ?_); conv => whnf))
    first | refine CallGoal.pure (hB ha) ?_ | refine PCallGoal.pure (hB ha) ?_
    ((conv => whnf); repeat ((first | refine And.intro (rfl : (_ : Nat) = _) ?_ | refine And.intro (rfl : (_ : Bool) = true) ?_ | refine And.intro (Nat.le_of_ble_eq_true rfl) ?_ | refine And.intro ⟨Nat.le_of_ble_eq_true rfl, rfl, rfl⟩ ?_); conv => whnf))
    intro t5
    ((conv => whnf); repeat ((first | refine And.intro (rfl : (_ : Nat) = _) ?_ | refine And.intro (rfl : (_ : Bool) = true) ?_ | refine And.intro (Nat.le_of_ble_eq_true rfl) ?_ | refine And.intro ⟨Nat.le_of_ble_eq_true rfl, rfl, rfl⟩ ?_); conv => whnf))
    have hr := hR (app := .no) (l := (leB 32 a).reverse) hm (by simp [leB_len])
    rw [beV_rev, leV_leB 32 a ha.1 (by rw [show (256 : Int) ^ 32 = 18446744073709551616 ^ 4 from by decide]; exact ha.2)] at hr
    refine And.intro ⟨by omega, by omega, by omega, .inl rfl⟩ ?_
    ((conv => whnf); repeat ((first | refine And.intro (rfl : (_ : Nat) = _) ?_ | refine And.intro (rfl : (_ : Bool) = true) ?_ | refine And.intro (Nat.le_of_ble_eq_true rfl) ?_ | refine And.intro ⟨Nat.le_of_ble_eq_true rfl, rfl, rfl⟩ ?_); conv => whnf))
    refine CallGoal.lend (l₁ := [.obj 44004 t4 [u64 0, u64 0, u64 0, u64 0]]) (l₂ := []) (tag := 44005) (b := t5) (cells := (leB 32 a).reverse.map fun c => u8 c) [mptr m, bs .no (leB 32 a).reverse] 1 hr (plain_num _) rfl (fun j y y' h1 h2 => ?_) ?_
    · match j with
      | 0 => cases h1; cases h2; exact .refl _
      | 1 =>
        cases h1; cases h2
        have := Fz.osl (tag := 44005) (b := t5) (sz := 1) (cells := (leB 32 a).reverse.map fun c => u8 c) 0 32 (by simp [leB_len]) (by decide)
        have e := chunk_b8 (leB 32 a).reverse
        rw [List.length_reverse, leB_len] at e
        rw [List.drop_zero, e] at this
        exact this
      | j + 2 => cases h1
    ((conv => whnf); repeat ((first | refine And.intro (rfl : (_ : Nat) = _) ?_ | refine And.intro (rfl : (_ : Bool) = true) ?_ | refine And.intro (Nat.le_of_ble_eq_true rfl) ?_ | refine And.intro ⟨Nat.le_of_ble_eq_true rfl, rfl, rfl⟩ ?_); conv => whnf))
    refine ⟨.inl rfl, .drop ?_⟩
    ((conv => whnf); repeat ((first | refine And.intro (rfl : (_ : Nat) = _) ?_ | refine And.intro (rfl : (_ : Bool) = true) ?_ | refine And.intro (Nat.le_of_ble_eq_true rfl) ?_ | refine And.intro ⟨Nat.le_of_ble_eq_true rfl, rfl, rfl⟩ ?_); conv => whnf))
    refine ⟨?_, rfl⟩
    rfl
def LowOk (P : Program) (G : Nat → AV) : Prop := ∀ {m a : Int}, Md m → N4 a → Ans P G 44 [mptr m, num a] (num (a % m))
theorem low_n4 {m : Int} (hm : Md m) (a : Int) : N4 (a % m) := by
  have := hm.one
  have := hm.lt
  have := Int.emod_nonneg a (b := m) (by omega)
  have := Int.emod_lt_of_pos a (b := m) (by omega)
  exact ⟨by omega, by omega⟩
theorem low_lt {m : Int} (hm : Md m) (a : Int) : 0 ≤ a % m ∧ a % m < m := by
  have := hm.one
  exact ⟨Int.emod_nonneg a (b := m) (by omega), Int.emod_lt_of_pos a (b := m) (by omega)⟩

theorem madd_vc {m a b : Int} (hL : LowOk P G) (hA : WaddOk P G) (hO : OnceOk P G) (hm : Md m) (ha : N4 a) (hb : N4 b) : vc P G c17 (Ret [.cell 6 4 true] (num ((a + b) % m))) (argFr 0 [mptr m, num a, num b]) [] := by
  have h1 := low_lt hm a
  have h2 := low_lt hm b
  have hlt := hm.lt
  have e : (a % m + b % m) % m = (a + b) % m := (Int.add_emod a b m).symm
  have c1 := hL hm ha
  have c2 := hL hm hb
  have n1 := low_n4 hm a
  have n2 := low_n4 hm b
  generalize a % m = x at *
  generalize b % m = y at *
  have hs : (x + y) / 18446744073709551616 ^ 4 = 0 ∨ (x + y) / 18446744073709551616 ^ 4 = 1 := by rw [B4] at *; omega
  have hc := hO (m := m) (k := mk m) (r := R2 m) (a := (x + y) % 18446744073709551616 ^ 4) (o := (x + y) / 18446744073709551616 ^ 4) hm (mod4 _) hs (by rw [B4] at *; omega)
  rw [show (x + y) / 18446744073709551616 ^ 4 * 18446744073709551616 ^ 4 + (x + y) % 18446744073709551616 ^ 4 = x + y from by rw [B4]; omega, e] at hc
  conv => whnf
  intro t6
  ((conv => whnf); repeat ((first | refine And.intro (rfl : (_ : Nat) = _) ?_ | refine And.intro (rfl : (_ : Bool) = true) ?_ | refine And.intro (Nat.le_of_ble_eq_true rfl) ?_ | refine And.intro ⟨Nat.le_of_ble_eq_true rfl, rfl, rfl⟩ ?_); conv => whnf))
  first | refine CallGoal.pure (c1) ?_ | refine PCallGoal.pure (c1) ?_
  ((conv => whnf); repeat ((first | refine And.intro (rfl : (_ : Nat) = _) ?_ | refine And.intro (rfl : (_ : Bool) = true) ?_ | refine And.intro (Nat.le_of_ble_eq_true rfl) ?_ | refine And.intro ⟨Nat.le_of_ble_eq_true rfl, rfl, rfl⟩ ?_); conv => whnf))
  first | refine CallGoal.pure (c2) ?_ | refine PCallGoal.pure (c2) ?_
  ((conv => whnf); repeat ((first | refine And.intro (rfl : (_ : Nat) = _) ?_ | refine And.intro (rfl : (_ : Bool) = true) ?_ | refine And.intro (Nat.le_of_ble_eq_true rfl) ?_ | refine And.intro ⟨Nat.le_of_ble_eq_true rfl, rfl, rfl⟩ ?_); conv => whnf))
  first | refine CallGoal.pure (hA n1 n2) ?_ | refine PCallGoal.pure (hA n1 n2) ?_
  ((conv => whnf); repeat ((first | refine And.intro (rfl : (_ : Nat) = _) ?_ | refine And.intro (rfl : (_ : Bool) = true) ?_ | refine And.intro (Nat.le_of_ble_eq_true rfl) ?_ | refine And.intro ⟨Nat.le_of_ble_eq_true rfl, rfl, rfl⟩ ?_); conv => whnf))
  intro t7
  ((conv => whnf); repeat ((first | refine And.intro (rfl : (_ : Nat) = _) ?_ | refine And.intro (rfl : (_ : Bool) = true) ?_ | refine And.intro (Nat.le_of_ble_eq_true rfl) ?_ | refine And.intro ⟨Nat.le_of_ble_eq_true rfl, rfl, rfl⟩ ?_); conv => whnf))
  first | refine CallGoal.pure (hc) ?_ | refine PCallGoal.pure (hc) ?_
  ((conv => whnf); repeat ((first | refine And.intro (rfl : (_ : Nat) = _) ?_ | refine And.intro (rfl : (_ : Bool) = true) ?_ | refine And.intro (Nat.le_of_ble_eq_true rfl) ?_ | refine And.intro ⟨Nat.le_of_ble_eq_true rfl, rfl, rfl⟩ ?_); conv => whnf))
  refine ⟨.inl rfl, .drop ?_⟩
  ((conv => whnf); repeat ((first | refine And.intro (rfl : (_ : Nat) = _) ?_ | refine And.intro (rfl : (_ : Bool) = true) ?_ | refine And.intro (Nat.le_of_ble_eq_true rfl) ?_ | refine And.intro ⟨Nat.le_of_ble_eq_true rfl, rfl, rfl⟩ ?_); conv => whnf))
  refine ⟨?_, rfl⟩
  rfl
def MaddOk (P : Program) (G : Nat → AV) : Prop := ∀ {m a b : Int}, Md m → N4 a → N4 b → Ans P G 17 [mptr m, num a, num b] (num ((a + b) % m))

theorem msub_vc {m a b : Int} (hL : LowOk P G) (hS : WsubOk P G) (hA : WaddOk P G) (hP : PickOk P G) (hm : Md m) (ha : N4 a) (hb : N4 b) : vc P G c19 (Ret [.cell 6 4 true] (num ((a - b) % m))) (argFr 0 [mptr m, num a, num b]) [] := by
  have h1 := low_lt hm a
  have h2 := low_lt hm b
  have hlt := hm.lt
  have e : (a % m - b % m) % m = (a - b) % m := (Int.sub_emod a b m).symm
  have c1 := hL hm ha
  have c2 := hL hm hb
  have n1 := low_n4 hm a
  have n2 := low_n4 hm b
  generalize a % m = x at *
  generalize b % m = y at *
  conv => whnf
  intro t6
  ((conv => whnf); repeat ((first | refine And.intro (rfl : (_ : Nat) = _) ?_ | refine And.intro (rfl : (_ : Bool) = true) ?_ | refine And.intro (Nat.le_of_ble_eq_true rfl) ?_ | refine And.intro ⟨Nat.le_of_ble_eq_true rfl, rfl, rfl⟩ ?_); conv => whnf))
  first | refine CallGoal.pure (c1) ?_ | refine PCallGoal.pure (c1) ?_
  ((conv => whnf); repeat ((first | refine And.intro (rfl : (_ : Nat) = _) ?_ | refine And.intro (rfl : (_ : Bool) = true) ?_ | refine And.intro (Nat.le_of_ble_eq_true rfl) ?_ | refine And.intro ⟨Nat.le_of_ble_eq_true rfl, rfl, rfl⟩ ?_); conv => whnf))
  first | refine CallGoal.pure (c2) ?_ | refine PCallGoal.pure (c2) ?_
  ((conv => whnf); repeat ((first | refine And.intro (rfl : (_ : Nat) = _) ?_ | refine And.intro (rfl : (_ : Bool) = true) ?_ | refine And.intro (Nat.le_of_ble_eq_true rfl) ?_ | refine And.intro ⟨Nat.le_of_ble_eq_true rfl, rfl, rfl⟩ ?_); conv => whnf))
  first | refine CallGoal.pure (hS n1 n2) ?_ | refine PCallGoal.pure (hS n1 n2) ?_
  ((conv => whnf); repeat ((first | refine And.intro (rfl : (_ : Nat) = _) ?_ | refine And.intro (rfl : (_ : Bool) = true) ?_ | refine And.intro (Nat.le_of_ble_eq_true rfl) ?_ | refine And.intro ⟨Nat.le_of_ble_eq_true rfl, rfl, rfl⟩ ?_); conv => whnf))
  intro t7
  ((conv => whnf); repeat ((first | refine And.intro (rfl : (_ : Nat) = _) ?_ | refine And.intro (rfl : (_ : Bool) = true) ?_ | refine And.intro (Nat.le_of_ble_eq_true rfl) ?_ | refine And.intro ⟨Nat.le_of_ble_eq_true rfl, rfl, rfl⟩ ?_); conv => whnf))
  first | refine CallGoal.pure (hA (mod4 _) hm.n4) ?_ | refine PCallGoal.pure (hA (mod4 _) hm.n4) ?_
  ((conv => whnf); repeat ((first | refine And.intro (rfl : (_ : Nat) = _) ?_ | refine And.intro (rfl : (_ : Bool) = true) ?_ | refine And.intro (Nat.le_of_ble_eq_true rfl) ?_ | refine And.intro ⟨Nat.le_of_ble_eq_true rfl, rfl, rfl⟩ ?_); conv => whnf))
  intro t9
  ((conv => whnf); repeat ((first | refine And.intro (rfl : (_ : Nat) = _) ?_ | refine And.intro (rfl : (_ : Bool) = true) ?_ | refine And.intro (Nat.le_of_ble_eq_true rfl) ?_ | refine And.intro ⟨Nat.le_of_ble_eq_true rfl, rfl, rfl⟩ ?_); conv => whnf))
  first | refine CallGoal.pure (hP (x := if x < y then 1 else 0) (by split <;> simp) (mod4 _) (mod4 (x - y))) ?_ | refine PCallGoal.pure (hP (x := if x < y then 1 else 0) (by split <;> simp) (mod4 _) (mod4 (x - y))) ?_
  ((conv => whnf); repeat ((first | refine And.intro (rfl : (_ : Nat) = _) ?_ | refine And.intro (rfl : (_ : Bool) = true) ?_ | refine And.intro (Nat.le_of_ble_eq_true rfl) ?_ | refine And.intro ⟨Nat.le_of_ble_eq_true rfl, rfl, rfl⟩ ?_); conv => whnf))
  refine ⟨.inl rfl, .drop ?_⟩
  ((conv => whnf); repeat ((first | refine And.intro (rfl : (_ : Nat) = _) ?_ | refine And.intro (rfl : (_ : Bool) = true) ?_ | refine And.intro (Nat.le_of_ble_eq_true rfl) ?_ | refine And.intro ⟨Nat.le_of_ble_eq_true rfl, rfl, rfl⟩ ?_); conv => whnf))
  refine ⟨?_, rfl⟩
  refine congrArg num ?_
  rw [← e]
  rw [B4] at *
  by_cases h : x < y
  · rw [if_pos h, if_pos rfl]
    rw [show (x - y) % m = x - y + m from emod_of (q := -1) (by omega) (by omega) (by omega)]
    omega
  · rw [if_neg h, if_neg (by decide), Int.emod_eq_of_lt (a := x - y) (by omega) (by omega)]
    rw [Int.emod_eq_of_lt (by omega) (by omega)]
def MsubOk (P : Program) (G : Nat → AV) : Prop := ∀ {m a b : Int}, Md m → N4 a → N4 b → Ans P G 19 [mptr m, num a, num b] (num ((a - b) % m))
end Go.Proofs.Yteknjhamekpfjaa
