/- Plain facts: long division, digit by digit; arrays of words whose places are not known. -/
import Derived.Test.YteknjhamekpfjaaModO
namespace Go.Proofs.Yteknjhamekpfjaa
open Go.Eng Go.Num
set_option maxHeartbeats 2000000
set_option maxRecDepth 10000
set_option linter.unusedVariables false
set_option linter.unusedSimpArgs false

theorem val_set : ∀ {l : List Int} {i : Nat} {x y : Int}, l[i]? = some y → val (l.set i x) = val l + 18446744073709551616 ^ i * (x - y)
  | [], i, x, y, h => by simp at h
  | z :: r, 0, x, y, h => by simp at h; subst h; simp only [List.set, val, Int.pow_zero]; omega
  | z :: r, i + 1, x, y, h => by
    simp only [List.getElem?_cons_succ] at h
    simp only [List.set, val]
    rw [val_set h, Int.pow_succ, Int.mul_add, Int.mul_comm (18446744073709551616 ^ i) 18446744073709551616, Int.mul_assoc]; omega
theorem wd_set {l : List Int} {i : Nat} {x : Int} (h : Wd l) (hx : W1 x) : Wd (l.set i x) := fun y hy => by
  rcases List.mem_or_eq_of_mem_set hy with q | rfl
  · exact h y q
  · exact hx
theorem val_split (l : List Int) (j : Nat) (h : j ≤ l.length) : val l = val (l.take j) + 18446744073709551616 ^ j * val (l.drop j) := by
  conv => lhs; rw [← List.take_append_drop j l]
  rw [val_append, List.length_take, Nat.min_eq_left h]
theorem get_val {l : List Int} (h : Wd l) {i : Nat} (hi : i < l.length) : l[i]? = some (val l / 18446744073709551616 ^ i % 18446744073709551616) := by
  conv => lhs; rw [← dig_val h]
  exact dig_get _ _ _ hi
theorem wd_take {l : List Int} (h : Wd l) (n : Nat) : Wd (l.take n) := fun y hy => h y (List.mem_of_mem_take hy)
theorem wd_drop {l : List Int} (h : Wd l) (n : Nat) : Wd (l.drop n) := fun y hy => h y (List.mem_of_mem_drop hy)
/-- So many words from a place on. -/
def seg (l : List Int) (j n : Nat) : Int := val ((l.drop j).take n)
theorem seg_bd {l : List Int} (h : Wd l) (j n : Nat) (hl : j + n ≤ l.length) : 0 ≤ seg l j n ∧ seg l j n < 18446744073709551616 ^ n := by
  have := val_lt (wd_take (wd_drop h j) n)
  rwa [List.length_take, List.length_drop, Nat.min_eq_left (by omega)] at this
theorem seg_get {l : List Int} (h : Wd l) {j n i : Nat} (hi : i < n) (hl : j + n ≤ l.length) : l[j + i]? = some (seg l j n / 18446744073709551616 ^ i % 18446744073709551616) := by
  have := get_val (wd_take (wd_drop h j) n) (i := i) (by simp; omega)
  rw [List.getElem?_take_of_lt hi, List.getElem?_drop] at this
  exact this
theorem seg_set {l : List Int} {j n i : Nat} {x y : Int} (h : l[j + i]? = some y) (hi : i < n) : seg (l.set (j + i) x) j n = seg l j n + 18446744073709551616 ^ i * (x - y) := by
  unfold seg
  rw [List.drop_set, if_neg (by omega), Nat.add_sub_cancel_left, List.take_set]
  refine val_set ?_
  rw [List.getElem?_take_of_lt hi, List.getElem?_drop]; exact h
theorem take_set_ge {l : List Int} {j i : Nat} {x : Int} : (l.set (j + i) x).take j = l.take j := by
  rw [List.take_set, List.set_eq_of_length_le (by simp; omega)]

/-! ### A number shifted, word by word -/
theorem pow64 {s : Nat} (h : s ≤ 64) : (18446744073709551616 : Int) = 2 ^ s * 2 ^ (64 - s) := by rw [← Int.pow_add, show s + (64 - s) = 64 from by omega]; rfl
theorem pos2 (s : Nat) : (0 : Int) < 2 ^ s := Int.pow_pos (by omega)
theorem mod_succ (m : Int) (i : Nat) : m % 18446744073709551616 ^ (i + 1) = m % 18446744073709551616 ^ i + 18446744073709551616 ^ i * (m / 18446744073709551616 ^ i % 18446744073709551616) := by rw [Int.pow_succ]; exact emod_mul' m (B_pow i)
theorem shift_word {s : Nat} {x : Int} (hs : s ≤ 64) (hx : W1 x) : x * 2 ^ s = x * 2 ^ s % 18446744073709551616 + 18446744073709551616 * (x / 2 ^ (64 - s)) ∧ x / 2 ^ (64 - s) < 2 ^ s ∧ 0 ≤ x / 2 ^ (64 - s) ∧ x * 2 ^ s % 18446744073709551616 = 2 ^ s * (x % 2 ^ (64 - s)) := by
  have hd := pow64 hs
  have p1 := pos2 s
  have p2 := pos2 (64 - s)
  have e := Int.mul_ediv_add_emod x (2 ^ (64 - s))
  have r : x * 2 ^ s % 18446744073709551616 = 2 ^ s * (x % 2 ^ (64 - s)) := by rw [hd, Int.mul_comm x, Int.mul_emod_mul_of_pos _ _ p1]
  refine ⟨?_, Int.ediv_lt_of_lt_mul p2 (by rw [← hd]; exact hx.2), Int.ediv_nonneg hx.1 (Int.le_of_lt p2), r⟩
  rw [r, hd]
  conv => lhs; rw [← e]
  grind
theorem B_le {a b : Nat} (h : a ≤ b) : (18446744073709551616 : Int) ^ a ≤ 18446744073709551616 ^ b := by
  rw [show b = a + (b - a) from by omega, Int.pow_add]
  have h1 := B_pow (b - a)
  have h2 := B_pow a
  have := Int.mul_le_mul_of_nonneg_left (show 1 ≤ 18446744073709551616 ^ (b - a) by omega) (Int.le_of_lt h2)
  omega
/-- One word more is shifted in. -/
theorem shift_step {k s i : Nat} {m : Int} (hs : s ≤ 63) (hk : i + 1 < k) (hm : 0 ≤ m) :
    let X := m % 18446744073709551616 ^ i * 2 ^ s
    let d := m / 18446744073709551616 ^ i % 18446744073709551616
    (dig k X)[i]? = some (X / 18446744073709551616 ^ i) ∧ (dig k X)[i + 1]? = some 0 ∧ W1 (X / 18446744073709551616 ^ i + d * 2 ^ s % 18446744073709551616) ∧ W1 (d / 2 ^ (64 - s)) ∧
      ((dig k X).set i (X / 18446744073709551616 ^ i + d * 2 ^ s % 18446744073709551616)).set (i + 1) (d / 2 ^ (64 - s)) = dig k (m % 18446744073709551616 ^ (i + 1) * 2 ^ s) := by
  intro X d
  have hd : W1 d := by show 0 ≤ m / 18446744073709551616 ^ i % 18446744073709551616 ∧ _ ; omega
  have hB := B_pow i
  have hmod := Int.emod_nonneg m (b := 18446744073709551616 ^ i) (by omega)
  have hmod2 := Int.emod_lt_of_pos m hB
  have p1 := pos2 s
  have p2 := pos2 (64 - s)
  obtain ⟨w1, w2, w3, w4⟩ := shift_word (s := s) (by omega) hd
  have hX0 : 0 ≤ X := Int.mul_nonneg hmod (by omega)
  have hX1 : X < 18446744073709551616 ^ i * 2 ^ s := Int.mul_lt_mul_of_pos_right hmod2 p1
  have hXi : X / 18446744073709551616 ^ i < 2 ^ s := Int.ediv_lt_of_lt_mul hB (by rw [Int.mul_comm]; exact hX1)
  have hXi0 : 0 ≤ X / 18446744073709551616 ^ i := Int.ediv_nonneg hX0 (by omega)
  have hs2 : (2 : Int) ^ s ≤ 9223372036854775808 := by
    have := Nat.pow_le_pow_right (n := 2) (by omega) hs
    have e : ((2 ^ s : Nat) : Int) ≤ ((2 ^ 63 : Nat) : Int) := by exact_mod_cast this
    simpa using e
  have g0 : (dig k X)[i]? = some (X / 18446744073709551616 ^ i) := by rw [dig_get k X i (by omega), Int.emod_eq_of_lt hXi0 (by omega)]
  have hX2 : X < 18446744073709551616 ^ (i + 1) := by
    rw [Int.pow_succ]
    exact Int.lt_of_lt_of_le hX1 (Int.mul_le_mul_of_nonneg_left (by omega) (by omega))
  have g1 : (dig k X)[i + 1]? = some 0 := by rw [dig_get k X (i + 1) hk, Int.ediv_eq_zero_of_lt hX0 hX2]; rfl
  -- the sum has room
  have hlow := Int.emod_lt_of_pos d p2
  have hlow0 := Int.emod_nonneg d (b := 2 ^ (64 - s)) (by omega)
  have hsum : X / 18446744073709551616 ^ i + d * 2 ^ s % 18446744073709551616 < 18446744073709551616 := by
    rw [w4]
    have : 2 ^ s * (d % 2 ^ (64 - s) + 1) ≤ 2 ^ s * 2 ^ (64 - s) := Int.mul_le_mul_of_nonneg_left (by omega) (by omega)
    rw [← pow64 (by omega), Int.mul_add] at this
    omega
  have wx : W1 (X / 18446744073709551616 ^ i + d * 2 ^ s % 18446744073709551616) := ⟨by omega, hsum⟩
  have wy : W1 (d / 2 ^ (64 - s)) := ⟨w3, by omega⟩
  refine ⟨g0, g1, wx, wy, ?_⟩
  refine (dig_of (wd_set (wd_set (dig_wd k X) wx) wy) (by simp [dig_len]) ?_).symm
  have hXB : X < 18446744073709551616 ^ k := by
    refine Int.lt_of_lt_of_le hX2 ?_
    exact B_le (by omega)
  rw [val_set (y := 0) (by rw [List.getElem?_set_ne (by omega)]; exact g1), val_set g0, val_dig k X hX0 hXB, mod_succ, Int.add_mul]
  show X + 18446744073709551616 ^ i * (X / 18446744073709551616 ^ i + d * 2 ^ s % 18446744073709551616 - X / 18446744073709551616 ^ i) + 18446744073709551616 ^ (i + 1) * (d / 2 ^ (64 - s) - 0) = X + 18446744073709551616 ^ i * d * 2 ^ s
  generalize d * 2 ^ s % 18446744073709551616 = u at w1 ⊢
  generalize d / 2 ^ (64 - s) = v at w1 ⊢
  rw [Int.mul_assoc (18446744073709551616 ^ i) d, w1, Int.pow_succ]
  have key : ∀ b u v z x : Int, x + b * (z + u - z) + b * 18446744073709551616 * (v - 0) = x + b * (u + 18446744073709551616 * v) := by intros; grind
  exact key _ _ _ _ _
/-- A word shifted back. -/
theorem unshift {s i : Nat} {r R : Int} (hs : s ≤ 63) (hr : 0 ≤ r) (hR : R = r * 2 ^ s) :
    R / 18446744073709551616 ^ i % 18446744073709551616 / 2 ^ s + (R / 18446744073709551616 ^ (i + 1) % 18446744073709551616 * 2 ^ (64 - s)) % 18446744073709551616 = r / 18446744073709551616 ^ i % 18446744073709551616 ∧ 0 ≤ R / 18446744073709551616 ^ i % 18446744073709551616 / 2 ^ s := by
  have hd := pow64 (s := s) (by omega)
  have p1 := pos2 s
  have p2 := pos2 (64 - s)
  have hB := B_pow i
  have hR0 : 0 ≤ R := by rw [hR]; exact Int.mul_nonneg hr (by omega)
  have e1 : R / 18446744073709551616 ^ (i + 1) = R / 18446744073709551616 ^ i / 18446744073709551616 := by rw [Int.pow_succ, Int.ediv_ediv_of_nonneg (by omega)]
  have e2 : r / 18446744073709551616 ^ i = R / 18446744073709551616 ^ i / 2 ^ s := by
    rw [Int.ediv_ediv_of_nonneg (by omega), hR, Int.mul_ediv_mul_of_pos_left _ _ p1]
  rw [e1, e2]
  have hy : 0 ≤ R / 18446744073709551616 ^ i := Int.ediv_nonneg hR0 (by omega)
  generalize R / 18446744073709551616 ^ i = y at *
  have f := Int.mul_ediv_add_emod y 18446744073709551616
  have f0 := Int.emod_nonneg y (b := 18446744073709551616) (by decide)
  have f1 := Int.emod_lt_of_pos y (b := 18446744073709551616) (by decide)
  generalize hy0 : y % 18446744073709551616 = y0 at *
  generalize hy1 : y / 18446744073709551616 = y1 at *
  have g1 : y / 2 ^ s = y0 / 2 ^ s + 2 ^ (64 - s) * y1 := by
    rw [← f, show 18446744073709551616 * y1 + y0 = y0 + 2 ^ s * (2 ^ (64 - s) * y1) from by
      have : 18446744073709551616 * y1 = 2 ^ s * (2 ^ (64 - s) * y1) := by rw [← Int.mul_assoc, ← hd]
      omega, Int.add_mul_ediv_left _ _ (by omega)]
  have k0 : 0 ≤ y0 / 2 ^ s := Int.ediv_nonneg f0 (by omega)
  have k1 : y0 / 2 ^ s < 2 ^ (64 - s) := Int.ediv_lt_of_lt_mul p1 (by rw [Int.mul_comm, ← hd]; exact f1)
  refine ⟨?_, k0⟩
  rw [g1, mul_mod_l, Int.mul_comm y1]
  have h2 : 2 ^ (64 - s) * y1 % 18446744073709551616 = 2 ^ (64 - s) * (y1 % 2 ^ s) := by rw [hd, Int.mul_comm (2 ^ s), Int.mul_emod_mul_of_pos _ _ p2]
  have h3 := Int.emod_nonneg y1 (b := 2 ^ s) (by omega)
  have h4 := Int.emod_lt_of_pos y1 p1
  have h5 : 2 ^ (64 - s) * (y1 % 2 ^ s + 1) ≤ 2 ^ (64 - s) * 2 ^ s := Int.mul_le_mul_of_nonneg_left (by omega) (by omega)
  rw [Int.mul_comm (2 ^ (64 - s)) (2 ^ s), ← hd, Int.mul_add] at h5
  rw [Int.add_emod, h2]
  generalize y0 / 2 ^ s = u at *
  generalize 2 ^ (64 - s) * (y1 % 2 ^ s) = v at *
  have hv : 0 ≤ v := by omega
  omega

/-! ### One digit of a quotient -/
/-- The guess by the highest words is not too small. -/
theorem guess {A M : Int} {N : Nat} (hM : 0 < M) (hA : 0 ≤ A) (ht : 0 < M / 18446744073709551616 ^ N) : A / M ≤ A / 18446744073709551616 ^ N / (M / 18446744073709551616 ^ N) := by
  have hB := B_pow N
  refine (Int.le_ediv_iff_mul_le ht).2 ((Int.le_ediv_iff_mul_le hB).2 ?_)
  have h1 := Int.mul_ediv_add_emod M (18446744073709551616 ^ N)
  have h2 := Int.emod_nonneg M (b := 18446744073709551616 ^ N) (by omega)
  have hq := Int.ediv_nonneg hA (Int.le_of_lt hM)
  have h3 := Int.ediv_mul_le A (Int.ne_of_gt hM)
  refine Int.le_trans ?_ h3
  rw [Int.mul_assoc]
  refine Int.mul_le_mul_of_nonneg_left ?_ hq
  rw [Int.mul_comm]; omega
theorem digit_lt {A M : Int} (hM : 0 < M) (hA : A < M * 18446744073709551616) : A / M ≤ 18446744073709551616 - 1 := by
  have := Int.ediv_lt_of_lt_mul hM (a := A) (b := 18446744073709551616) (by rw [Int.mul_comm]; exact hA)
  omega

/-- One digit more. -/
theorem dig_fill {k i : Nat} {r : Int} (hi : i < k) (hr : 0 ≤ r) : (dig k (r % 18446744073709551616 ^ i)).set i (r / 18446744073709551616 ^ i % 18446744073709551616) = dig k (r % 18446744073709551616 ^ (i + 1)) := by
  have hB := B_pow i
  have h0 := Int.emod_nonneg r (b := 18446744073709551616 ^ i) (by omega)
  have h1 := Int.emod_lt_of_pos r hB
  have g : (dig k (r % 18446744073709551616 ^ i))[i]? = some 0 := by rw [dig_get k _ i hi, Int.ediv_eq_zero_of_lt h0 h1]; rfl
  have hw : W1 (r / 18446744073709551616 ^ i % 18446744073709551616) := by omega
  refine (dig_of (wd_set (dig_wd k _) hw) (by simp [dig_len]) ?_).symm
  have := B_le (show i ≤ k by omega)
  rw [val_set g, val_dig k _ h0 (by omega), mod_succ, Int.sub_zero]
/-- The modulus made great. -/
theorem norm_facts {m t : Int} {N s : Nat} (h1 : 1 ≤ N) (hm : 0 < m) (hlt : m < 18446744073709551616 ^ N) (ht : t = m / 18446744073709551616 ^ (N - 1)) (h0 : 0 < t) (hs : (s : Int) = 64 - bl t) :
    s ≤ 63 ∧ 0 < m * 2 ^ s ∧ m * 2 ^ s < 18446744073709551616 ^ N ∧ 9223372036854775808 ≤ m * 2 ^ s / 18446744073709551616 ^ (N - 1) ∧ m * 2 ^ s / 18446744073709551616 ^ (N - 1) < 18446744073709551616 := by
  have hB := B_pow (N - 1)
  have hN : (18446744073709551616 : Int) ^ N = 18446744073709551616 ^ (N - 1) * 18446744073709551616 := by rw [← Int.pow_succ, show (N - 1).succ = N from by omega]
  have htl : t < 18446744073709551616 := by rw [ht]; exact Int.ediv_lt_of_lt_mul hB (by rw [Int.mul_comm, ← hN]; exact hlt)
  have hb := bl_le h0 htl
  obtain ⟨b1, b2⟩ := bl_spec h0
  have p1 := pos2 s
  have e := Int.mul_ediv_add_emod m (18446744073709551616 ^ (N - 1))
  have e0 := Int.emod_nonneg m (b := 18446744073709551616 ^ (N - 1)) (by omega)
  have e1 := Int.emod_lt_of_pos m hB
  rw [← ht] at e
  have hbl : 0 < bl t := by unfold bl; omega
  have k1 : (t + 1) * 2 ^ s ≤ 18446744073709551616 := by
    have := Int.mul_le_mul_of_nonneg_right (show t + 1 ≤ 2 ^ bl t by omega) (Int.le_of_lt p1)
    rwa [← Int.pow_add, show bl t + s = 64 from by omega, show (2 : Int) ^ 64 = 18446744073709551616 from by decide] at this
  have k2 : 9223372036854775808 ≤ t * 2 ^ s := by
    have := Int.mul_le_mul_of_nonneg_right b1 (Int.le_of_lt p1)
    rwa [← Int.pow_add, show bl t - 1 + s = 63 from by omega, show (2 : Int) ^ 63 = 9223372036854775808 from by decide] at this
  have hpos : 0 < m * 2 ^ s := Int.mul_pos hm p1
  have hup : m * 2 ^ s < 18446744073709551616 ^ N := by
    have h3 : m < 18446744073709551616 ^ (N - 1) * (t + 1) := by rw [Int.mul_add]; omega
    have h4 := Int.mul_lt_mul_of_pos_right h3 p1
    rw [Int.mul_assoc] at h4
    have h5 := Int.mul_le_mul_of_nonneg_left k1 (Int.le_of_lt hB)
    rw [hN]; omega
  refine ⟨by omega, hpos, hup, ?_, Int.ediv_lt_of_lt_mul hB (by rw [Int.mul_comm 18446744073709551616, ← hN]; exact hup)⟩
  refine (Int.le_ediv_iff_mul_le hB).2 ?_
  have h3 : t * 18446744073709551616 ^ (N - 1) ≤ m := by rw [Int.mul_comm]; omega
  have h4 := Int.mul_le_mul_of_nonneg_right h3 (Int.le_of_lt p1)
  have h5 := Int.mul_le_mul_of_nonneg_right k2 (Int.le_of_lt hB)
  have h6 : t * 2 ^ s * 18446744073709551616 ^ (N - 1) = t * 18446744073709551616 ^ (N - 1) * 2 ^ s := by grind
  omega
theorem seg_succ {l : List Int} {j n : Nat} {x : Int} (h : l[j + n]? = some x) : seg l j (n + 1) = seg l j n + 18446744073709551616 ^ n * x := by
  unfold seg
  have hl : j + n < l.length := (List.getElem?_eq_some_iff.1 h).1
  rw [List.take_add_one, List.getElem?_drop, h]
  simp only [Option.toList_some]
  rw [val_append, List.length_take, List.length_drop, Nat.min_eq_left (by omega)]
  simp [val]
theorem val_take_seg {l : List Int} {j n : Nat} (h : j + n ≤ l.length) : val (l.take (j + n)) = val (l.take j) + 18446744073709551616 ^ j * seg l j n := by
  rw [val_split (l.take (j + n)) j (by simp; omega), List.take_take, Nat.min_eq_left (by omega), seg, List.drop_take, Nat.add_sub_cancel_left]
/-- A digit of the quotient taken away: what is left. -/
theorem rem_next {M A D V lo b : Int} (hM : 0 < M) (hb : 0 < b) (hV : V = lo + b * A) (h0 : 0 ≤ lo) (h1 : lo < b) (hD : D < M) (hD0 : 0 ≤ D) (hmod : D % M = A % M) : lo + b * D < M * b ∧ (lo + b * D) % M = V % M := by
  constructor
  · have := Int.mul_le_mul_of_nonneg_left (show D + 1 ≤ M by omega) (Int.le_of_lt hb)
    rw [Int.mul_add, Int.mul_comm b M] at this
    omega
  · rw [hV, Int.add_emod, Int.mul_emod b D, hmod, ← Int.mul_emod, ← Int.add_emod]

/-! ### Places -/
theorem load_ws {l : List Int} {i : Nat} {x : Int} (h : l[i]? = some x) : partAV false 1 (ws l) (0 + (i : Int).toNat * 1) = u64 x := by
  rw [show 0 + (i : Int).toNat * 1 = i from by simp]; exact part_ws h
theorem ble_ws {l : List Int} {i : Nat} (h : i < l.length) : Nat.ble (0 + (i : Int).toNat * 1 + 1) (ws l).length = true := Nat.ble_eq_true_of_le (by rw [ws_len]; simp; omega)
theorem ble_ws' {l : List Int} {i : Nat} (h : i < l.length) : (Nat.ble (0 + (i : Int).toNat * 1 + 1) (ws l).length && true && true) = true := by rw [ble_ws h]; rfl
theorem store_ws {l : List Int} {i : Nat} {x : Int} (h : i < l.length) : List.take (0 + (i : Int).toNat * 1) (ws l) ++ (u64 x).cells ++ List.drop (0 + (i : Int).toNat * 1 + 1) (ws l) = ws (l.set i x) := by
  show List.take (0 + (i : Int).toNat * 1) (ws l) ++ [u64 x] ++ List.drop (0 + (i : Int).toNat * 1 + 1) (ws l) = ws (l.set i x)
  rw [show 0 + (i : Int).toNat * 1 = i from by simp]
  apply List.ext_getElem?
  intro j
  simp only [ws, List.append_assoc, List.singleton_append]
  rw [List.getElem?_append]
  simp only [List.length_take, List.length_map]
  rw [Nat.min_eq_left (by omega)]
  split
  · rename_i hj
    rw [List.getElem?_take_of_lt hj, List.getElem?_map, List.getElem?_map, List.getElem?_set_ne (by omega)]
  · rename_i hj
    rcases Nat.lt_or_eq_of_le (Nat.le_of_not_lt hj) with q | q
    · rw [show j - i = (j - i - 1) + 1 from by omega, List.getElem?_cons_succ, List.getElem?_drop, List.getElem?_map, List.getElem?_map, List.getElem?_set_ne (by omega), show i + 1 + (j - i - 1) = j from by omega]
    · subst q
      rw [Nat.sub_self, List.getElem?_cons_zero, List.getElem?_map, List.getElem?_set_self h]; rfl
theorem pload_ws {l : List Int} {i : Nat} {x : Int} (h : l[i]? = some x) : partAV false 1 (List.drop ((i : Int).toNat * 1) (ws l)) 0 = u64 x := by
  rw [show (i : Int).toNat * 1 = i from by simp]; exact part_drop h
theorem pble_ws {l : List Int} {i : Nat} (h : i < l.length) : Nat.ble 1 (List.drop ((i : Int).toNat * 1) (ws l)).length = true := Nat.ble_eq_true_of_le (by rw [List.length_drop, ws_len]; simp; omega)
theorem inB_nat {i n : Nat} (h : i < n) : inB (i : Int) n = true := inB_true (by omega) (by omega)
end Go.Proofs.Yteknjhamekpfjaa
