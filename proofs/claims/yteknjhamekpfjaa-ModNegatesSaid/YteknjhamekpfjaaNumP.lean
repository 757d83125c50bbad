/- Plain facts: primes by primitive roots; powers by a prime. -/
namespace Go.Num
set_option linter.unusedVariables false
set_option linter.unusedSimpArgs false

def Pri (p : Nat) : Prop := 1 < p ∧ ∀ d, d ∣ p → d = 1 ∨ d = p

theorem Pri.coprime {p a : Nat} (hp : Pri p) (h : ¬ p ∣ a) : Nat.Coprime p a := by
  rcases hp.2 _ (Nat.gcd_dvd_left p a) with h1 | h1
  · exact h1
  · exact absurd (h1 ▸ Nat.gcd_dvd_right p a) h
theorem Pri.mul {p a b : Nat} (hp : Pri p) (h : p ∣ a * b) : p ∣ a ∨ p ∣ b := by
  by_cases ha : p ∣ a
  · exact .inl ha
  · exact .inr ((hp.coprime ha).dvd_of_dvd_mul_left h)
theorem has_prime : ∀ (n k : Nat), k ≤ n → 1 < k → ∃ q, Pri q ∧ q ∣ k
  | 0, k, h, h1 => by omega
  | n + 1, k, h, h1 => by
    by_cases hp : ∀ d, d ∣ k → d = 1 ∨ d = k
    · exact ⟨k, ⟨h1, hp⟩, Nat.dvd_refl k⟩
    · obtain ⟨d, hd⟩ := Classical.not_forall.1 hp
      obtain ⟨h2, h3⟩ := Classical.not_imp.1 hd
      have hle := Nat.le_of_dvd (by omega) h2
      have h0 : d ≠ 0 := fun e => by subst e; have := Nat.eq_zero_of_zero_dvd h2; omega
      obtain ⟨q, hq, hqd⟩ := has_prime n d (by omega) (by omega)
      exact ⟨q, hq, Nat.dvd_trans hqd h2⟩
def prodL : List Nat → Nat
  | [] => 1
  | x :: r => x * prodL r
theorem prime_in {q : Nat} (hq : Pri q) : ∀ {l : List Nat}, (∀ x ∈ l, Pri x) → q ∣ prodL l → q ∈ l
  | [], _, h => by
    have := Nat.le_of_dvd (by decide) h
    have := hq.1
    simp [prodL] at *; omega
  | x :: r, hl, h => by
    rcases hq.mul (a := x) (b := prodL r) h with h1 | h1
    · rcases (hl x (by simp)).2 q h1 with h2 | h2
      · have := hq.1; omega
      · simp [h2]
    · exact List.mem_cons_of_mem _ (prime_in hq (fun y hy => hl y (by simp [hy])) h1)

theorem dvd_quot {n d : Nat} {l : List Nat} (hl : ∀ x ∈ l, Pri x) (hn : prodL l = n) (h0 : 0 < n) (hd : d ∣ n) (hlt : d < n) : ∃ q ∈ l, d ∣ n / q := by
  obtain ⟨k, hk⟩ := hd
  have hk1 : 1 < k := by
    rcases k with _ | _ | k
    · omega
    · omega
    · omega
  obtain ⟨q, hq, hqk⟩ := has_prime k k (Nat.le_refl k) hk1
  have hqn : q ∣ n := Nat.dvd_trans hqk ⟨d, by rw [hk, Nat.mul_comm]⟩
  refine ⟨q, prime_in hq hl (hn ▸ hqn), ?_⟩
  obtain ⟨j, hj⟩ := hqk
  refine ⟨j, ?_⟩
  rw [hk, hj, show d * (q * j) = q * (d * j) from by rw [Nat.mul_left_comm], Nat.mul_div_cancel_left _ (by have := hq.1; omega)]

/-! ### Pigeons -/
theorem nodup_le : ∀ {l m : List Nat}, l.Nodup → (∀ x ∈ l, x ∈ m) → l.length ≤ m.length
  | [], m, _, _ => by simp
  | x :: r, m, hn, h => by
    have hx : x ∈ m := h x (by simp)
    have hn' := List.nodup_cons.1 hn
    have := nodup_le (l := r) (m := m.erase x) hn'.2 (fun y hy => by
      have hne : y ≠ x := fun e => hn'.1 (e ▸ hy)
      exact (List.mem_erase_of_ne hne).2 (h y (by simp [hy])))
    rw [List.length_erase_of_mem hx] at this
    have : 0 < m.length := List.length_pos_of_mem hx
    simp; omega
theorem nodup_map {f : Nat → Nat} : ∀ {l : List Nat}, l.Nodup → (∀ x ∈ l, ∀ y ∈ l, f x = f y → x = y) → (l.map f).Nodup
  | [], _, _ => by simp
  | x :: r, hn, h => by
    have hn' := List.nodup_cons.1 hn
    simp only [List.map_cons, List.nodup_cons]
    refine ⟨fun hm => ?_, nodup_map hn'.2 fun y hy z hz => h y (by simp [hy]) z (by simp [hz])⟩
    obtain ⟨y, hy, e⟩ := List.mem_map.1 hm
    exact hn'.1 (h x (by simp) y (by simp [hy]) e.symm ▸ hy)

/-! ### Powers -/
theorem cancel {p g x y : Nat} {n : Nat} (hn : g ^ n % p = 1) (h1 : 1 < p) (h0 : 0 < n) (e : g * x % p = g * y % p) : x % p = y % p := by
  have : g ^ (n - 1) * (g * x) % p = g ^ (n - 1) * (g * y) % p := by rw [Nat.mul_mod, e, ← Nat.mul_mod]
  rw [← Nat.mul_assoc, ← Nat.mul_assoc, ← Nat.pow_succ, show (n - 1).succ = n from by omega, Nat.mul_mod, hn, Nat.mul_mod (g ^ n) y, hn] at this
  simpa using this
theorem cancel_pow {p g x y : Nat} {n : Nat} (hn : g ^ n % p = 1) (h1 : 1 < p) (h0 : 0 < n) : ∀ k, g ^ k * x % p = g ^ k * y % p → x % p = y % p
  | 0, h => by simpa using h
  | k + 1, h => by
    rw [Nat.pow_succ, Nat.mul_comm (g ^ k) g, Nat.mul_assoc, Nat.mul_assoc] at h
    exact cancel_pow hn h1 h0 k (cancel hn h1 h0 h)
theorem pow_one_dvd {p g n d : Nat} (h1 : 1 < p) (hd : g ^ d % p = 1) (h : d ∣ n) : g ^ n % p = 1 := by
  obtain ⟨k, rfl⟩ := h
  rw [Nat.pow_mul, Nat.pow_mod, hd]
  simpa using Nat.mod_eq_of_lt h1
/-- The least number of which the power is 1, divides all of them. -/
theorem order_dvd {p g n d : Nat} (h1 : 1 < p) (hd : g ^ d % p = 1) (hd0 : 0 < d) (hmin : ∀ e, 0 < e → e < d → g ^ e % p ≠ 1) (hn : g ^ n % p = 1) : d ∣ n := by
  by_cases h : n % d = 0
  · exact Nat.dvd_of_mod_eq_zero h
  · exfalso
    refine hmin (n % d) (by omega) (Nat.mod_lt _ hd0) ?_
    have e : g ^ n % p = g ^ (n % d) % p := by
      conv => lhs; rw [← Nat.div_add_mod n d]
      rw [Nat.pow_add, Nat.mul_mod, pow_one_dvd h1 hd ⟨n / d, rfl⟩]
      simp
    rw [← e, hn]
theorem least {Q : Nat → Prop} : ∀ n, Q n → ∃ m, m ≤ n ∧ Q m ∧ ∀ k, k < m → ¬ Q k := by
  intro n
  induction n using Nat.strongRecOn with
  | ind n ih =>
    intro h
    by_cases hex : ∃ k, k < n ∧ Q k
    · obtain ⟨k, hk, hq⟩ := hex
      obtain ⟨m, h1, h2⟩ := ih k hk hq
      exact ⟨m, by omega, h2⟩
    · exact ⟨n, Nat.le_refl n, h, fun k hk hq => hex ⟨k, hk, hq⟩⟩

/-- With a primitive root, every number that is not 0 has a power that is 1. -/
theorem all_units {p g : Nat} {l : List Nat} (h1 : 1 < p) (hg : g ^ (p - 1) % p = 1) (hl : ∀ x ∈ l, Pri x) (hp : prodL l = p - 1) (hq : ∀ q ∈ l, g ^ ((p - 1) / q) % p ≠ 1) (h2 : 2 < p) :
    ∀ a, a % p ≠ 0 → a ^ (p - 1) % p = 1 := by
  -- the order is p - 1
  have hord : ∀ e, 0 < e → e < p - 1 → g ^ e % p ≠ 1 := by
    intro e he hlt h
    obtain ⟨d, hd, ⟨hd0, hd1⟩, hmin⟩ := least (Q := fun n => 0 < n ∧ g ^ n % p = 1) e ⟨he, h⟩
    have hdd : d ∣ p - 1 := order_dvd h1 hd1 hd0 (fun k k0 kd hk => hmin k kd ⟨k0, hk⟩) hg
    obtain ⟨q, hql, hdq⟩ := dvd_quot hl hp (by omega) hdd (by omega)
    exact hq q hql (pow_one_dvd h1 hd1 hdq)
  intro a ha
  have key : ∃ i, g ^ i % p = a % p := by
    refine Classical.byContradiction fun hno => ?_
    have hno' : ∀ i, g ^ i % p ≠ a % p := fun i h => hno ⟨i, h⟩
    have hnd : ((List.range (p - 1)).map fun i => g ^ i % p).Nodup := by
      refine nodup_map List.nodup_range fun i hi j hj e => ?_
      have hi' := List.mem_range.1 hi
      have hj' := List.mem_range.1 hj
      have main : ∀ {i j}, i < p - 1 → j < p - 1 → i < j → g ^ i % p = g ^ j % p → False := by
        intro i j hi hj hij e
        refine hord (j - i) (by omega) (by omega) ?_
        have : g ^ i * 1 % p = g ^ i * g ^ (j - i) % p := by rw [← Nat.pow_add, show i + (j - i) = j from by omega, Nat.mul_one, e]
        have := cancel_pow hg h1 (by omega) i this
        rw [Nat.mod_eq_of_lt h1] at this
        exact this.symm
      rcases Nat.lt_trichotomy i j with h | h | h
      · exact (main hi' hj' h e).elim
      · exact h
      · exact (main hj' hi' h e.symm).elim
    have hsub : ∀ x ∈ ((List.range (p - 1)).map fun i => g ^ i % p), x ∈ ((List.range p).erase 0).erase (a % p) := by
      intro x hx
      obtain ⟨i, hi, rfl⟩ := List.mem_map.1 hx
      refine (List.mem_erase_of_ne (hno' i)).2 ((List.mem_erase_of_ne ?_).2 (List.mem_range.2 (Nat.mod_lt _ (by omega))))
      intro h0
      have : g ^ i * g ^ (p - 1) % p = 0 := by rw [Nat.mul_mod, h0]; simp
      have h3 : (g ^ (p - 1)) ^ i % p = 1 := by rw [Nat.pow_mod, hg]; simpa using Nat.mod_eq_of_lt h1
      rw [← Nat.pow_mul, Nat.mul_comm, Nat.pow_mul] at h3
      have h4 : (g ^ i) ^ (p - 1) % p = 0 := by
        rw [Nat.pow_mod, h0, Nat.zero_pow (by omega)]; simp
      omega
    have hlen := nodup_le hnd hsub
    have hm : a % p ∈ (List.range p).erase 0 := (List.mem_erase_of_ne ha).2 (List.mem_range.2 (Nat.mod_lt _ (by omega)))
    have hm0 : 0 ∈ List.range p := List.mem_range.2 (by omega)
    rw [List.length_erase_of_mem hm, List.length_erase_of_mem hm0] at hlen
    simp at hlen
    omega
  obtain ⟨i, hi⟩ := key
  rw [Nat.pow_mod, ← hi, ← Nat.pow_mod, ← Nat.pow_mul, Nat.mul_comm, Nat.pow_mul, Nat.pow_mod, hg]
  simpa using Nat.mod_eq_of_lt h1
theorem pri_of_units {p : Nat} (h2 : 2 < p) (h : ∀ a, a % p ≠ 0 → a ^ (p - 1) % p = 1) : Pri p := by
  refine ⟨by omega, fun d hd => ?_⟩
  have hle := Nat.le_of_dvd (by omega) hd
  by_cases hlt : d = p
  · exact .inr hlt
  · have h0 : d ≠ 0 := fun e => by subst e; have := Nat.eq_zero_of_zero_dvd hd; omega
    have hm : d % p = d := Nat.mod_eq_of_lt (by omega)
    have := h d (by omega)
    have hdd : d ∣ d ^ (p - 1) := by
      rw [show p - 1 = (p - 2) + 1 from by omega, Nat.pow_succ]
      exact Nat.dvd_mul_left d _
    have h3 := (Nat.dvd_mod_iff hd).2 hdd
    rw [this] at h3
    exact .inl (Nat.dvd_one.1 h3)

/-- Powers, reckoned fast: k bits of the exponent, the lowest first. -/
def powm (m : Nat) : Nat → Nat → Nat → Nat → Nat
  | 0, _, _, r => r
  | k + 1, b, e, r => powm m k (b * b % m) (e / 2) (bif Nat.beq (e % 2) 1 then r * b % m else r)
theorem powm_eq (m : Nat) : ∀ (k b e r : Nat), e < 2 ^ k → powm m k b e r % m = r * b ^ e % m
  | 0, b, e, r, h => by
    have : e = 0 := by simpa using h
    subst this; simp [powm]
  | k + 1, b, e, r, h => by
    rw [Nat.pow_succ] at h
    rw [powm, powm_eq m k _ _ _ (by omega)]
    rw [Nat.mul_mod, ← Nat.pow_mod, ← Nat.mul_mod, ← Nat.pow_two, ← Nat.pow_mul]
    rcases Nat.mod_two_eq_zero_or_one e with h0 | h0
    · rw [h0, show 2 * (e / 2) = e from by omega]; rfl
    · rw [h0]
      show (r * b % m) * b ^ (2 * (e / 2)) % m = _
      rw [Nat.mod_mul_mod, Nat.mul_assoc, ← Nat.pow_add_one', show 2 * (e / 2) + 1 = e from by omega]
/-- What the kernel is asked of a prime. -/
def cert (p g : Nat) (l : List Nat) : Bool :=
  Nat.blt 2 p && Nat.blt p (2 ^ 300) && Nat.beq (powm p 300 g (p - 1) 1 % p) 1 && Nat.beq (prodL l) (p - 1) && l.all fun q => !Nat.beq (powm p 300 g ((p - 1) / q) 1 % p) 1
theorem cert_units {p g : Nat} {l : List Nat} (hl : ∀ x ∈ l, Pri x) (h : cert p g l = true) : ∀ a, a % p ≠ 0 → a ^ (p - 1) % p = 1 := by
  simp only [cert, Bool.and_eq_true, List.all_eq_true] at h
  obtain ⟨⟨⟨⟨h1, h2⟩, h3⟩, h4⟩, h5⟩ := h
  have h1 := Nat.lt_of_lt_of_le (Nat.lt_succ_self 2) (Nat.le_of_ble_eq_true h1)
  have h2 : p < 2 ^ 300 := Nat.lt_of_succ_le (Nat.le_of_ble_eq_true h2)
  have h3 := Nat.eq_of_beq_eq_true h3
  have h4 := Nat.eq_of_beq_eq_true h4
  rw [powm_eq p _ _ _ _ (by omega), Nat.one_mul] at h3
  refine all_units (by omega) h3 hl h4 (fun q hq e => ?_) h1
  have := h5 q hq
  rw [powm_eq p _ _ _ _ (by have := Nat.div_le_self (p - 1) q; omega), Nat.one_mul, e] at this
  exact absurd this (by decide)
theorem cert_pri {p g : Nat} {l : List Nat} (hl : ∀ x ∈ l, Pri x) (h : cert p g l = true) : Pri p := by
  refine pri_of_units ?_ (cert_units hl h)
  simp only [cert, Bool.and_eq_true] at h
  exact Nat.lt_of_lt_of_le (Nat.lt_succ_self 2) (Nat.le_of_ble_eq_true h.1.1.1.1)
theorem pri2 : Pri 2 := ⟨by decide, fun d h => by
  have := Nat.le_of_dvd (by decide) h
  have h0 : d ≠ 0 := fun e => by subst e; have := Nat.eq_zero_of_zero_dvd h; omega
  omega⟩
end Go.Num
