/- Walks: 32 bytes as a number, by the reference; a modulus that is none; the law ModReduces. -/
import Derived.Test.YteknjhamekpfjaaModU
namespace Go.Proofs.Yteknjhamekpfjaa
open Go.Eng Go.Num
set_option maxHeartbeats 4000000
set_option maxRecDepth 10000
set_option linter.unusedVariables false
set_option linter.unusedSimpArgs false
variable {P : Program} {G : Nat → AV}

/-! ### Digits of 16 bits -/
def v16 : List Int → Int
  | [] => 0
  | x :: r => x + 65536 * v16 r
theorem v16_append : ∀ (a b : List Int), v16 (a ++ b) = v16 a + 65536 ^ a.length * v16 b
  | [], b => by simp [v16]
  | x :: a, b => by
    simp only [List.cons_append, v16, v16_append a b, List.length_cons, Int.pow_succ]
    rw [Int.mul_add, Int.mul_comm (65536 ^ a.length) 65536, Int.mul_assoc]; omega
theorem v16_bd : ∀ {l : List Int}, (∀ x ∈ l, 0 ≤ x ∧ x < 65536) → 0 ≤ v16 l ∧ v16 l < 65536 ^ l.length
  | [], _ => by simp [v16]
  | x :: r, h => by
    have h1 := v16_bd (l := r) fun y hy => h y (by simp [hy])
    have h0 := h x (by simp)
    simp only [v16, List.length_cons, Int.pow_succ]
    have : (65536 : Int) * (v16 r + 1) ≤ 65536 * 65536 ^ r.length := Int.mul_le_mul_of_nonneg_left (by omega) (by omega)
    rw [Int.mul_comm (65536 ^ r.length)]
    rw [Int.mul_add] at this
    omega
theorem load_map {f : Int → AV} {l : List Int} {i : Nat} {x : Int} (h : l[i]? = some x) : partAV false 1 (l.map f) (0 + (i : Int).toNat * 1) = f x := by
  rw [show 0 + (i : Int).toNat * 1 = i from by simp]; simp [partAV, List.getD, h]
theorem pload_map {f : Int → AV} {l : List Int} {i : Nat} {x : Int} (h : l[i]? = some x) : partAV false 1 (List.drop ((i : Int).toNat * 1) (l.map f)) 0 = f x := by
  rw [show (i : Int).toNat * 1 = i from by simp]; simp [partAV, List.getD, h]
theorem pble_map {f : Int → AV} {l : List Int} {i : Nat} (h : i < l.length) : Nat.ble 1 (List.drop ((i : Int).toNat * 1) (l.map f)).length = true := Nat.ble_eq_true_of_le (by rw [List.length_drop, List.length_map]; simp; omega)
theorem ble_map' {f : Int → AV} {l : List Int} {i : Nat} (h : i < l.length) : (Nat.ble (0 + (i : Int).toNat * 1 + 1) (l.map f).length && true && true) = true := by
  rw [Nat.ble_eq_true_of_le (by rw [List.length_map]; simp; omega)]; rfl
theorem store_map {f : Int → AV} {l : List Int} {i : Nat} {x : Int} (h : i < l.length) : List.take (0 + (i : Int).toNat * 1) (l.map f) ++ [f x] ++ List.drop (0 + (i : Int).toNat * 1 + 1) (l.map f) = (l.set i x).map f := by
  rw [show 0 + (i : Int).toNat * 1 = i from by simp]
  apply List.ext_getElem?
  intro j
  simp only [List.append_assoc, List.singleton_append]
  rw [List.getElem?_append]
  simp only [List.length_take, List.length_map]
  rw [Nat.min_eq_left (by omega)]
  split
  · rename_i hj
    rw [List.getElem?_take_of_lt hj, List.getElem?_map, List.getElem?_map, List.getElem?_set_ne (by omega)]
  · rename_i hj
    rcases Nat.lt_or_eq_of_le (Nat.le_of_not_lt hj) with q | q
    · rw [show j - i = (j - i - 1) + 1 from by omega, List.getElem?_cons_succ, List.getElem?_drop, List.getElem?_map, List.getElem?_map, List.getElem?_set_ne (by omega), show i + 1 + (j - i - 1) = j from by omega]
    · subst q
      rw [Nat.sub_self, List.getElem?_cons_zero, List.getElem?_map, List.getElem?_set_self h]; rfl
abbrev i64 (n : Int) : AV := .int .i64 n
/-- Sixteen digits, as the reference has them. -/
def D16 (dl : List Int) : Prop := dl.length = 16 ∧ ∀ x ∈ dl, 0 ≤ x ∧ x < 65536

theorem p65536 (k : Nat) : (65536 : Int) ^ k = 2 ^ (16 * k) := by rw [Int.pow_mul]; rfl
theorem num16_step {dl : List Int} {i : Nat} {d : Int} (hd : D16 dl) (hi : i < 16) (hg : dl[i]? = some d) :
    let V := v16 (dl.take i)
    (dig 4 V)[i / 4]? = some (V / 18446744073709551616 ^ (i / 4) % 18446744073709551616) ∧ W1 (V / 18446744073709551616 ^ (i / 4) % 18446744073709551616 + d * 2 ^ (16 * (i % 4))) ∧ d * 2 ^ (16 * (i % 4)) < 18446744073709551616 ∧ 0 ≤ d * 2 ^ (16 * (i % 4)) ∧
      (dig 4 V).set (i / 4) (V / 18446744073709551616 ^ (i / 4) % 18446744073709551616 + d * 2 ^ (16 * (i % 4))) = dig 4 (v16 (dl.take (i + 1))) := by
  intro V
  have hdd := hd.2 d (List.mem_of_getElem? hg)
  have hb := v16_bd (l := dl.take i) fun x hx => hd.2 x (List.mem_of_mem_take hx)
  rw [List.length_take, hd.1, Nat.min_eq_left (by omega)] at hb
  have hsplit : (65536 : Int) ^ i = 18446744073709551616 ^ (i / 4) * 2 ^ (16 * (i % 4)) := by
    rw [show (18446744073709551616 : Int) = 2 ^ 64 from by decide, ← Int.pow_mul, ← Int.pow_add, p65536, show 16 * i = 64 * (i / 4) + 16 * (i % 4) from by omega]
  have hB := B_pow (i / 4)
  have p1 := pos2 (16 * (i % 4))
  have hy : V / 18446744073709551616 ^ (i / 4) < 2 ^ (16 * (i % 4)) := Int.ediv_lt_of_lt_mul hB (by rw [Int.mul_comm, ← hsplit]; exact hb.2)
  have hy0 : 0 ≤ V / 18446744073709551616 ^ (i / 4) := Int.ediv_nonneg hb.1 (by omega)
  have hp : (2 : Int) ^ (16 * (i % 4)) = 1 ∨ (2 : Int) ^ (16 * (i % 4)) = 65536 ∨ (2 : Int) ^ (16 * (i % 4)) = 4294967296 ∨ (2 : Int) ^ (16 * (i % 4)) = 281474976710656 := by
    have : i % 4 = 0 ∨ i % 4 = 1 ∨ i % 4 = 2 ∨ i % 4 = 3 := by omega
    rcases this with q | q | q | q <;> rw [q] <;> decide
  have hym : V / 18446744073709551616 ^ (i / 4) % 18446744073709551616 = V / 18446744073709551616 ^ (i / 4) := Int.emod_eq_of_lt hy0 (by omega)
  have g := dig_get 4 V (i / 4) (by omega)
  have hnext : v16 (dl.take (i + 1)) = V + 65536 ^ i * d := by
    rw [List.take_add_one, hg]
    simp only [Option.toList_some]
    rw [v16_append, List.length_take, hd.1, Nat.min_eq_left (by omega)]
    simp [v16, V]
  rw [hym] at g ⊢
  have hx : W1 (V / 18446744073709551616 ^ (i / 4) + d * 2 ^ (16 * (i % 4))) ∧ d * 2 ^ (16 * (i % 4)) < 18446744073709551616 ∧ 0 ≤ d * 2 ^ (16 * (i % 4)) := by
    rcases hp with q | q | q | q <;> rw [q] at hy ⊢ <;> omega
  refine ⟨g, hx.1, hx.2.1, hx.2.2, ?_⟩
  refine (dig_of (wd_set (dig_wd 4 V) hx.1) (by rw [List.length_set, dig_len]) ?_).symm
  have hVB : V < 18446744073709551616 ^ 4 := by
    have : (65536 : Int) ^ i ≤ 18446744073709551616 ^ 4 := by
      rw [show (18446744073709551616 : Int) ^ 4 = 65536 ^ 16 from by decide, show 16 = i + (16 - i) from by omega, Int.pow_add]
      have h1 : (0 : Int) < 65536 ^ i := Int.pow_pos (by omega)
      have h2 : (0 : Int) < 65536 ^ (16 - i) := Int.pow_pos (by omega)
      have := Int.mul_le_mul_of_nonneg_left (show (1 : Int) ≤ 65536 ^ (16 - i) by omega) (Int.le_of_lt h1)
      omega
    exact Int.lt_of_lt_of_le hb.2 this
  rw [val_set g, val_dig 4 V hb.1 hVB, hnext, hsplit, Int.add_comm (V / 18446744073709551616 ^ (i / 4)), Int.add_sub_cancel]
  have key : ∀ b q : Int, V + b * (d * q) = V + b * q * d := by intros; grind
  exact key _ _

def NumI (dl : List Int) (b2 b3 : Nat) (n : Nat) (fr : Fr) (st : St) : Prop :=
  ∃ i : Nat, i + n = 16 ∧ fr = [(1, .ptr (dl.map i64)), (2, .optr 55002 b2 0), (3, .optr 55003 b3 0), (4, .int .i64 (i : Nat))] ∧
    st = [.obj 55002 b2 [u64 0, u64 0, u64 0, u64 0], .obj 55003 b3 (ws (dig 4 (v16 (dl.take i))))]
theorem refnum_vc {dl : List Int} (hd : D16 dl) : vc P G c55 (Ret [.cell 2 4 true] (num (v16 dl))) (argFr 0 [.agg (dl.map i64)]) [] := by
  conv => whnf
  intro b2 b3
  conv => whnf
  refine LoopGoal.inv (NumI dl b2 b3) 16 (Frz.keep (fr' := [(1, .ptr (dl.map i64)), (2, .optr 55002 b2 0), (3, .optr 55003 b3 0), (4, .int .i64 (0 : Nat))]) (Fr.sub_cons rfl (Fr.sub_cons rfl (Fr.sub_cons rfl (Fr.sub_cons rfl (Fr.sub_nil _)))))) ⟨0, rfl, rfl, rfl⟩ ?_
  rintro n fr st ⟨i, hi, rfl, rfl⟩
  conv => whnf
  rw [lss_nat (n := 16) 16 rfl]
  by_cases h : i < 16
  · rw [decide_eq_true h]
    obtain ⟨d, hg⟩ : ∃ d, dl[i]? = some d := ⟨_, List.getElem?_eq_getElem (by have := hd.1; omega)⟩
    have hdd := hd.2 d (List.mem_of_getElem? hg)
    obtain ⟨g, hx, hlt, hge, hset⟩ := num16_step hd h hg
    have hq : IntKind.i64.wrap (Int.tdiv (i : Int) 4) = ((i / 4 : Nat) : Int) := by
      rw [Int.tdiv_eq_ediv_of_nonneg (by omega), wr64 (by omega) (by omega)]; omega
    have hr : IntKind.i64.wrap (16 * Int.tmod (i : Int) 4) = ((16 * (i % 4) : Nat) : Int) := by rw [Int.tmod_eq_emod_of_nonneg (by omega), wr64 (by omega) (by omega)]; omega
    ((conv => whnf); repeat ((first | refine And.intro (rfl : (_ : Nat) = _) ?_ | refine And.intro (rfl : (_ : Bool) = true) ?_ | refine And.intro (Nat.le_of_ble_eq_true rfl) ?_ | refine And.intro ⟨Nat.le_of_ble_eq_true rfl, rfl, rfl⟩ ?_); conv => whnf))
    rw [hq]
    refine ifB_mk (inB_nat (by omega)) ?_
    ((conv => whnf); repeat ((first | refine And.intro (rfl : (_ : Nat) = _) ?_ | refine And.intro (rfl : (_ : Bool) = true) ?_ | refine And.intro (Nat.le_of_ble_eq_true rfl) ?_ | refine And.intro ⟨Nat.le_of_ble_eq_true rfl, rfl, rfl⟩ ?_); conv => whnf))
    refine ifB_mk (ble_ws (by rw [dig_len]; omega)) ?_
    rw [load_ws g]
    ((conv => whnf); repeat ((first | refine And.intro (rfl : (_ : Nat) = _) ?_ | refine And.intro (rfl : (_ : Bool) = true) ?_ | refine And.intro (Nat.le_of_ble_eq_true rfl) ?_ | refine And.intro ⟨Nat.le_of_ble_eq_true rfl, rfl, rfl⟩ ?_); conv => whnf))
    refine ifB_mk (inB_nat (by omega)) ?_
    ((conv => whnf); repeat ((first | refine And.intro (rfl : (_ : Nat) = _) ?_ | refine And.intro (rfl : (_ : Bool) = true) ?_ | refine And.intro (Nat.le_of_ble_eq_true rfl) ?_ | refine And.intro ⟨Nat.le_of_ble_eq_true rfl, rfl, rfl⟩ ?_); conv => whnf))
    refine ifB_mk (pble_map (by have := hd.1; omega)) ?_
    rw [pload_map hg]
    ((conv => whnf); repeat ((first | refine And.intro (rfl : (_ : Nat) = _) ?_ | refine And.intro (rfl : (_ : Bool) = true) ?_ | refine And.intro (Nat.le_of_ble_eq_true rfl) ?_ | refine And.intro ⟨Nat.le_of_ble_eq_true rfl, rfl, rfl⟩ ?_); conv => whnf))
    rw [hr]
    ((conv => whnf); repeat ((first | refine And.intro (rfl : (_ : Nat) = _) ?_ | refine And.intro (rfl : (_ : Bool) = true) ?_ | refine And.intro (Nat.le_of_ble_eq_true rfl) ?_ | refine And.intro ⟨Nat.le_of_ble_eq_true rfl, rfl, rfl⟩ ?_); conv => whnf))
    try rw [hq]
    refine ifB_mk (inB_nat (by omega)) ?_
    ((conv => whnf); repeat ((first | refine And.intro (rfl : (_ : Nat) = _) ?_ | refine And.intro (rfl : (_ : Bool) = true) ?_ | refine And.intro (Nat.le_of_ble_eq_true rfl) ?_ | refine And.intro ⟨Nat.le_of_ble_eq_true rfl, rfl, rfl⟩ ?_); conv => whnf))
    have e : IntKind.u64.wrap (v16 (dl.take i) / 18446744073709551616 ^ (i / 4) % 18446744073709551616 + shl .u64 (IntKind.u64.wrap d) ((16 * (i % 4) : Nat) : Int)) = v16 (dl.take i) / 18446744073709551616 ^ (i / 4) % 18446744073709551616 + d * 2 ^ (16 * (i % 4)) := by
      rw [wrap_u64 d, Int.emod_eq_of_lt hdd.1 (by omega), shl_nn _ (by omega), Int.emod_eq_of_lt hge hlt, wrap_u64, Int.emod_eq_of_lt hx.1 hx.2]
    rw [e]
    refine ifB_mk (ble_ws' (by rw [dig_len]; omega)) ?_
    rw [store_ws (by rw [dig_len]; omega), hset]
    ((conv => whnf); repeat ((first | refine And.intro (rfl : (_ : Nat) = _) ?_ | refine And.intro (rfl : (_ : Bool) = true) ?_ | refine And.intro (Nat.le_of_ble_eq_true rfl) ?_ | refine And.intro ⟨Nat.le_of_ble_eq_true rfl, rfl, rfl⟩ ?_); conv => whnf))
    refine ⟨n - 1, by omega, _, _, Frz.keep (fr' := [(1, .ptr (dl.map i64)), (2, .optr 55002 b2 0), (3, .optr 55003 b3 0), (4, .int .i64 (i + 1 : Nat))]) (Fr.sub_cons rfl (Fr.sub_cons rfl (Fr.sub_cons rfl (Fr.sub_cons (congrArg (fun z => some (AV.int .i64 z)) (i64_succ (by omega))) (Fr.sub_nil _))))), i + 1, by omega, rfl, rfl⟩
  · rw [decide_eq_false h]
    obtain rfl : i = 16 := by omega
    rw [List.take_of_length_le (by have := hd.1; omega)]
    ((conv => whnf); repeat ((first | refine And.intro (rfl : (_ : Nat) = _) ?_ | refine And.intro (rfl : (_ : Bool) = true) ?_ | refine And.intro (Nat.le_of_ble_eq_true rfl) ?_ | refine And.intro ⟨Nat.le_of_ble_eq_true rfl, rfl, rfl⟩ ?_); conv => whnf))
    refine ⟨.inl rfl, .drop ?_⟩
    ((conv => whnf); repeat ((first | refine And.intro (rfl : (_ : Nat) = _) ?_ | refine And.intro (rfl : (_ : Bool) = true) ?_ | refine And.intro (Nat.le_of_ble_eq_true rfl) ?_ | refine And.intro ⟨Nat.le_of_ble_eq_true rfl, rfl, rfl⟩ ?_); conv => whnf))
    refine ⟨?_, rfl⟩
    rfl
def RefNumOk (P : Program) (G : Nat → AV) : Prop := ∀ {dl : List Int}, D16 dl → Ans P G 55 [.agg (dl.map i64)] (num (v16 dl))

/-! ### 32 bytes -/
def DB (l : List UInt8) (i : Nat) : Int := (l.getD (31 - 2 * i) 0).toNat + 256 * (l.getD (30 - 2 * i) 0).toNat
def DBs (l : List UInt8) (n : Nat) : List Int := (List.range n).map (DB l) ++ List.replicate (16 - n) 0
theorem DB_bd (l : List UInt8) (i : Nat) : 0 ≤ DB l i ∧ DB l i < 65536 := by
  unfold DB
  have := (l.getD (31 - 2 * i) 0).toNat_lt
  have := (l.getD (30 - 2 * i) 0).toNat_lt
  omega
theorem DBs_len (l : List UInt8) {n : Nat} (h : n ≤ 16) : (DBs l n).length = 16 := by simp [DBs]; omega
theorem DBs_next (l : List UInt8) {n : Nat} (h : n < 16) : (DBs l n).set n (DB l n) = DBs l (n + 1) := by
  unfold DBs
  rw [List.set_append_right _ _ (by simp), show 16 - n = (16 - (n + 1)) + 1 from by omega, List.replicate_succ, List.range_succ]
  simp
theorem DBs_val {l : List UInt8} (h : l.length = 32) : v16 (DBs l 16) = beV l := by
  match l, h with
  | [c0, c1, c2, c3, c4, c5, c6, c7, c8, c9, c10, c11, c12, c13, c14, c15, c16, c17, c18, c19, c20, c21, c22, c23, c24, c25, c26, c27, c28, c29, c30, c31], _ =>
    simp only [DBs, show List.range 16 = [0, 1, 2, 3, 4, 5, 6, 7, 8, 9, 10, 11, 12, 13, 14, 15] from rfl, List.map_cons, List.map_nil, DB, beV, List.foldl_cons, List.foldl_nil, List.replicate, Nat.sub_self, List.append_nil, v16, Nat.reduceMul, Nat.reduceSub, List.getD_cons_succ, List.getD_cons_zero]
    omega
theorem DBs_d16 (l : List UInt8) : D16 (DBs l 16) := by
  refine ⟨DBs_len l (by omega), fun x hx => ?_⟩
  simp only [DBs, Nat.sub_self, List.replicate_zero, List.append_nil] at hx
  obtain ⟨i, _, rfl⟩ := List.mem_map.1 hx
  exact DB_bd l i
def BigI (app : App) (l : List UInt8) (b2 b3 : Nat) (n : Nat) (fr : Fr) (st : St) : Prop :=
  ∃ i : Nat, i + n = 16 ∧ fr = [(0, bs app l), (2, .optr 32002 b2 0), (3, .optr 32003 b3 0), (4, .int .i64 (i : Nat))] ∧
    st = [.obj 32002 b2 [u64 0, u64 0, u64 0, u64 0], .obj 32003 b3 ((DBs l i).map i64)]
theorem refbig_vc {app : App} {l : List UInt8} (hN : RefNumOk P G) (hl : l.length = 32) : vc P G c32 (Ret [.cell 2 4 true] (num (beV l))) (argFr 0 [bs app l]) [] := by
  conv => whnf
  intro b2 b3
  conv => whnf
  refine LoopGoal.inv (BigI app l b2 b3) 16 (Frz.keep (fr' := [(0, bs app l), (2, .optr 32002 b2 0), (3, .optr 32003 b3 0), (4, .int .i64 (0 : Nat))]) (Fr.sub_cons rfl (Fr.sub_cons rfl (Fr.sub_cons rfl (Fr.sub_cons rfl (Fr.sub_nil _)))))) ⟨0, rfl, rfl, rfl⟩ ?_
  rintro n fr st ⟨i, hi, rfl, rfl⟩
  conv => whnf
  rw [lss_nat (n := 16) 16 rfl]
  by_cases h : i < 16
  · rw [decide_eq_true h]
    have e1 : IntKind.i64.wrap (31 - IntKind.i64.wrap (2 * (i : Int))) = ((31 - 2 * i : Nat) : Int) := by rw [wr64 (n := 2 * (i : Int)) (by omega) (by omega), wr64 (by omega) (by omega)]; omega
    have e2 : IntKind.i64.wrap (30 - IntKind.i64.wrap (2 * (i : Int))) = ((30 - 2 * i : Nat) : Int) := by rw [wr64 (n := 2 * (i : Int)) (by omega) (by omega), wr64 (by omega) (by omega)]; omega
    have g1 : l[31 - 2 * i]? = some (l.getD (31 - 2 * i) 0) := getD_mem_some (by omega)
    have g2 : l[30 - 2 * i]? = some (l.getD (30 - 2 * i) 0) := getD_mem_some (by omega)
    have c1 := (l.getD (31 - 2 * i) 0).toNat_lt
    have c2 := (l.getD (30 - 2 * i) 0).toNat_lt
    ((conv => whnf); repeat ((first | refine And.intro (rfl : (_ : Nat) = _) ?_ | refine And.intro (rfl : (_ : Bool) = true) ?_ | refine And.intro (Nat.le_of_ble_eq_true rfl) ?_ | refine And.intro ⟨Nat.le_of_ble_eq_true rfl, rfl, rfl⟩ ?_); conv => whnf))
    rw [e1]
    refine IdxGoal.b8n g1 ?_
    ((conv => whnf); repeat ((first | refine And.intro (rfl : (_ : Nat) = _) ?_ | refine And.intro (rfl : (_ : Bool) = true) ?_ | refine And.intro (Nat.le_of_ble_eq_true rfl) ?_ | refine And.intro ⟨Nat.le_of_ble_eq_true rfl, rfl, rfl⟩ ?_); conv => whnf))
    rw [e2]
    refine IdxGoal.b8n g2 ?_
    ((conv => whnf); repeat ((first | refine And.intro (rfl : (_ : Nat) = _) ?_ | refine And.intro (rfl : (_ : Bool) = true) ?_ | refine And.intro (Nat.le_of_ble_eq_true rfl) ?_ | refine And.intro ⟨Nat.le_of_ble_eq_true rfl, rfl, rfl⟩ ?_); conv => whnf))
    refine ifB_mk (inB_nat (by omega)) ?_
    ((conv => whnf); repeat ((first | refine And.intro (rfl : (_ : Nat) = _) ?_ | refine And.intro (rfl : (_ : Bool) = true) ?_ | refine And.intro (Nat.le_of_ble_eq_true rfl) ?_ | refine And.intro ⟨Nat.le_of_ble_eq_true rfl, rfl, rfl⟩ ?_); conv => whnf))
    have e : IntKind.i64.wrap (IntKind.i64.wrap ((l.getD (31 - 2 * i) 0).toNat : Int) + IntKind.i64.wrap (256 * IntKind.i64.wrap ((l.getD (30 - 2 * i) 0).toNat : Int))) = DB l i := by
      rw [wr64 (n := ((l.getD (31 - 2 * i) 0).toNat : Int)) (by omega) (by omega), wr64 (n := ((l.getD (30 - 2 * i) 0).toNat : Int)) (by omega) (by omega), wr64 (n := 256 * ((l.getD (30 - 2 * i) 0).toNat : Int)) (by omega) (by omega), wr64 (by omega) (by omega)]
      rfl
    rw [e]
    refine ifB_mk (ble_map' (by rw [DBs_len l (by omega)]; omega)) ?_
    ((conv => whnf); repeat ((first | refine And.intro (rfl : (_ : Nat) = _) ?_ | refine And.intro (rfl : (_ : Bool) = true) ?_ | refine And.intro (Nat.le_of_ble_eq_true rfl) ?_ | refine And.intro ⟨Nat.le_of_ble_eq_true rfl, rfl, rfl⟩ ?_); conv => whnf))
    refine ⟨n - 1, by omega, _, _, Frz.keep (fr' := [(0, bs app l), (2, .optr 32002 b2 0), (3, .optr 32003 b3 0), (4, .int .i64 (i + 1 : Nat))]) (Fr.sub_cons rfl (Fr.sub_cons rfl (Fr.sub_cons rfl (Fr.sub_cons (congrArg (fun z => some (AV.int .i64 z)) (i64_succ (by omega))) (Fr.sub_nil _))))), i + 1, by omega, rfl, ?_⟩
    rw [← DBs_next l h, ← store_map (f := i64) (l := DBs l i) (i := i) (x := DB l i) (by rw [DBs_len l (by omega)]; omega)]
    rfl
  · rw [decide_eq_false h]
    obtain rfl : i = 16 := by omega
    have hc := hN (DBs_d16 l)
    rw [DBs_val hl] at hc
    ((conv => whnf); repeat ((first | refine And.intro (rfl : (_ : Nat) = _) ?_ | refine And.intro (rfl : (_ : Bool) = true) ?_ | refine And.intro (Nat.le_of_ble_eq_true rfl) ?_ | refine And.intro ⟨Nat.le_of_ble_eq_true rfl, rfl, rfl⟩ ?_); conv => whnf))
    first | refine CallGoal.pure (hc) ?_ | refine PCallGoal.pure (hc) ?_
    ((conv => whnf); repeat ((first | refine And.intro (rfl : (_ : Nat) = _) ?_ | refine And.intro (rfl : (_ : Bool) = true) ?_ | refine And.intro (Nat.le_of_ble_eq_true rfl) ?_ | refine And.intro ⟨Nat.le_of_ble_eq_true rfl, rfl, rfl⟩ ?_); conv => whnf))
    refine ⟨.inl rfl, .drop ?_⟩
    ((conv => whnf); repeat ((first | refine And.intro (rfl : (_ : Nat) = _) ?_ | refine And.intro (rfl : (_ : Bool) = true) ?_ | refine And.intro (Nat.le_of_ble_eq_true rfl) ?_ | refine And.intro ⟨Nat.le_of_ble_eq_true rfl, rfl, rfl⟩ ?_); conv => whnf))
    refine ⟨?_, rfl⟩
    rfl
def RefBigOk (P : Program) (G : Nat → AV) : Prop := ∀ {app : App} {l : List UInt8}, l.length = 32 → Ans P G 32 [bs app l] (num (beV l))

/-! ### A modulus that is none -/
theorem rednil_vc {x : AV} : vc P G c30 (Ret [.cell 4 4 true] (num 0)) (argFr 0 [.v (.pointer none), x]) [] := by
  conv => whnf
  intro t4 t5
  ((conv => whnf); repeat ((first | refine And.intro (rfl : (_ : Nat) = _) ?_ | refine And.intro (rfl : (_ : Bool) = true) ?_ | refine And.intro (Nat.le_of_ble_eq_true rfl) ?_ | refine And.intro ⟨Nat.le_of_ble_eq_true rfl, rfl, rfl⟩ ?_); conv => whnf))
  refine ⟨.inl rfl, .drop ?_⟩
  ((conv => whnf); repeat ((first | refine And.intro (rfl : (_ : Nat) = _) ?_ | refine And.intro (rfl : (_ : Bool) = true) ?_ | refine And.intro (Nat.le_of_ble_eq_true rfl) ?_ | refine And.intro ⟨Nat.le_of_ble_eq_true rfl, rfl, rfl⟩ ?_); conv => whnf))
  refine ⟨?_, rfl⟩
  rfl
theorem mulnil_vc {a b : Int} : vc P G c18 (Ret [.cell 6 4 true] (num 0)) (argFr 0 [.v (.pointer none), num a, num b]) [] := by
  conv => whnf
  intro t6
  ((conv => whnf); repeat ((first | refine And.intro (rfl : (_ : Nat) = _) ?_ | refine And.intro (rfl : (_ : Bool) = true) ?_ | refine And.intro (Nat.le_of_ble_eq_true rfl) ?_ | refine And.intro ⟨Nat.le_of_ble_eq_true rfl, rfl, rfl⟩ ?_); conv => whnf))
  refine ⟨.inl rfl, .drop ?_⟩
  ((conv => whnf); repeat ((first | refine And.intro (rfl : (_ : Nat) = _) ?_ | refine And.intro (rfl : (_ : Bool) = true) ?_ | refine And.intro (Nat.le_of_ble_eq_true rfl) ?_ | refine And.intro ⟨Nat.le_of_ble_eq_true rfl, rfl, rfl⟩ ?_); conv => whnf))
  refine ⟨?_, rfl⟩
  rfl
theorem modnil_vc : vc P G c26 (Ret [.cell 2 4 true] (num 0)) (argFr 0 [.v (.pointer none)]) [] := by
  conv => whnf
  intro t2
  ((conv => whnf); repeat ((first | refine And.intro (rfl : (_ : Nat) = _) ?_ | refine And.intro (rfl : (_ : Bool) = true) ?_ | refine And.intro (Nat.le_of_ble_eq_true rfl) ?_ | refine And.intro ⟨Nat.le_of_ble_eq_true rfl, rfl, rfl⟩ ?_); conv => whnf))
  refine ⟨.inl rfl, .drop ?_⟩
  ((conv => whnf); repeat ((first | refine And.intro (rfl : (_ : Nat) = _) ?_ | refine And.intro (rfl : (_ : Bool) = true) ?_ | refine And.intro (Nat.le_of_ble_eq_true rfl) ?_ | refine And.intro ⟨Nat.le_of_ble_eq_true rfl, rfl, rfl⟩ ?_); conv => whnf))
  refine ⟨?_, rfl⟩
  rfl

theorem modreds_vc {m : Int} {app : App} {l : List UInt8} (hs : Ans P G 15 [] (.bool true)) (hN : MnewOk P G) (hX : MnewBadOk P G) (hA : MaddOk P G) (hR : ReduceOk P G) (rR : RefRedOk P G) (rB : RefBigOk P G)
    (n1 : ∀ {x : AV}, Ans P G 30 [.v (.pointer none), x] (num 0)) (n2 : ∀ {a b : Int}, Ans P G 18 [.v (.pointer none), num a, num b] (num 0)) (n3 : Ans P G 26 [.v (.pointer none)] (num 0)) (hm : N4 m) (hl : l.length ≤ 9223372036854775807) :
    vc P G c9 (Ret [.t 4] (.bool true)) (argFr 0 [num m, bs app l]) [] := by
  have z4 : N4 0 := small_n4 (by decide) (by decide)
  have hL : ((List.map b8 l).length : Int) = (l.length : Nat) := by simp
  conv => whnf
  first | refine CallGoal.pure (hs) ?_ | refine PCallGoal.pure (hs) ?_
  ((conv => whnf); repeat ((first | refine And.intro (rfl : (_ : Nat) = _) ?_ | refine And.intro (rfl : (_ : Bool) = true) ?_ | refine And.intro (Nat.le_of_ble_eq_true rfl) ?_ | refine And.intro ⟨Nat.le_of_ble_eq_true rfl, rfl, rfl⟩ ?_); conv => whnf))
  rw [hL]
  by_cases h300 : 300 < l.length
  · rw [show lssB 300 ((l.length : Nat) : Int) = true from by rw [lssB_eq]; simp; omega]
    ((conv => whnf); repeat ((first | refine And.intro (rfl : (_ : Nat) = _) ?_ | refine And.intro (rfl : (_ : Bool) = true) ?_ | refine And.intro (Nat.le_of_ble_eq_true rfl) ?_ | refine And.intro ⟨Nat.le_of_ble_eq_true rfl, rfl, rfl⟩ ?_); conv => whnf))
    exact ⟨.inl rfl, .drop ⟨rfl, rfl⟩⟩
  rw [show lssB 300 ((l.length : Nat) : Int) = false from by rw [lssB_eq]; simp; omega]
  ((conv => whnf); repeat ((first | refine And.intro (rfl : (_ : Nat) = _) ?_ | refine And.intro (rfl : (_ : Bool) = true) ?_ | refine And.intro (Nat.le_of_ble_eq_true rfl) ?_ | refine And.intro ⟨Nat.le_of_ble_eq_true rfl, rfl, rfl⟩ ?_); conv => whnf))
  rcases md_or hm with h | h
  · skip
    first | refine CallGoal.pure (hX hm h) ?_ | refine PCallGoal.pure (hX hm h) ?_
    ((conv => whnf); repeat ((first | refine And.intro (rfl : (_ : Nat) = _) ?_ | refine And.intro (rfl : (_ : Bool) = true) ?_ | refine And.intro (Nat.le_of_ble_eq_true rfl) ?_ | refine And.intro ⟨Nat.le_of_ble_eq_true rfl, rfl, rfl⟩ ?_); conv => whnf))
    rw [mod_odd hm]
    by_cases h0 : m % 2 = 0
    · rw [show (m % 2 == 0) = true from by simp [h0]]
      ((conv => whnf); repeat ((first | refine And.intro (rfl : (_ : Nat) = _) ?_ | refine And.intro (rfl : (_ : Bool) = true) ?_ | refine And.intro (Nat.le_of_ble_eq_true rfl) ?_ | refine And.intro ⟨Nat.le_of_ble_eq_true rfl, rfl, rfl⟩ ?_); conv => whnf))
      exact ⟨.inl rfl, .drop ⟨rfl, rfl⟩⟩
    · rw [show (m % 2 == 0) = false from by simp [h0]]
      ((conv => whnf); repeat ((first | refine And.intro (rfl : (_ : Nat) = _) ?_ | refine And.intro (rfl : (_ : Bool) = true) ?_ | refine And.intro (Nat.le_of_ble_eq_true rfl) ?_ | refine And.intro ⟨Nat.le_of_ble_eq_true rfl, rfl, rfl⟩ ?_); conv => whnf))
      refine EqGoal.same (a := m) (b := 1) hm (by omega) ?_
      ((conv => whnf); repeat ((first | refine And.intro (rfl : (_ : Nat) = _) ?_ | refine And.intro (rfl : (_ : Bool) = true) ?_ | refine And.intro (Nat.le_of_ble_eq_true rfl) ?_ | refine And.intro ⟨Nat.le_of_ble_eq_true rfl, rfl, rfl⟩ ?_); conv => whnf))
      exact ⟨.inl rfl, .drop ⟨rfl, rfl⟩⟩
  · have n4 : ∀ x : Int, N4 (x % m) := fun x => low_n4 h x
    have h1 := h.one
    first | refine CallGoal.pure (hN h) ?_ | refine PCallGoal.pure (hN h) ?_
    ((conv => whnf); repeat ((first | refine And.intro (rfl : (_ : Nat) = _) ?_ | refine And.intro (rfl : (_ : Bool) = true) ?_ | refine And.intro (Nat.le_of_ble_eq_true rfl) ?_ | refine And.intro ⟨Nat.le_of_ble_eq_true rfl, rfl, rfl⟩ ?_); conv => whnf))
    first | refine CallGoal.pure (hR h (by omega)) ?_ | refine PCallGoal.pure (hR h (by omega)) ?_
    ((conv => whnf); repeat ((first | refine And.intro (rfl : (_ : Nat) = _) ?_ | refine And.intro (rfl : (_ : Bool) = true) ?_ | refine And.intro (Nat.le_of_ble_eq_true rfl) ?_ | refine And.intro ⟨Nat.le_of_ble_eq_true rfl, rfl, rfl⟩ ?_); conv => whnf))
    first | refine CallGoal.pure (rR hm (by omega) (by omega)) ?_ | refine PCallGoal.pure (rR hm (by omega) (by omega)) ?_
    ((conv => whnf); repeat ((first | refine And.intro (rfl : (_ : Nat) = _) ?_ | refine And.intro (rfl : (_ : Bool) = true) ?_ | refine And.intro (Nat.le_of_ble_eq_true rfl) ?_ | refine And.intro ⟨Nat.le_of_ble_eq_true rfl, rfl, rfl⟩ ?_); conv => whnf))
    refine EqGoal.same (n4 _) rfl ?_
    ((conv => whnf); repeat ((first | refine And.intro (rfl : (_ : Nat) = _) ?_ | refine And.intro (rfl : (_ : Bool) = true) ?_ | refine And.intro (Nat.le_of_ble_eq_true rfl) ?_ | refine And.intro ⟨Nat.le_of_ble_eq_true rfl, rfl, rfl⟩ ?_); conv => whnf))
    rw [hL]
    by_cases h32 : l.length = 32
    · rw [show (((l.length : Nat) : Int) != 32) = false from by rw [h32]; decide]
      have hbv : N4 (beV l) := by
        rw [← DBs_val h32]
        have := v16_bd (DBs_d16 l).2
        rw [(DBs_d16 l).1] at this
        exact ⟨this.1, by rw [show (18446744073709551616 : Int) ^ 4 = 65536 ^ 16 from by decide]; exact this.2⟩
      ((conv => whnf); repeat ((first | refine And.intro (rfl : (_ : Nat) = _) ?_ | refine And.intro (rfl : (_ : Bool) = true) ?_ | refine And.intro (Nat.le_of_ble_eq_true rfl) ?_ | refine And.intro ⟨Nat.le_of_ble_eq_true rfl, rfl, rfl⟩ ?_); conv => whnf))
      first | refine CallGoal.pure (hR h (by omega)) ?_ | refine PCallGoal.pure (hR h (by omega)) ?_
      ((conv => whnf); repeat ((first | refine And.intro (rfl : (_ : Nat) = _) ?_ | refine And.intro (rfl : (_ : Bool) = true) ?_ | refine And.intro (Nat.le_of_ble_eq_true rfl) ?_ | refine And.intro ⟨Nat.le_of_ble_eq_true rfl, rfl, rfl⟩ ?_); conv => whnf))
      first | refine CallGoal.pure (rB h32) ?_ | refine PCallGoal.pure (rB h32) ?_
      ((conv => whnf); repeat ((first | refine And.intro (rfl : (_ : Nat) = _) ?_ | refine And.intro (rfl : (_ : Bool) = true) ?_ | refine And.intro (Nat.le_of_ble_eq_true rfl) ?_ | refine And.intro ⟨Nat.le_of_ble_eq_true rfl, rfl, rfl⟩ ?_); conv => whnf))
      first | refine CallGoal.pure (hA (b := 0) h hbv z4) ?_ | refine PCallGoal.pure (hA (b := 0) h hbv z4) ?_
      ((conv => whnf); repeat ((first | refine And.intro (rfl : (_ : Nat) = _) ?_ | refine And.intro (rfl : (_ : Bool) = true) ?_ | refine And.intro (Nat.le_of_ble_eq_true rfl) ?_ | refine And.intro ⟨Nat.le_of_ble_eq_true rfl, rfl, rfl⟩ ?_); conv => whnf))
      refine EqGoal.same (n4 _) (by rw [Int.add_zero]) ?_
      ((conv => whnf); repeat ((first | refine And.intro (rfl : (_ : Nat) = _) ?_ | refine And.intro (rfl : (_ : Bool) = true) ?_ | refine And.intro (Nat.le_of_ble_eq_true rfl) ?_ | refine And.intro ⟨Nat.le_of_ble_eq_true rfl, rfl, rfl⟩ ?_); conv => whnf))
      first | refine CallGoal.pure (n1) ?_ | refine PCallGoal.pure (n1) ?_
      ((conv => whnf); repeat ((first | refine And.intro (rfl : (_ : Nat) = _) ?_ | refine And.intro (rfl : (_ : Bool) = true) ?_ | refine And.intro (Nat.le_of_ble_eq_true rfl) ?_ | refine And.intro ⟨Nat.le_of_ble_eq_true rfl, rfl, rfl⟩ ?_); conv => whnf))
      refine EqGoal.same (a := 0) (b := 0) z4 rfl ?_
      ((conv => whnf); repeat ((first | refine And.intro (rfl : (_ : Nat) = _) ?_ | refine And.intro (rfl : (_ : Bool) = true) ?_ | refine And.intro (Nat.le_of_ble_eq_true rfl) ?_ | refine And.intro ⟨Nat.le_of_ble_eq_true rfl, rfl, rfl⟩ ?_); conv => whnf))
      first | refine CallGoal.pure (n2) ?_ | refine PCallGoal.pure (n2) ?_
      ((conv => whnf); repeat ((first | refine And.intro (rfl : (_ : Nat) = _) ?_ | refine And.intro (rfl : (_ : Bool) = true) ?_ | refine And.intro (Nat.le_of_ble_eq_true rfl) ?_ | refine And.intro ⟨Nat.le_of_ble_eq_true rfl, rfl, rfl⟩ ?_); conv => whnf))
      refine EqGoal.same (a := 0) (b := 0) z4 rfl ?_
      ((conv => whnf); repeat ((first | refine And.intro (rfl : (_ : Nat) = _) ?_ | refine And.intro (rfl : (_ : Bool) = true) ?_ | refine And.intro (Nat.le_of_ble_eq_true rfl) ?_ | refine And.intro ⟨Nat.le_of_ble_eq_true rfl, rfl, rfl⟩ ?_); conv => whnf))
      first | refine CallGoal.pure (n3) ?_ | refine PCallGoal.pure (n3) ?_
      ((conv => whnf); repeat ((first | refine And.intro (rfl : (_ : Nat) = _) ?_ | refine And.intro (rfl : (_ : Bool) = true) ?_ | refine And.intro (Nat.le_of_ble_eq_true rfl) ?_ | refine And.intro ⟨Nat.le_of_ble_eq_true rfl, rfl, rfl⟩ ?_); conv => whnf))
      refine EqGoal.same (a := 0) (b := 0) z4 rfl ?_
      ((conv => whnf); repeat ((first | refine And.intro (rfl : (_ : Nat) = _) ?_ | refine And.intro (rfl : (_ : Bool) = true) ?_ | refine And.intro (Nat.le_of_ble_eq_true rfl) ?_ | refine And.intro ⟨Nat.le_of_ble_eq_true rfl, rfl, rfl⟩ ?_); conv => whnf))
      exact ⟨.inl rfl, .drop ⟨rfl, rfl⟩⟩
    · rw [show (((l.length : Nat) : Int) != 32) = true from by simp; omega]
      ((conv => whnf); repeat ((first | refine And.intro (rfl : (_ : Nat) = _) ?_ | refine And.intro (rfl : (_ : Bool) = true) ?_ | refine And.intro (Nat.le_of_ble_eq_true rfl) ?_ | refine And.intro ⟨Nat.le_of_ble_eq_true rfl, rfl, rfl⟩ ?_); conv => whnf))
      first | refine CallGoal.pure (n1) ?_ | refine PCallGoal.pure (n1) ?_
      ((conv => whnf); repeat ((first | refine And.intro (rfl : (_ : Nat) = _) ?_ | refine And.intro (rfl : (_ : Bool) = true) ?_ | refine And.intro (Nat.le_of_ble_eq_true rfl) ?_ | refine And.intro ⟨Nat.le_of_ble_eq_true rfl, rfl, rfl⟩ ?_); conv => whnf))
      refine EqGoal.same (a := 0) (b := 0) z4 rfl ?_
      ((conv => whnf); repeat ((first | refine And.intro (rfl : (_ : Nat) = _) ?_ | refine And.intro (rfl : (_ : Bool) = true) ?_ | refine And.intro (Nat.le_of_ble_eq_true rfl) ?_ | refine And.intro ⟨Nat.le_of_ble_eq_true rfl, rfl, rfl⟩ ?_); conv => whnf))
      first | refine CallGoal.pure (n2) ?_ | refine PCallGoal.pure (n2) ?_
      ((conv => whnf); repeat ((first | refine And.intro (rfl : (_ : Nat) = _) ?_ | refine And.intro (rfl : (_ : Bool) = true) ?_ | refine And.intro (Nat.le_of_ble_eq_true rfl) ?_ | refine And.intro ⟨Nat.le_of_ble_eq_true rfl, rfl, rfl⟩ ?_); conv => whnf))
      refine EqGoal.same (a := 0) (b := 0) z4 rfl ?_
      ((conv => whnf); repeat ((first | refine And.intro (rfl : (_ : Nat) = _) ?_ | refine And.intro (rfl : (_ : Bool) = true) ?_ | refine And.intro (Nat.le_of_ble_eq_true rfl) ?_ | refine And.intro ⟨Nat.le_of_ble_eq_true rfl, rfl, rfl⟩ ?_); conv => whnf))
      first | refine CallGoal.pure (n3) ?_ | refine PCallGoal.pure (n3) ?_
      ((conv => whnf); repeat ((first | refine And.intro (rfl : (_ : Nat) = _) ?_ | refine And.intro (rfl : (_ : Bool) = true) ?_ | refine And.intro (Nat.le_of_ble_eq_true rfl) ?_ | refine And.intro ⟨Nat.le_of_ble_eq_true rfl, rfl, rfl⟩ ?_); conv => whnf))
      refine EqGoal.same (a := 0) (b := 0) z4 rfl ?_
      ((conv => whnf); repeat ((first | refine And.intro (rfl : (_ : Nat) = _) ?_ | refine And.intro (rfl : (_ : Bool) = true) ?_ | refine And.intro (Nat.le_of_ble_eq_true rfl) ?_ | refine And.intro ⟨Nat.le_of_ble_eq_true rfl, rfl, rfl⟩ ?_); conv => whnf))
      exact ⟨.inl rfl, .drop ⟨rfl, rfl⟩⟩
end Go.Proofs.Yteknjhamekpfjaa
