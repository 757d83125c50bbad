/- The engine, part T: opening a law's arguments that are arrays of numbers. -/
import Derived.Test.YteknjhamekpfjaaEngS
import Derived.Test.YteknjhamekpfjaaNumB
import Derived.OpenShut
set_option linter.unusedVariables false
set_option linter.unusedSimpArgs false
namespace Go.Eng
open Go.RowKit Go.Num Go.ChangeShapes Go.WideShapes Go.ChangeAt

/-- Cells that are whole numbers of one kind. -/
def IntsC (q : IntKind) (n : Nat) (cs : List Value) : Prop := ∃ l : List Int, l.length = n ∧ cs = l.map (Value.int q) ∧ ∀ y ∈ l, q.min ≤ y ∧ y ≤ q.max
theorem IntsC.rep {q : IntKind} {k : Nat} : ∀ (n : Nat) (cs : List Value), cs.length = n * k → (∀ i, i < n → IntsC q k ((cs.drop (i * k)).take k)) → IntsC q (n * k) cs
  | 0, cs, hl, _ => by
    have : cs = [] := by simpa using hl
    exact ⟨[], by simp, by simp [this], by simp⟩
  | n + 1, cs, hl, h => by
    obtain ⟨l, h1, h2, h3⟩ := h 0 (by omega)
    rw [Nat.succ_mul] at hl
    obtain ⟨m, k1, k2, k3⟩ := IntsC.rep (q := q) (k := k) n (cs.drop k) (by simp; omega) fun i hi => by
      have := h (i + 1) (by omega)
      rwa [Nat.succ_mul, Nat.add_comm, ← List.drop_drop] at this
    simp only [Nat.zero_mul, List.drop_zero] at h2
    refine ⟨l ++ m, by rw [List.length_append, h1, k1, Nat.succ_mul]; omega, ?_, fun y hy => ?_⟩
    · rw [List.map_append, ← h2, ← k2, List.take_append_drop]
    · rcases List.mem_append.1 hy with q | q
      · exact h3 y q
      · exact k3 y q
/-- A type all of whose cells are whole numbers of one kind. -/
def IntsT (P : Program) (q : IntKind) (n : Nat) (t : TypeId) : Prop :=
  P.cellsOf t = n ∧ ∀ (H : Type) (enc : TypeId × Value → H) (W : World) (fuel : Nat) (cs : List Value) (x : DataW H × List MemPlace), DataW.trod enc P W 0 (fun _ => true) true fuel t cs = some x → IntsC q n cs
theorem IntsT.int {P : Program} {q : IntKind} {t : TypeId} (ht : P.underlying t = some (.int q)) (hc : P.cellsOf t = 1) : IntsT P q 1 t := ⟨hc, fun H enc W fuel cs x h => by
  obtain ⟨n, rfl, _, hw⟩ := DataW.trod_int ht h
  exact ⟨[n], rfl, rfl, by simpa [Lit.wf] using hw⟩⟩
theorem IntsT.array {P : Program} {q : IntKind} {n k : Nat} {t e : TypeId} (ht : P.underlying t = some (.array n e)) (he : IntsT P q k e) (hc : P.cellsOf t = n * k) : IntsT P q (n * k) t := ⟨hc, fun H enc W fuel cs x h => by
  obtain ⟨xs, m, _, _, hl, hn, hi⟩ := DataW.trod_array ht h
  refine IntsC.rep n cs (hl.trans hc) fun i hlt => ?_
  have := hi i hlt
  rw [he.1] at this
  obtain ⟨y, hy⟩ : ∃ y, xs[i]? = some y := ⟨_, List.getElem?_eq_getElem (by omega)⟩
  rw [hy] at this
  exact he.2 H enc W m _ y this⟩
theorem open_array {H : Type} {enc : TypeId × Value → H} {P : Program} {W : World} {t e : TypeId} {q : IntKind} {m n : Nat} {v : Value} {d : DataW H} {ps : List MemPlace} {b0 : Nat} (ht : P.underlying t = some (.array m e)) (hi : IntsT P q n t)
    (hval : Value.okWide P W .any b0 t v) (h : DataW.Trod enc P W 0 (fun _ => true) true t v d ps) :
    ∃ l : List Int, l.length = n ∧ (∀ y ∈ l, q.min ≤ y ∧ y ≤ q.max) ∧ VR W (allIm W) (.agg (l.map fun y => .int q y)) v := by
  obtain ⟨fuel, hf⟩ := h
  simp only [Value.okWide, ht] at hval
  obtain ⟨cs, rfl, hsz, _⟩ := hval
  obtain ⟨l, h1, h2, h3⟩ := hi.2 H enc W fuel _ _ hf
  simp only [Value.cells] at h2
  have hcs : cs = (l.map (Value.int q)).toArray := by rw [← h2]
  subst hcs
  refine ⟨l, h1, h3, .agg _ _ (by simp) (fun c hc => ?_) fun j x c hx hc => ?_⟩
  · obtain ⟨y, _, rfl⟩ := List.mem_map.1 (by simpa using hc); rfl
  · simp only [List.getElem?_map, List.getElem?_toArray, Option.map_eq_some_iff] at hx hc
    obtain ⟨y, e1, rfl⟩ := hx
    obtain ⟨z, e2, rfl⟩ := hc
    rw [e1] at e2; cases e2
    exact .v _
theorem u64_range {y : Int} (h : IntKind.u64.min ≤ y ∧ y ≤ IntKind.u64.max) : W1 y := by
  simp [IntKind.min, IntKind.max, IntKind.signed, IntKind.bits] at h; omega
theorem num_of {l : List Int} (h : l.length = 4) (hw : Wd l) : N4 (val l) ∧ ws l = ws (dig 4 (val l)) := by
  have := val_lt hw
  rw [h] at this
  exact ⟨this, by rw [dig_of hw h rfl]⟩
theorem open_num {H : Type} {enc : TypeId × Value → H} {P : Program} {W : World} {t e : TypeId} {v : Value} {d : DataW H} {ps : List MemPlace} {b0 : Nat} (ht : P.underlying t = some (.array 4 e)) (hi : IntsT P .u64 4 t)
    (hval : Value.okWide P W .any b0 t v) (h : DataW.Trod enc P W 0 (fun _ => true) true t v d ps) : ∃ n, N4 n ∧ VR W (allIm W) (num n) v := by
  obtain ⟨l, h1, h2, h3⟩ := open_array ht hi hval h
  obtain ⟨h4, h5⟩ := num_of h1 fun y hy => u64_range (h2 y hy)
  refine ⟨val l, h4, ?_⟩
  have : AV.agg (l.map fun y => .int .u64 y) = num (val l) := congrArg AV.agg h5
  rw [← this]; exact h3
theorem open_three {H : Type} {enc : TypeId × Value → H} {P : Program} {W : World} {t e : TypeId} {v : Value} {d : DataW H} {ps : List MemPlace} {b0 : Nat} (ht : P.underlying t = some (.array 3 e)) (hi : IntsT P .u64 12 t)
    (hval : Value.okWide P W .any b0 t v) (h : DataW.Trod enc P W 0 (fun _ => true) true t v d ps) : ∃ a b c, N4 a ∧ N4 b ∧ N4 c ∧ VR W (allIm W) (.agg (ws (dig 4 a ++ (dig 4 b ++ dig 4 c)))) v := by
  obtain ⟨l, h1, h2, h3⟩ := open_array ht hi hval h
  have hw : Wd l := fun y hy => u64_range (h2 y hy)
  have w1 : Wd (l.take 4) := fun y hy => hw y (List.mem_of_mem_take hy)
  have w2 : Wd ((l.drop 4).take 4) := fun y hy => hw y (List.mem_of_mem_drop (List.mem_of_mem_take hy))
  have w3 : Wd (l.drop 8) := fun y hy => hw y (List.mem_of_mem_drop hy)
  have l1 : (l.take 4).length = 4 := by simp; omega
  have l2 : ((l.drop 4).take 4).length = 4 := by simp; omega
  have l3 : (l.drop 8).length = 4 := by simp; omega
  have v1 := val_lt w1
  have v2 := val_lt w2
  have v3 := val_lt w3
  rw [l1] at v1
  rw [l2] at v2
  rw [l3] at v3
  refine ⟨_, _, _, v1, v2, v3, ?_⟩
  rw [dig_of w1 l1 rfl, dig_of w2 l2 rfl, dig_of w3 l3 rfl]
  have : l.take 4 ++ ((l.drop 4).take 4 ++ l.drop 8) = l := by
    have e : (l.drop 4).take 4 ++ l.drop 8 = l.drop 4 := by
      rw [show l.drop 8 = (l.drop 4).drop 4 from by rw [List.drop_drop], List.take_append_drop]
    rw [e, List.take_append_drop]
  rw [this]; exact h3
theorem open_two {H : Type} {enc : TypeId × Value → H} {P : Program} {W : World} {t e : TypeId} {v : Value} {d : DataW H} {ps : List MemPlace} {b0 : Nat} (ht : P.underlying t = some (.array 2 e)) (hi : IntsT P .u64 2 t)
    (hval : Value.okWide P W .any b0 t v) (h : DataW.Trod enc P W 0 (fun _ => true) true t v d ps) : ∃ x y, W1 x ∧ W1 y ∧ VR W (allIm W) (.agg [u64 x, u64 y]) v := by
  obtain ⟨l, h1, h2, h3⟩ := open_array ht hi hval h
  match l, h1, h2, h3 with
  | [x, y], _, h2, h3 => exact ⟨x, y, u64_range (h2 x (by simp)), u64_range (h2 y (by simp)), h3⟩
theorem open_u64 {H : Type} {enc : TypeId × Value → H} {P : Program} {W : World} {t : TypeId} {v : Value} {d : DataW H} {ps : List MemPlace} {b0 : Nat} (ht : P.underlying t = some (.int .u64))
    (hval : Value.okWide P W .any b0 t v) (h : DataW.Trod enc P W 0 (fun _ => true) true t v d ps) : ∃ n, W1 n ∧ VR W (allIm W) (u64 n) v := by
  obtain ⟨n, h1, rfl⟩ := open_whole ht hval h
  exact ⟨n, u64_range h1, .v _⟩
theorem open_i64 {H : Type} {enc : TypeId × Value → H} {P : Program} {W : World} {t : TypeId} {v : Value} {d : DataW H} {ps : List MemPlace} {b0 : Nat} (ht : P.underlying t = some (.int .i64))
    (hval : Value.okWide P W .any b0 t v) (h : DataW.Trod enc P W 0 (fun _ => true) true t v d ps) : ∃ n, (-9223372036854775808 ≤ n ∧ n ≤ 9223372036854775807) ∧ VR W (allIm W) (.int .i64 n) v := by
  obtain ⟨n, h1, rfl⟩ := open_whole ht hval h
  refine ⟨n, ?_, .v _⟩
  simp [IntKind.min, IntKind.max, IntKind.signed, IntKind.bits] at h1; omega
theorem open_u8 {H : Type} {enc : TypeId × Value → H} {P : Program} {W : World} {t : TypeId} {v : Value} {d : DataW H} {ps : List MemPlace} {b0 : Nat} (ht : P.underlying t = some (.int .u8))
    (hval : Value.okWide P W .any b0 t v) (h : DataW.Trod enc P W 0 (fun _ => true) true t v d ps) : ∃ c : UInt8, VR W (allIm W) (u8 c) v := by
  obtain ⟨n, h1, rfl⟩ := open_whole ht hval h
  have h' : 0 ≤ n ∧ n < 256 := by simp [IntKind.min, IntKind.max, IntKind.signed, IntKind.bits] at h1; omega
  have e : (((UInt8.ofNat n.toNat).toNat : Nat) : Int) = n := by rw [UInt8.toNat_ofNat']; omega
  exact ⟨UInt8.ofNat n.toNat, by unfold u8; rw [e]; exact .v _⟩
theorem g0_any {G : Nat → AV} (h : ∀ g, G g = .any) (W : World) : ∀ g, VR W (allIm W) (G g) (.pointer (some ⟨g, 0, none⟩)) := fun g => by rw [h]; exact .any _
theorem args_nil {W : World} : ∀ (j : Nat) y c, ([] : List AV)[j]? = some y → (#[] : Array Value)[j]? = some c → VR W (allIm W) y c := fun j y c h1 h2 => by simp at h1
theorem args_one {x : AV} {v : Value} {W : World} (h : VR W (allIm W) x v) : ∀ (j : Nat) y c, [x][j]? = some y → (#[v] : Array Value)[j]? = some c → VR W (allIm W) y c := fun j y c h1 h2 => by
  match j with
  | 0 => simp at h1 h2; subst h1 h2; exact h
  | j + 1 => simp at h1
theorem args_two {x y : AV} {u v : Value} {W : World} (h : VR W (allIm W) x u) (k : VR W (allIm W) y v) : ∀ (j : Nat) z c, [x, y][j]? = some z → (#[u, v] : Array Value)[j]? = some c → VR W (allIm W) z c := fun j z c h1 h2 => by
  match j with
  | 0 => simp at h1 h2; subst h1 h2; exact h
  | 1 => simp at h1 h2; subst h1 h2; exact k
  | j + 2 => simp at h1
theorem args_three {x y z : AV} {u v s : Value} {W : World} (h : VR W (allIm W) x u) (k : VR W (allIm W) y v) (l : VR W (allIm W) z s) : ∀ (j : Nat) z' c, [x, y, z][j]? = some z' → (#[u, v, s] : Array Value)[j]? = some c → VR W (allIm W) z' c := fun j z' c h1 h2 => by
  match j with
  | 0 => simp at h1 h2; subst h1 h2; exact h
  | 1 => simp at h1 h2; subst h1 h2; exact k
  | 2 => simp at h1 h2; subst h1 h2; exact l
  | j + 3 => simp at h1
end Go.Eng
