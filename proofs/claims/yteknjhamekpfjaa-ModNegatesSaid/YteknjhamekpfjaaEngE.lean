/- The engine, part E: more operations that only look: addresses, loads, cuts, parts. -/
import Derived.Test.YteknjhamekpfjaaEngD
set_option linter.unusedVariables false
set_option linter.unusedSimpArgs false
namespace Go.Eng
open Go.RowKit

variable {P : Program} {G : Nat → AV}

theorem sl_inv {w : World} {κ : Im} {app : App} {sz : Nat} {els : List (List AV)} {c : Value} (h : VR w κ (.sl app sz els) c) :
    (app = .nil ∧ els = [] ∧ c = .slice none 0 0) ∨ ∃ (a : Addr) (cap : Nat) (cv : Nat → Nat → Value), app ≠ .nil ∧ c = .slice (some a) els.length cap ∧ els.length ≤ cap ∧ (app = .full → cap = els.length) ∧
      (∀ b k, app = .tok b k → a = ⟨b, 0, none⟩ ∧ cap = k) ∧ (∀ el ∈ els, el.length = sz) ∧
      (∀ i j el x, els[i]? = some el → el[j]? = some x → w.cell? (a.add (i * sz + j)) = some (cv i j) ∧ κ a.block (a.off + (i * sz + j)) ∧ (cv i j).oneCell' = true) ∧
      ∀ i j el x, els[i]? = some el → el[j]? = some x → VR w κ x (cv i j) := by
  cases h with
  | nilsl => exact .inl ⟨rfl, rfl, rfl⟩
  | sl app a c sz els cv hn hc hf ht hz hcell hv => exact .inr ⟨a, c, cv, hn, rfl, hc, hf, ht, hz, hcell, hv⟩
theorem osl_inv {w : World} {κ : Im} {tag b off len : Nat} {c : Value} (h : VR w κ (.osl tag b off len) c) : ∃ cap, c = .slice (some ⟨b, off, none⟩) len cap ∧ len ≤ cap := by cases h with | osl _ _ _ _ c hc => exact ⟨_, rfl, hc⟩
theorem ptr_inv {w : World} {κ : Im} {cells : List AV} {c : Value} (h : VR w κ (.ptr cells) c) : ∃ (a : Addr) (cv : Nat → Value), c = .pointer (some a) ∧
    (∀ j x, cells[j]? = some x → w.cell? (a.add j) = some (cv j) ∧ κ a.block (a.off + j) ∧ (cv j).oneCell' = true) ∧ ∀ j x, cells[j]? = some x → VR w κ x (cv j) := by
  cases h with
  | ptr a cells cv hcell hv => exact ⟨a, cv, rfl, hcell, hv⟩
theorem optr_inv {w : World} {κ : Im} {tag b off : Nat} {c : Value} (h : VR w κ (.optr tag b off) c) : c = .pointer (some ⟨b, off, none⟩) := by cases h; rfl
theorem agg_inv {w : World} {κ : Im} {cells : List AV} {c : Value} (h : VR w κ (.agg cells) c) : ∃ cs : Array Value, c = .agg cs ∧ cells.length = cs.size ∧ (∀ c ∈ cs, c.oneCell' = true) ∧
    ∀ (j : Nat) x c, cells[j]? = some x → cs[j]? = some c → VR w κ x c := by
  cases h with
  | agg cells cs hl h1 hv => exact ⟨cs, rfl, hl, h1, hv⟩
theorem tup_inv {w : World} {κ : Im} {cells : List AV} {c : Value} (h : VR w κ (.tup cells) c) : ∃ cs : Array Value, c = .tuple cs ∧ cells.length = cs.size ∧
    ∀ (j : Nat) x c, cells[j]? = some x → cs[j]? = some c → VR w κ x c := by
  cases h with
  | tup cells cs hl hv => exact ⟨cs, rfl, hl, hv⟩

/-- A pointer into cells that never turn, moved on. -/
theorem VR.ptr_drop {w : World} {κ : Im} {cells : List AV} {a : Addr} {cv : Nat → Value}
    (hcell : ∀ j x, cells[j]? = some x → w.cell? (a.add j) = some (cv j) ∧ κ a.block (a.off + j) ∧ (cv j).oneCell' = true) (hv : ∀ j x, cells[j]? = some x → VR w κ x (cv j)) (n : Nat) :
    VR w κ (.ptr (cells.drop n)) (.pointer (some (a.add n))) := by
  refine .ptr _ _ (fun j => cv (n + j)) (fun j x hx => ?_) (fun j x hx => ?_)
  · rw [List.getElem?_drop] at hx
    obtain ⟨h1, h2, h3⟩ := hcell _ _ hx
    rw [add_add, add_block, add_off, Nat.add_assoc]
    exact ⟨h1, h2, h3⟩
  · rw [List.getElem?_drop] at hx
    exact hv _ _ hx
theorem VR.ptr_el {w : World} {κ : Im} {els : List (List AV)} {a : Addr} {cv : Nat → Nat → Value} {sz : Nat}
    (hcell : ∀ i j el x, els[i]? = some el → el[j]? = some x → w.cell? (a.add (i * sz + j)) = some (cv i j) ∧ κ a.block (a.off + (i * sz + j)) ∧ (cv i j).oneCell' = true)
    (hv : ∀ i j el x, els[i]? = some el → el[j]? = some x → VR w κ x (cv i j)) {i : Nat} (hi : i < els.length) :
    VR w κ (.ptr (els.getD i [])) (.pointer (some (a.add (i * sz)))) := by
  have he := getD_mem_some (d := ([] : List AV)) hi
  refine .ptr _ _ (fun j => cv i j) (fun j x hx => ?_) (fun j x hx => hv i j _ x he hx)
  obtain ⟨h1, h2, h3⟩ := hcell i j _ x he hx
  rw [add_add, add_block, add_off, Nat.add_assoc]
  exact ⟨h1, h2, h3⟩

theorem elem_of {t e : TypeId} (h : P.underlying t = some (.slice e)) : P.elem t = e := by simp [Program.elem, h]
theorem elem_ofA {t e : TypeId} {n : Nat} (h : P.underlying t = some (.array n e)) : P.elem t = e ∧ P.arrayLen t = n := by simp [Program.elem, Program.arrayLen, h]

theorem calm_idxA {o : Oper} {t e : TypeId} {x i : Operand} {x' i' : Y} (ix : Is G x' x) (ii : Is G i' i) (ho : o.op = .indexAddr t x i) (hu : P.underlying t = some (.slice e)) {inf : TypeInfo} (hi : P.info? e = some inf) :
    Calm P G (.idxA (P.cellsOf e) x' i') o := by
  intro N fr st K a w κ hf hs h
  obtain ⟨k, n, hn, h⟩ := withInt_elim h
  have hiv := (at_of hf hs ii hn).int_inv
  have hel := elem_of hu
  simp only [idxAVC] at h
  split at h
  · rename_i app sz' els hx
    obtain ⟨⟨h0, h1, rfl⟩, hK⟩ := h
    rcases sl_inv (at_of hf hs ix hx) with ⟨_, rfl, _⟩ | ⟨ad, cap, cv, _, hA, _, _, _, _, hcell, hv⟩
    · simp at h1; omega
    · refine ⟨_, _, hK, VR.ptr_el hcell hv (by omega), fun w' hw => ?_⟩
      have := run_indexAt_slice (P := P) w' t ad els.length cap k n (by rw [hel]; exact hu)
      simp [execOp, ho, hiv, hA, this, h0, h1, hel, run_sizeOf' hi]
  · rename_i tag b off len hx
    obtain ⟨⟨h0, h1⟩, hK⟩ := h
    obtain ⟨cap, hA, hcap⟩ := osl_inv (at_of hf hs ix hx)
    refine ⟨_, _, hK, .optr tag _ _, fun w' hw => ?_⟩
    have := run_indexAt_slice (P := P) w' t ⟨b, off, none⟩ len cap k n (by rw [hel]; exact hu)
    simp [execOp, ho, hiv, hA, this, h0, h1, hel, run_sizeOf' hi, add_mk]
  · exact h.elim

theorem calm_idxP {o : Oper} {t e : TypeId} {m : Nat} {x i : Operand} {x' i' : Y} (ix : Is G x' x) (ii : Is G i' i) (ho : o.op = .indexAddr t x i) (hu : P.underlying t = some (.array m e)) {inf : TypeInfo} (hi : P.info? e = some inf) :
    Calm P G (.idxP m (P.cellsOf e) x' i') o := by
  intro N fr st K a w κ hf hs h
  obtain ⟨k, n, hn, h⟩ := withInt_elim h
  have hiv := (at_of hf hs ii hn).int_inv
  obtain ⟨hel, hml⟩ := elem_ofA hu
  simp only [idxPVC] at h
  split at h
  · rename_i cells hx
    obtain ⟨⟨h0, h1⟩, hK⟩ := h
    obtain ⟨ad, cv, hA, hcell, hv⟩ := ptr_inv (at_of hf hs ix hx)
    refine ⟨_, _, hK, VR.ptr_drop hcell hv _, fun w' hw => ?_⟩
    have := run_indexAt_array (P := P) w' t ad k n (by rw [hel, hml]; exact hu)
    simp [execOp, ho, hiv, hA, this, h0, h1, hel, hml, run_sizeOf' hi]
  · rename_i tag b off hx
    obtain ⟨⟨h0, h1⟩, hK⟩ := h
    have hA := optr_inv (at_of hf hs ix hx)
    refine ⟨_, _, hK, .optr _ _ _, fun w' hw => ?_⟩
    have := run_indexAt_array (P := P) w' t ⟨b, off, none⟩ k n (by rw [hel, hml]; exact hu)
    simp [execOp, ho, hiv, hA, this, h0, h1, hel, hml, run_sizeOf' hi, add_mk]
  · exact h.elim

theorem calm_idxS {o : Oper} {t : TypeId} {x i : Operand} {x' i' : Y} (ix : Is G x' x) (ii : Is G i' i) (ho : o.op = .index t x i) (hu : P.underlying t = some .string) : Calm P G (.idxS x' i') o := by
  intro N fr st K a w κ hf hs h
  obtain ⟨l, hl, h⟩ := withStr_elim h
  obtain ⟨k, n, hn, h⟩ := withInt_elim h
  obtain ⟨⟨h0, h1⟩, hK⟩ := h
  have hiv := (at_of hf hs ii hn).int_inv
  have hx := (at_of hf hs ix hl).str_inv
  have hlt : n.toNat < l.length := by omega
  have hb : (⟨l.toArray⟩ : ByteArray)[n.toNat]? = some (l.getD n.toNat 0) := by
    have h2 : n.toNat < (⟨l.toArray⟩ : ByteArray).size := by rw [size_mk]; exact hlt
    have : (⟨l.toArray⟩ : ByteArray)[n.toNat]? = some ((⟨l.toArray⟩ : ByteArray)[n.toNat]'h2) := by
      simp [getElem?_def, h2]
    rw [this, List.getD_eq_getElem?_getD, List.getElem?_eq_getElem hlt]; rfl
  exact ⟨_, _, hK, .v _, fun w' hw => by simp [execOp, ho, hiv, hx, Instr.index, asIntOf, run_underlying hu, h0, hb]⟩

/-- A part of an aggregate's cells. -/
theorem run_part {t : TypeId} {w : World} {κ : Im} {cells : List AV} {cs : Array Value} (hl : cells.length = cs.size) (h1 : ∀ c ∈ cs, c.oneCell' = true)
    (hv : ∀ (j : Nat) x c, cells[j]? = some x → cs[j]? = some c → VR w κ x c) {d : TypeDesc} (hd : P.underlying t = some d) {inf : TypeInfo} (hi : P.info? t = some inf) (off : Nat)
    (ho : off + P.cellsOf t ≤ cells.length) (hp : aggT P t = false → P.cellsOf t = 1) :
    ∃ v, VR w κ (partAV (aggT P t) (P.cellsOf t) cells off) v ∧ ∀ w', (part t cs off).run P w' = .ok v w' := by
  unfold partAV
  cases ha : aggT P t with
  | true =>
    refine ⟨.agg (cs.extract off (off + P.cellsOf t)), ?_, fun w' => ?_⟩
    · refine .agg _ _ (by simp; omega) (fun c hc => ?_) (fun j x c hx hc => ?_)
      · obtain ⟨i, hi', rfl⟩ := Array.mem_iff_getElem.1 hc
        rw [Array.getElem_extract]
        exact h1 _ (Array.getElem_mem ..)
      · rw [List.getElem?_take, List.getElem?_drop] at hx
        rw [Array.getElem?_extract] at hc
        split at hx
        · rename_i hj
          split at hc
          · exact hv _ _ _ hx hc
          · cases hc
        · cases hx
    · unfold aggT at ha
      rw [hd] at ha
      cases d <;> simp at ha <;> simp [part, isAgg, run_underlying hd, run_sizeOf' hi]
  | false =>
    have hsz := hp ha
    have hlt : off < cs.size := by omega
    have hlt' : off < cells.length := by omega
    refine ⟨cs[off], ?_, fun w' => ?_⟩
    · have := hv off _ _ (getD_mem_some (d := AV.any) hlt') (Array.getElem?_eq_getElem hlt)
      simpa using this
    · unfold aggT at ha
      rw [hd] at ha
      cases d <;> simp at ha <;> simp [part, isAgg, run_underlying hd, Array.getElem?_eq_getElem hlt]
end Go.Eng
