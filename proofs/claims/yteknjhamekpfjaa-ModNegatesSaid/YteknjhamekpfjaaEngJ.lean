/- The engine, part J: stores, copies, made slices, appends, calls. -/
import Derived.Test.YteknjhamekpfjaaEngI
set_option linter.unusedVariables false
set_option linter.unusedSimpArgs false
namespace Go.Eng
open Go.RowKit

variable {P : Program} {G : Nat → AV}

theorem setCells_heap (b : Nat) (e : TypeId) (fz : Nat × Nat) : ∀ (vs : List Value) (o : Nat) (w : World) (c : Array Value), w.heap[b]? = some (.cells c e fz) →
    ∃ c' : Array Value, (w.setCells b o vs).heap[b]? = some (.cells c' e fz) ∧ c'.size = c.size ∧ (∀ i, c'[i]? = if o ≤ i ∧ i < o + vs.length ∧ i < c.size then vs[i - o]? else c[i]?) ∧
      (∀ k, k ≠ b → (w.setCells b o vs).heap[k]? = w.heap[k]?) ∧ (w.setCells b o vs).heap.size = w.heap.size ∧ (w.setCells b o vs).os = w.os ∧ (w.setCells b o vs).tape = w.tape ∧ (w.setCells b o vs).output = w.output
  | [], o, w, c, h => ⟨c, h, rfl, fun i => by rw [if_neg (by simp; omega)], fun _ _ => rfl, rfl, rfl, rfl, rfl⟩
  | v :: r, o, w, c, h => by
    have h1 : (w.setCell ⟨b, o, none⟩ v).heap[b]? = some (.cells (c.setIfInBounds o v) e fz) := by
      simp [World.setCell, Array.getElem?_modify, h]
    obtain ⟨c', g1, g2, g3, g4, g5, g6, g7, g8⟩ := setCells_heap b e fz r (o + 1) _ _ h1
    refine ⟨c', g1, by simpa using g2, fun i => ?_, fun k hk => (g4 k hk).trans (Below.heap_setCell _ _ _ _ hk), by rw [World.setCells, g5]; simp, by rw [World.setCells, g6]; rfl, by rw [World.setCells, g7]; rfl, by rw [World.setCells, g8]; rfl⟩
    rw [g3 i]
    simp only [Array.size_setIfInBounds, List.length_cons]
    by_cases hi : i = o
    · subst hi
      rw [if_neg (by omega)]
      by_cases hs : i < c.size
      · rw [if_pos (by omega)]; simp [Array.getElem?_setIfInBounds, hs]
      · rw [if_neg (by omega)]; simp [Array.getElem?_setIfInBounds, hs] <;> omega
    · rw [Array.getElem?_setIfInBounds_ne (by omega)]
      by_cases hc : o + 1 ≤ i ∧ i < o + 1 + r.length ∧ i < c.size
      · rw [if_pos hc, if_pos (by omega), show i - o = i - (o + 1) + 1 from by omega]; simp
      · rw [if_neg hc, if_neg (by omega)]

/-- A row of cells, some of which are written. -/
theorem run_setCells {w : World} {b : Nat} {c : Array Value} (hr : Row w b c) (o : Nat) (vs : List Value) (hl : o + vs.length ≤ c.size) (h1 : ∀ v ∈ vs, v.oneCell' = true) :
    (storeCells ⟨b, o, none⟩ vs).run P w = .ok () (w.setCells b o vs) ∧
    ∃ c' : Array Value, Row (w.setCells b o vs) b c' ∧ c'.size = c.size ∧ (∀ i, c'[i]? = if o ≤ i ∧ i < o + vs.length ∧ i < c.size then vs[i - o]? else c[i]?) ∧
      (∀ k, k ≠ b → (w.setCells b o vs).heap[k]? = w.heap[k]?) ∧ (w.setCells b o vs).heap.size = w.heap.size ∧ (w.setCells b o vs).os = w.os ∧ (w.setCells b o vs).tape = w.tape ∧ (w.setCells b o vs).output = w.output := by
  obtain ⟨e, fz, hh⟩ := hr.heap
  obtain ⟨c', g1, g2, g3, g4, g5, g6, g7, g8⟩ := setCells_heap b e fz vs o w c hh
  refine ⟨?_, c', ⟨⟨e, fz, g1⟩, fun o' ho' => by rw [World.frozen?_setCells]; exact hr.free o' (by omega)⟩, g2, g3, g4, g5, g6, g7, g8⟩
  exact run_storeCells_cells b o vs 0 w (fun j hj => by rw [hr.cell]; simp; omega) (fun j hj => hr.free _ (by omega)) h1

theorem findObj_split {tag b : Nat} {cells : List AV} (cells' : List AV) : ∀ {st : St}, findObj tag st = some (b, cells) → ∃ l₁ l₂, st = l₁ ++ .obj tag b cells :: l₂ ∧ setObj tag cells' st = l₁ ++ .obj tag b cells' :: l₂
  | [], h => by simp [findObj] at h
  | .row app n sz :: r, h => by
    obtain ⟨l₁, l₂, e1, e2⟩ := findObj_split cells' (st := r) (by simpa [findObj] using h)
    exact ⟨.row app n sz :: l₁, l₂, by rw [e1]; rfl, by simp [setObj_row, e2]⟩
  | .obj t b' c :: r, h => by
    unfold findObj at h
    split at h
    · rename_i e; subst e; cases h; exact ⟨[], r, rfl, by simp [setObj_obj]⟩
    · rename_i e
      obtain ⟨l₁, l₂, e1, e2⟩ := findObj_split cells' (st := r) h
      exact ⟨.obj t b' c :: l₁, l₂, by rw [e1]; rfl, by simp [setObj_obj, e, e2]⟩

theorem own_app (l m : St) : own (l ++ m) = own l ++ own m := by simp [own]
theorem own_cons_obj (t b : Nat) (c : List AV) (r : St) : own (.obj t b c :: r) = b :: own r := by simp [own, Seg.blk]

/-- The world turns at one block of the call's own. -/
theorem StR.turn {w w' : World} {κ : Im} {st : St} (h : StR G w κ st) {tag b : Nat} {cells cells' : List AV} (hf : findObj tag st = some (b, cells)) {c' : Array Value} (hr : Row w' b c') (hc : c'.size = cells'.length)
    (h1 : ∀ u ∈ c', u.oneCell' = true) (hv : ∀ (j : Nat) x u, cells'[j]? = some x → c'[j]? = some u → VR w κ x u)
    (hk : ∀ k, k ≠ b → w'.heap[k]? = w.heap[k]?) (hsz : w'.heap.size = w.heap.size) (ho : w'.os = w.os) (ht : w'.tape = w.tape) (hu : w'.output = w.output) :
    StR G w' κ (setObj tag cells' st) ∧ Stp (own st) w κ w' κ ∧ Mine (own st) w (own (setObj tag cells' st)) := by
  obtain ⟨l₁, l₂, e1, e2⟩ := findObj_split cells' hf
  obtain ⟨c, hrow, _, _, hnk, _⟩ := obj_cells h hf
  have hext : Ext w κ w' κ := ⟨fun _ _ q => q, fun b' o q => cell_heap_at (hk b' (fun e => by subst e; exact hnk o q))⟩
  have hown : own (setObj tag cells' st) = own st := by rw [e2, e1]; simp [own_app, own_cons_obj]
  have hnd := h.nodup
  rw [e1, own_app, own_cons_obj] at hnd
  have hnb : ∀ b' ∈ own l₁ ++ own l₂, b' ≠ b := by
    have := (List.perm_middle (a := b) (l₁ := own l₁) (l₂ := own l₂)).nodup_iff.1 hnd
    intro b' hb' e; subst e
    exact (List.nodup_cons.1 this).1 hb'
  refine ⟨⟨fun g => (h.glob g).mono hext, fun s hs => ?_, by rw [hown]; exact h.nodup, fun b' o q => by rw [hsz]; exact h.lt b' o q⟩, ?_, by rw [hown]; exact .refl _ _⟩
  · rw [e2] at hs
    have hcase : s = .obj tag b cells' ∨ s ∈ l₁ ∨ s ∈ l₂ := by
      simp at hs
      rcases hs with q | q | q
      · exact .inr (.inl q)
      · exact .inl q
      · exact .inr (.inr q)
    rcases hcase with rfl | q
    · exact ⟨c', hr, hc, h1, hnk, fun j x u hx hu => (hv j x u hx hu).mono hext⟩
    · have hmem : s ∈ st := by rw [e1]; simp; rcases q with q | q; exact .inl q; exact .inr (.inr q)
      refine (h.seg s hmem).keep hext fun b' hb' => ⟨hk b' (hnb b' ?_), fun o q => q⟩
      rw [← own_app]
      exact List.mem_filterMap.2 ⟨s, by simpa using q, hb'⟩
  · refine ⟨hext, ho, ht, hu, by omega, fun k _ hS => hk k fun e => hS ?_, fun b' o q _ _ => q⟩
    subst e
    rw [e1, own_app, own_cons_obj]; simp

/-- Writing part of an object. -/
theorem write_obj {w : World} {κ : Im} {st : St} (h : StR G w κ st) {tag b : Nat} {cells : List AV} (hf : findObj tag st = some (b, cells)) {l : List AV} {vs : Array Value} (hl : VRc w κ l vs) (off : Nat) (hb : off + l.length ≤ cells.length) :
    (storeCells ⟨b, off, none⟩ vs.toList).run P w = .ok () (w.setCells b off vs.toList) ∧ StR G (w.setCells b off vs.toList) κ (setObj tag (cells.take off ++ l ++ cells.drop (off + l.length)) st) ∧
      Stp (own st) w κ (w.setCells b off vs.toList) κ ∧ Mine (own st) w (own (setObj tag (cells.take off ++ l ++ cells.drop (off + l.length)) st)) := by
  obtain ⟨c, hrow, hsz, hone, hnk, hv⟩ := obj_cells h hf
  have e1 := hl.len
  obtain ⟨hrun, c', g0, g1, g2, g3, g4, g5, g6, g7⟩ := run_setCells (P := P) hrow off vs.toList (by simp; omega) (fun v hv => hl.one v (by simpa using hv))
  have hsp := VRc.splice (w := w) (κ := κ) (l := cells) (cs := c) ⟨hsz.symm, hone, hv⟩ hl hb g1 (fun i => by rw [g2 i]; simp)
  obtain ⟨k1, k2, k3⟩ := h.turn hf g0 hsp.len.symm hsp.one hsp.vr g3 g4 g5 g6 g7
  exact ⟨hrun, k1, k2, k3⟩

theorem eff_store {o : Oper} {t : TypeId} {x y : Operand} {x' y' : Y} (ix : Is G x' x) (iy : Is G y' y) (ho : o.op = .store t x y) (hok : okT P t = true) : Eff P G (.store (P.cellsOf t) x' y') o := by
  intro N fr st K a w κ next Qc hf hs hv hn
  simp only [vcK, storeVC] at hv
  split at hv
  · rename_i tag b off hx
    obtain ⟨v, hy, hv⟩ := withAV_elim hv
    obtain ⟨cells, hfo, ⟨h1, h2, h3⟩, hK⟩ := withObj_elim hv
    have hA := optr_inv (at_of hf hs ix hx)
    obtain ⟨inf, d, hi, hd, _⟩ := okT_spec hok
    have hc := vr_cells (at_of hf hs iy hy) h2
    obtain ⟨r1, r2, r3, r4⟩ := write_obj (P := P) hs hfo hc off (by omega)
    rw [← h3] at hK
    refine wp_of_skip (w' := w.setCells b off (a.eval y).cells.toList) ?_ (hn _ undef _ κ _ hK (.any _) r2 r3 r4)
    have hsz : ¬ ((a.eval y).cells.size ≠ P.cellsOf t) := by rw [← hc.len]; omega
    simp only [execOp, ho, hA, Instr.storeAt, Instr.sureAddr, storeVar, Sem.run_bind, Sem.run_pure, Result.andThen_ok, run_sizeOf' hi, Sem.run_ite, if_neg hsz, r1]
  · exact hv.elim

/-- Cells out of what reads as a list; out of an object. -/
theorem flatten_take {α : Type} {sz : Nat} {els : List (List α)} (hz : ∀ el ∈ els, el.length = sz) (n : Nat) : (els.take n).flatten = els.flatten.take (n * sz) := by
  have hl := flat_len hz
  apply List.ext_getElem?
  intro k
  rw [List.getElem?_take]
  split
  · rename_i hk
    by_cases hk2 : k < els.flatten.length
    · obtain ⟨i, j, el, e, h1, h2⟩ := flat_split hz (List.getElem?_eq_getElem hk2)
      have hj : j < sz := by rw [← hz el (List.mem_of_getElem? h1)]; exact (List.getElem?_eq_some_iff.1 h2).1
      have hin : i < n := by
        rcases Nat.lt_or_ge i n with q | q
        · exact q
        · have := Nat.mul_le_mul_right sz q; omega
      rw [List.getElem?_eq_getElem hk2]
      generalize els.flatten[k] = y at h2
      subst e
      exact flat_get (sz := sz) (fun el he => hz el (List.mem_of_mem_take he)) (by rw [List.getElem?_take, if_pos hin]; exact h1) h2
    · have h0 : els.flatten[k]? = none := List.getElem?_eq_none (by omega)
      rw [h0]
      apply List.getElem?_eq_none
      rw [flat_len (sz := sz) (fun el he => hz el (List.mem_of_mem_take he)), List.length_take]
      have : min n els.length * sz ≤ els.length * sz := Nat.mul_le_mul_right _ (Nat.min_le_right _ _)
      omega
  · rename_i hk
    apply List.getElem?_eq_none
    rw [flat_len (sz := sz) (fun el he => hz el (List.mem_of_mem_take he)), List.length_take]
    have : min n els.length * sz ≤ n * sz := Nat.mul_le_mul_right _ (Nat.min_le_left _ _)
    omega
theorem take_flat {w : World} {κ : Im} {sz : Nat} {els : List (List AV)} {C : Array Value} (h : FlatVR w κ sz els C) (n : Nat) : VRc w κ (els.take n).flatten (C.extract 0 (n * sz)) := by
  have hl2 := flatten_take h.sz n
  rw [hl2]
  have e := h.vr.len
  refine ⟨by rw [List.length_take, Array.size_extract]; omega, fun c hc => ?_, fun j x c hx hc => ?_⟩
  · obtain ⟨i, hi', rfl⟩ := Array.mem_iff_getElem.1 hc
    rw [Array.getElem_extract]
    exact h.vr.one _ (Array.getElem_mem ..)
  · rw [List.getElem?_take] at hx
    rw [Array.getElem?_extract] at hc
    split at hx
    · split at hc
      · exact h.vr.vr _ _ _ hx (by simpa using hc)
      · cases hc
    · cases hx

theorem eff_mks {o : Oper} {t e : TypeId} {im : Bool} {tag : Nat} {z : List AV} {i : TypeInfo} {l c : Operand} {l' c' : Y} (il : Is G l' l) (ic : Is G c' c) (ho : o.op = .makeSlice t l c) (hu : P.underlying t = some (.slice e))
    (hi : P.info? e = some i) (hz : zeroT P e = some z) (hzl : z.length = i.size) : Eff P G (.mks im tag i.size i.bytes z l' c') o := by
  intro N fr st K a w κ next Qc hf hs hv hn
  obtain ⟨k1, m, hm, hv⟩ := withInt_elim hv
  obtain ⟨k2, m', hm', hv⟩ := withInt_elim hv
  obtain ⟨⟨h0, rfl, h2, h3⟩, hK⟩ := hv
  have hl := (at_of hf hs il hm).int_inv
  have hc := (at_of hf hs ic hm').int_inv
  obtain ⟨zv, hzr, hzc, i', hi', hzi⟩ := zero_ok hz w κ
  rw [hi] at hi'; cases hi'
  have hzs : zv.cells.size = i.size := by rw [← hzc.len, hzl]
  have hrun : (execOp a.eval o).run P w = .ok (.value (.slice (some ⟨w.heap.size, 0, none⟩) m.toNat m.toNat)) (w.alloc (.cells (madeCells zv.cells (m.toNat * i.size)) e)) := by
    have := run_make (P := P) w t e i zv hu hi hzi k1 k2 m m h0 (by omega) (by rw [Int.mul_comm]; omega) h3
    simp [execOp, ho, hl, hc, this]
  have hzeros : VRc w κ (List.replicate m.toNat z).flatten (madeCells zv.cells (m.toNat * i.size)) := by
    have h := zeros_ok hzc m.toNat
    have e1 : madeCells zv.cells (m.toNat * i.size) = (Array.range (m.toNat * zv.cells.size)).map fun i => zv.cells[i % zv.cells.size]! := by rw [← hzs]; rfl
    rw [e1]; exact h
  have hzs' : ∀ el ∈ List.replicate m.toNat z, el.length = i.size := fun el he => by rw [List.eq_of_mem_replicate he, hzl]
  have hrepl : (List.replicate m.toNat z).length = m.toNat := by simp
  cases im with
  | true =>
    obtain ⟨κ', h1, h2, h3⟩ := alloc_im (.refl w) hs (c := madeCells zv.cells (m.toNat * i.size)) e (0, 0) (fun o _ => by simp)
    refine wp_of_run hrun (hn _ _ _ κ' _ hK ?_ h1 h2 (.refl _ _))
    have hF : FlatVR (w.alloc (.cells (madeCells zv.cells (m.toNat * i.size)) e)) κ' i.size (List.replicate m.toNat z) (madeCells zv.cells (m.toNat * i.size)) :=
      ⟨hzs', hzeros.mono h2.ext⟩
    have := VR.sl_mk (app := .full) (a := ⟨w.heap.size, 0, none⟩) (cap := m.toNat) hF (by rw [hrepl]; exact Nat.le_refl _) (by simp) (fun _ => hrepl.symm) (fun b k q => by cases q) h3
    rw [hrepl] at this
    exact this
  | false =>
    obtain ⟨κ', h1, h2, h3⟩ := alloc_obj (.refl w) hs (c := madeCells zv.cells (m.toNat * i.size)) e (0, 0) (fun o _ => by simp) hzeros tag
    exact wp_of_run hrun (hn _ _ _ κ' _ (hK w.heap.size) (.osl tag _ _ _ _ (Nat.le_refl _)) h1 h2 h3)

theorem bytes_flat (w : World) (κ : Im) (l : List UInt8) : FlatVR w κ 1 (l.map b8) (l.map fun b => Value.int .u8 (b.toNat : Int)).toArray := by
  have hfl : (l.map b8).flatten = l.map fun b => AV.int .u8 (b.toNat : Int) := by
    induction l with
    | nil => rfl
    | cons c r ih => simp [b8, ih]
  refine ⟨fun el he => by simp at he; obtain ⟨c, _, rfl⟩ := he; rfl, by rw [hfl]; simp, fun c hc => by simp at hc; obtain ⟨b, _, rfl⟩ := hc; rfl, fun j x c hx hc => ?_⟩
  rw [hfl] at hx
  simp at hx hc
  obtain ⟨b, h1, rfl⟩ := hx
  obtain ⟨b', h2, rfl⟩ := hc
  rw [h1] at h2; cases h2
  exact .v _

theorem eff_s2b {o : Oper} {s d e : TypeId} {im : Bool} {x : Operand} {x' : Y} (ix : Is G x' x) (ho : o.op = .convert s d x) (h1 : P.underlying s = some .string) (h2 : P.underlying d = some (.slice e)) (h3 : P.underlying e = some (.int .u8)) :
    Eff P G (.s2b im x') o := by
  intro N fr st K a w κ next Qc hf hs hv hn
  obtain ⟨l, hx, hv⟩ := withStr_elim hv
  have hA := (at_of hf hs ix hx).str_inv
  let cap := (Question.appendCap l.length 0 e).cut (w.tape w.drawn (.appendCap l.length 0 e))
  have hcap : l.length ≤ cap := by show l.length ≤ l.length + _; omega
  let C : Array Value := (l.map fun b => Value.int .u8 (b.toNat : Int)).toArray ++ Array.replicate (cap - l.length) (.int .u8 0)
  have hC : C.size = cap := by simp [C]; omega
  have hrun : (execOp a.eval o).run P w = .ok (.value (.slice (some ⟨w.heap.size, 0, none⟩) l.length cap)) (w.drew.alloc (.cells C e (cap, cap + 1))) := by
    have hsz : (⟨l.toArray⟩ : ByteArray).size = l.length := size_mk l
    have a0 : w.drew.heap.size = w.heap.size := rfl
    have a1 := heap_new w.drew (.cells C e)
    have a2 := heap_new w.drew (.cells C e (cap, cap + 1))
    rw [a0] at a1 a2
    have hfrz : (w.drew.alloc (.cells C e)).freeze ⟨w.heap.size, cap, none⟩ 1 = w.drew.alloc (.cells C e (cap, cap + 1)) := by
      have hh : ((w.drew.alloc (.cells C e)).freeze ⟨w.heap.size, cap, none⟩ 1).heap = (w.drew.alloc (.cells C e (cap, cap + 1))).heap := by
        apply Array.ext_getElem?
        intro k
        unfold World.freeze
        simp only [Nat.one_ne_zero, if_false]
        rw [Array.getElem?_modify]
        by_cases hk : w.heap.size = k
        · subst hk
          rw [if_pos rfl, a1, a2]
          rfl
        · rw [if_neg hk]
          show (w.drew.heap.push _)[k]? = (w.drew.heap.push _)[k]?
          rw [Array.getElem?_push, Array.getElem?_push, if_neg (by rw [a0]; omega), if_neg (by rw [a0]; omega)]
      unfold World.freeze at hh ⊢
      simp only [Nat.one_ne_zero, if_false] at hh ⊢
      rw [hh]
      rfl
    have hsh : (w.drew.alloc (.cells C e)).shape? w.heap.size = some (e, cap) := by
      unfold World.shape?
      rw [a1]
      simp [hC]
    have hCe : (Array.map (fun b : UInt8 => Value.int .u8 (b.toNat : Int)) l.toArray) ++ Array.replicate (cap - l.length) (Value.int .u8 0) = C := by
      simp [C]
    have hst : (Conv.stringToBytes e ⟨l.toArray⟩).run P w = .ok (.slice (some ⟨w.heap.size, 0, none⟩) l.length cap) (w.drew.alloc (.cells C e (cap, cap + 1))) := by
      have hm : (markStringish ⟨w.heap.size, 0, none⟩).run P (w.drew.alloc (.cells C e)) = .ok () (w.drew.alloc (.cells C e (cap, cap + 1))) := by
        simp only [markStringish, Sem.run_bind, run_shape, Result.andThen_ok, hsh, run_freeze, hfrz]
      have hc : (choose (.appendCap l.length 0 e)).run P w = .ok cap w.drew := by
        simp only [run_choose, Question.forced, Bool.false_eq_true, if_false]; rfl
      have hnr : (newRow e C).run P w.drew = .ok ⟨w.heap.size, 0, none⟩ (w.drew.alloc (.cells C e)) := by
        simp [newRow]; rfl
      simp only [Conv.stringToBytes, Sem.run_bind, hsz, hc, Result.andThen_ok, hCe, hnr, hm, Sem.run_pure]
    simp only [execOp, ho, hA, convert, Sem.run_bind, run_underlying h1, run_underlying h2, run_underlying h3, Result.andThen_ok, hst, Sem.run_pure]
  have hfz : ∀ o, o < C.size → ¬ ((cap, cap + 1).1 ≤ o ∧ o < (cap, cap + 1).2) := fun o ho => by simp; omega
  have hF := bytes_flat w κ l
  have hsub : ∀ k, k < (l.map fun b => Value.int .u8 (b.toNat : Int)).toArray.size → C[k]? = (l.map fun b => Value.int .u8 (b.toNat : Int)).toArray[k]? := fun k hk => by
    show ((l.map fun b => Value.int .u8 (b.toNat : Int)).toArray ++ _)[k]? = _
    rw [Array.getElem?_append_left hk]
  have hlen : (l.map b8).length = l.length := by simp
  cases im with
  | true =>
    obtain ⟨κ', g1, g2, g3⟩ := alloc_im (.drew w) hs e (cap, cap + 1) hfz
    refine wp_of_run hrun (hn _ _ _ κ' _ hv ?_ g1 g2 (.refl _ _))
    have := VR.sl_mk (app := .no) (a := ⟨w.heap.size, 0, none⟩) (cap := cap) (hF.mono g2.ext) (by omega) (by simp) (by simp) (by simp) (fun k hk => by
      have hk' : k < C.size := by rw [hC]; simp at hk; omega
      obtain ⟨q1, q2⟩ := g3 k hk'
      have e1 := hsub k hk
      rw [Array.getElem?_eq_getElem hk', Array.getElem?_eq_getElem hk] at e1
      rw [q1]
      exact ⟨e1, q2⟩)
    rw [hlen] at this
    exact this
  | false =>
    obtain ⟨κ', g1, g2, g3, g4⟩ := alloc_row (.drew w) hs (l₁ := []) (l₂ := st) ⟨[], rfl⟩ e (cap, cap + 1) hfz (n := l.length) (sz := 1) (by rw [hC]; omega) hcap
    refine wp_of_run hrun (hn _ _ _ κ' _ (hv w.heap.size cap) ?_ g1 g2 g3)
    have := VR.sl_mk (app := .tok w.heap.size cap) (a := ⟨w.heap.size, 0, none⟩) (cap := cap) (hF.mono g2.ext) (by omega) (by simp) (by simp) (fun b k q => by cases q; exact ⟨rfl, rfl⟩) (fun k hk => by
      obtain ⟨q1, q2⟩ := g4 k (by simp at hk; omega)
      rw [q1, hsub k hk, Array.getElem?_eq_getElem hk]
      exact ⟨rfl, q2⟩)
    rw [hlen] at this
    exact this
end Go.Eng
