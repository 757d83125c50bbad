/- The engine, part K: copy, append, calls. -/
import Derived.Test.YteknjhamekpfjaaEngJ
set_option linter.unusedVariables false
set_option linter.unusedSimpArgs false
namespace Go.Eng
open Go.RowKit

variable {P : Program} {G : Nat → AV}

/-- What append and copy take from. -/
structure Src (P : Program) (w : World) (sz m : Nat) (v : Value) (D : Array Value) : Prop where
  len : ∀ w', (Builtin.lenOf v).run P w' = .ok m w'
  cells : ∀ n, n ≤ m → ∀ w' : World, w'.heap = w.heap → (Builtin.firstCells sz n v).run P w' = .ok (D.extract 0 (n * sz)) w'

theorem load_cells {w : World} {a : Addr} {D : Array Value} (h : ∀ k (hk : k < D.size), w.cell? (a.add k) = some D[k]) (n : Nat) (hn : n ≤ D.size) {w' : World} (hw : w'.heap = w.heap) :
    (loadCells a n).run P w' = .ok (D.extract 0 n) w' := by
  have := run_loadCells (P := P) w' a n (fun j => D.getD j undef) (fun j hj => by
    rw [cell_heap hw, h j (by omega)]
    simp [Array.getD, show j < D.size by omega])
  rw [this]
  congr 1
  apply Array.ext'
  apply List.ext_getElem?
  intro i
  simp
  by_cases hi : i < n
  · rw [List.getElem?_range hi]
    simp [List.getElem?_take, hi]
    rw [Array.getElem?_eq_getElem (by omega)]; rfl
  · rw [List.getElem?_eq_none (by simpa using hi)]
    simp [List.getElem?_take, hi]

theorem Src.sl {w : World} {κ : Im} {app : App} {sz : Nat} {els : List (List AV)} {v : Value} (h : VR w κ (.sl app sz els) v) : ∃ D, FlatVR w κ sz els D ∧ Src P w sz els.length v D := by
  rcases sl_flat h with ⟨_, rfl, rfl⟩ | ⟨a, cap, C, _, rfl, _, _, _, hF, hm⟩
  · refine ⟨#[], .nil _ _ _, fun w' => by simp [Builtin.lenOf], fun n hn w' hw => ?_⟩
    have : n = 0 := by simpa using hn
    subst this
    simp [Builtin.firstCells]
  · refine ⟨C, hF, fun w' => by simp [Builtin.lenOf], fun n hn w' hw => ?_⟩
    have hle : n * sz ≤ C.size := by rw [hF.size]; exact Nat.mul_le_mul_right _ hn
    simp only [Builtin.firstCells]
    exact load_cells (fun k hk => (hm k hk).1) _ hle hw

theorem Src.str (w : World) (κ : Im) (l : List UInt8) : ∃ D, FlatVR w κ 1 (l.map b8) D ∧ (∀ w', (Builtin.lenOf (.string ⟨l.toArray⟩)).run P w' = .ok l.length w') ∧
    ∀ w' : World, (Builtin.firstCells 1 l.length (.string ⟨l.toArray⟩)).run P w' = .ok (D.extract 0 (l.length * 1)) w' := by
  refine ⟨_, bytes_flat w κ l, fun w' => by simp [Builtin.lenOf, size_mk], fun w' => ?_⟩
  have e : ((⟨l.toArray⟩ : ByteArray).extract 0 l.length).data = l.toArray := by simp [ByteArray.data_extract]
  simp only [Builtin.firstCells, Sem.run_pure, e]
  congr 1
  apply Array.ext'
  simp [List.take_of_length_le]

theorem Src.osl {w : World} {κ : Im} {st : St} (hs : StR G w κ st) {tag b off len sz : Nat} {cells : List AV} (hfo : findObj tag st = some (b, cells)) (hl : off + len * sz ≤ cells.length) {v : Value} (h : VR w κ (.osl tag b off len) v) :
    ∃ D, VRc w κ ((cells.drop off).take (len * sz)) D ∧ Src P w sz len v D := by
  obtain ⟨c, hrow, hsz, hone, _, hv⟩ := obj_cells hs hfo
  obtain ⟨cap, rfl, _⟩ := osl_inv h
  have hD := VRc.part (w := w) (κ := κ) ⟨hsz.symm, hone, hv⟩ off (len * sz) hl
  refine ⟨_, hD, fun w' => by simp [Builtin.lenOf], fun n hn w' hw => ?_⟩
  have hle : n * sz ≤ len * sz := Nat.mul_le_mul_right _ hn
  have e := hD.len
  have es : ((cells.drop off).take (len * sz)).length = len * sz := by simp; omega
  simp only [Builtin.firstCells]
  refine load_cells (w := w) (fun k hk => ?_) _ (by omega) hw
  rw [add_mk, hrow.cell]
  rw [Array.getElem_extract]
  exact Array.getElem?_eq_getElem _

theorem extract_vrc {w : World} {κ : Im} {l : List AV} {D : Array Value} (h : VRc w κ l D) (n : Nat) : VRc w κ (l.take n) (D.extract 0 n) := by
  have e := h.len
  refine ⟨by rw [List.length_take, Array.size_extract]; omega, fun c hc => ?_, fun j x c hx hc => ?_⟩
  · obtain ⟨i, hi', rfl⟩ := Array.mem_iff_getElem.1 hc
    rw [Array.getElem_extract]
    exact h.one _ (Array.getElem_mem ..)
  · rw [List.getElem?_take] at hx
    rw [Array.getElem?_extract] at hc
    split at hx
    · split at hc
      · exact h.vr _ _ _ hx (by simpa using hc)
      · cases hc
    · cases hx

theorem eff_copy {o : Oper} {t u e : TypeId} {x y : Operand} {x' y' : Y} {inf : TypeInfo} (ix : Is G x' x) (iy : Is G y' y) (c : Call) (ho : o.op = .call c) (hc : c.callee = .builtin .copy) (ha : c.args = #[x, y]) (ht : c.argTypes = #[t, u])
    (hu : P.underlying t = some (.slice e)) (hi : P.info? e = some inf) : Eff P G (.copy (P.cellsOf e) x' y') o := by
  intro N fr st K a w κ next Qc hf hs hv hn
  simp only [vcK, copyVC] at hv
  split at hv
  · rename_i tag b off len hx
    obtain ⟨cells, hfo, hle, hv⟩ := withObj_elim hv
    obtain ⟨cap, hA, _⟩ := osl_inv (at_of hf hs ix hx)
    have main : ∀ (l : List AV) (D : Array Value) (m : Nat), VRc w κ l D → Src P w (P.cellsOf e) m (a.eval y) D → l.length = m * P.cellsOf e →
        K (.int .i64 (min m len : Nat)) (setObj tag (cells.take off ++ l.take ((min m len) * P.cellsOf e) ++ cells.drop (off + (min m len) * P.cellsOf e)) st) → o.wp P a w next Qc := by
      intro l D m hl hsrc hlen hK
      have hmul : (min m len) * P.cellsOf e ≤ m * P.cellsOf e := Nat.mul_le_mul_right _ (Nat.min_le_left _ _)
      have hmul2 : (min m len) * P.cellsOf e ≤ len * P.cellsOf e := Nat.mul_le_mul_right _ (Nat.min_le_right _ _)
      have hpart := extract_vrc hl ((min m len) * P.cellsOf e)
      have hplen : (l.take ((min m len) * P.cellsOf e)).length = (min m len) * P.cellsOf e := by rw [List.length_take]; omega
      obtain ⟨r1, r2, r3, r4⟩ := write_obj (P := P) hs hfo hpart off (by omega)
      rw [hplen] at r2 r4
      refine wp_of_run (w' := w.setCells b off (D.extract 0 ((min m len) * P.cellsOf e)).toList) (v := .int .i64 (min m len : Nat)) ?_ (hn _ _ _ κ _ hK (.v _) r2 r3 r4)
      have hmin : Nat.min m len = min m len := rfl
      have hargs : c.args.map a.eval = #[.slice (some ⟨b, off, none⟩) len cap, a.eval y] := by simp [ha, hA]
      have hcp : (Builtin.copy_ c.argTypes o.type (c.args.map a.eval)).run P w = .ok (.int .i64 (min m len : Nat)) (w.setCells b off (D.extract 0 ((min m len) * P.cellsOf e)).toList) := by
        rw [hargs, ht]
        simp only [Builtin.copy_, List.getElem?_toArray, List.getElem?_cons_zero, List.getElem?_cons_succ, Sem.run_bind, run_underlying hu, Result.andThen_ok, hsrc.len, run_sizeOf' hi, hmin, hsrc.cells (min m len) (Nat.min_le_left _ _) w rfl, r1, goInt, Sem.run_pure]
      simp only [run_builtin c a ho hc, builtin, Sem.run_bind, hcp, Result.andThen_ok, Sem.run_pure]
    split at hv
    · rename_i app sz' news hy
      obtain ⟨rfl, hK⟩ := hv
      obtain ⟨D, hF, hsrc⟩ := Src.sl (P := P) (at_of hf hs iy hy)
      refine main news.flatten D news.length hF.vr hsrc (flat_len hF.sz) ?_
      have : news.flatten.take ((min news.length len) * P.cellsOf e) = (news.take len).flatten := by
        rw [flatten_take hF.sz]
        have hl := flat_len hF.sz
        rcases Nat.le_total news.length len with q | q
        · rw [Nat.min_eq_left q, List.take_of_length_le (by omega), List.take_of_length_le]
          have := Nat.mul_le_mul_right (P.cellsOf e) q
          omega
        · rw [Nat.min_eq_right q]
      rw [this]; exact hK
    · rename_i tag' b' off' len' hy
      obtain ⟨cells', hfo', hle', hK⟩ := withObj_elim hv
      obtain ⟨D, hD, hsrc⟩ := Src.osl (P := P) hs hfo' hle' (at_of hf hs iy hy)
      refine main _ D len' hD hsrc (by simp; omega) ?_
      rw [List.take_take]
      have : min ((min len' len) * P.cellsOf e) (len' * P.cellsOf e) = (min len' len) * P.cellsOf e := Nat.min_eq_left (Nat.mul_le_mul_right _ (Nat.min_le_left _ _))
      rw [this]; exact hK
    · exact hv.elim
  · exact hv.elim
end Go.Eng
