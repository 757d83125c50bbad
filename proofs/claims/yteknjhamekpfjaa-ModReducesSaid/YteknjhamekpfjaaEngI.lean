/- The engine, part I: operations that make or write memory, and calls. -/
import Derived.Test.YteknjhamekpfjaaEngH
import Derived.Laws.MakeOwn
set_option linter.unusedVariables false
set_option linter.unusedSimpArgs false
namespace Go.Eng
open Go.RowKit

variable {P : Program} {G : Nat → AV}

/-- An operation that may turn the world. -/
def Eff (P : Program) (G : Nat → AV) (k : AK) (o : Oper) : Prop :=
  ∀ N fr st K a w κ (next : Act → World → Prop) (Qc : Exit → Act → World → Prop), FrR N w κ fr a → StR G w κ st → vcK P G k fr st K →
    (∀ x v st' κ' w', K x st' → VR w' κ' x v → StR G w' κ' st' → Stp (own st) w κ w' κ' → Mine (own st) w (own st') → next (a.put o.dst v) w') → o.wp P a w next Qc

theorem wp_of_run {o : Oper} {a : Act} {w w' : World} {v : Value} {next : Act → World → Prop} {Qc : Exit → Act → World → Prop} (h : (execOp a.eval o).run P w = .ok (.value v) w') (hn : next (a.put o.dst v) w') : o.wp P a w next Qc := by
  unfold Oper.wp
  rw [h]
  exact hn
theorem wp_of_skip {o : Oper} {a : Act} {w w' : World} {next : Act → World → Prop} {Qc : Exit → Act → World → Prop} (h : (execOp a.eval o).run P w = .ok .skip w') (hn : next (a.put o.dst undef) w') : o.wp P a w next Qc := by
  unfold Oper.wp
  rw [h]
  exact hn

theorem Calm.eff {k : AK} {o : Oper} (h : Calm P G k o) : Eff P G k o := by
  intro N fr st K a w κ next Qc hf hs hv hn
  obtain ⟨v, x, hK, hvr, hrun⟩ := h N fr st K a w κ hf hs hv
  exact wp_of_run (hrun w rfl) (hn x v st κ w hK hvr hs (.refl _ _ _) (.refl _ _))

theorem insObj_perm (tag b : Nat) (z : List AV) : ∀ st : St, (insObj tag b z st).Perm (.obj tag b z :: st)
  | [] => .refl _
  | s :: r => by
    rw [insObj_cons]
    split
    · exact .refl _
    · exact ((insObj_perm tag b z r).cons _).trans (.swap _ _ _)
theorem own_perm {st st' : St} (h : st'.Perm st) : (own st').Perm (own st) := h.filterMap _
theorem StR.perm {w : World} {κ : Im} {st st' : St} (h : st'.Perm st) (k : StR G w κ st) : StR G w κ st' :=
  ⟨k.glob, fun s hm => k.seg s (h.subset hm), (own_perm h).nodup_iff.2 k.nodup, k.lt⟩
theorem Mine.perm {S : List Nat} {w : World} {st st' : St} (h : st'.Perm st) (k : Mine S w (own st)) : Mine S w (own st') := fun b hb => k b ((own_perm h).subset hb)

theorem eff_alloc {o : Oper} {t : TypeId} {tag : Nat} {z : List AV} (ho : o.op = .alloc t) (hz : zeroT P t = some z) : Eff P G (.alloc tag z) o := by
  intro N fr st K a w κ next Qc hf hs hv hn
  obtain ⟨zv, hzr, hzc, _⟩ := zero_ok hz w κ
  obtain ⟨κ', h1, h2, h3⟩ := alloc_obj (.refl w) hs t (0, 0) (fun o _ => by simp) hzc tag
  refine wp_of_run (w' := w.alloc (.cells zv.cells t)) (v := .pointer (some ⟨w.heap.size, 0, none⟩)) ?_ (hn _ _ _ κ' _ (hv w.heap.size) (.optr tag _ _) (h1.perm (insObj_perm _ _ _ _)) h2 (h3.perm (insObj_perm _ _ _ _)))
  simp [execOp, ho, Instr.alloc, hzr, newVar, newRow]

theorem eff_box {o : Oper} {t : TypeId} {im : Bool} {tag n : Nat} {x : Operand} {x' : Y} (ix : Is G x' x) (ho : o.op = .box t x) : Eff P G (.box im tag n x') o := by
  intro N fr st K a w κ next Qc hf hs hv hn
  obtain ⟨y, hy, hfit, hv⟩ := withAV_elim hv
  have hc := vr_cells (at_of hf hs ix hy) hfit
  have hrun : (execOp a.eval o).run P w = .ok (.value (.pointer (some ⟨w.heap.size, 0, none⟩))) (w.alloc (.cells (a.eval x).cells t)) := by
    simp [execOp, ho, Instr.box, newVar, newRow]
  cases im with
  | true =>
    obtain ⟨κ', h1, h2, h3⟩ := alloc_im (.refl w) hs (c := (a.eval x).cells) t (0, 0) (fun o _ => by simp)
    refine wp_of_run hrun (hn _ _ _ κ' _ hv ?_ h1 h2 (.refl _ _))
    have hlt : ∀ j x', y.cells[j]? = some x' → ∃ hj : j < (a.eval x).cells.size, VR w κ x' ((a.eval x).cells[j]'hj) := fun j x' hx => by
      have hj : j < (a.eval x).cells.size := by rw [← hc.len]; exact (List.getElem?_eq_some_iff.1 hx).1
      exact ⟨hj, hc.vr _ _ _ hx (Array.getElem?_eq_getElem hj)⟩
    refine .ptr _ _ (fun j => (a.eval x).cells.getD j undef) (fun j x' hx => ?_) (fun j x' hx => ?_)
    all_goals
      obtain ⟨hj, hvj⟩ := hlt j x' hx
      have hg : (a.eval x).cells.getD j undef = (a.eval x).cells[j] := by simp [Array.getD, hj]
    · rw [hg]; exact ⟨(h3 j hj).1, (h3 j hj).2, hc.one _ (Array.getElem_mem ..)⟩
    · rw [hg]; exact hvj.mono h2.ext
  | false =>
    obtain ⟨κ', h1, h2, h3⟩ := alloc_obj (.refl w) hs t (0, 0) (fun o _ => by simp) hc tag
    exact wp_of_run hrun (hn _ _ _ κ' _ (hv w.heap.size) (.optr tag _ _) h1 h2 h3)

/-- n times the zero value's cells. -/
theorem zeros_ok {w : World} {κ : Im} {z : List AV} {zc : Array Value} (h : VRc w κ z zc) (n : Nat) : VRc w κ (List.replicate n z).flatten (((Array.range (n * zc.size)).map fun i => zc[i % zc.size]!)) := by
  have hl := h.len
  have hlen : (List.replicate n z).flatten.length = n * zc.size := by
    rw [flat_len (sz := zc.size) (fun el he => by rw [List.eq_of_mem_replicate he, hl])]; simp
  have hmod : ∀ k, k < n * zc.size → k % zc.size < zc.size := fun k hk => Nat.mod_lt _ (by rcases Nat.eq_zero_or_pos zc.size with q | q; simp [q] at hk; exact q)
  refine ⟨by simp [hlen], fun c hc => ?_, fun k x c hx hc => ?_⟩
  · simp at hc
    obtain ⟨k, hk, rfl⟩ := hc
    have := hmod k hk
    simp [getElem!_def, Array.getElem?_eq_getElem this]
    exact h.one _ (Array.getElem_mem ..)
  · have hk : k < n * zc.size := by rw [← hlen]; exact (List.getElem?_eq_some_iff.1 hx).1
    have hm := hmod k hk
    obtain ⟨i, j, el, rfl, h1, h2⟩ := flat_split (sz := zc.size) (fun el he => by rw [List.eq_of_mem_replicate he, hl]) hx
    have hel : el = z := List.eq_of_mem_replicate (List.mem_of_getElem? h1)
    subst hel
    have hj : j < zc.size := by rw [← hl]; exact (List.getElem?_eq_some_iff.1 h2).1
    have e2 : (i * zc.size + j) % zc.size = j := by rw [Nat.mul_comm, Nat.mul_add_mod, Nat.mod_eq_of_lt hj]
    have hc' : zc[j]! = c := by
      simp [Array.getElem?_map, Array.getElem?_range, hk] at hc
      rw [Nat.mod_eq_of_lt hj] at hc
      exact hc
    simp [getElem!_def, Array.getElem?_eq_getElem hj] at hc'
    subst hc'
    exact h.vr _ _ _ h2 (Array.getElem?_eq_getElem hj)

theorem chunk_flat {sz : Nat} (hs : 0 < sz) : ∀ {n : Nat} {l : List AV}, l.length = n * sz → (chunk sz n l).flatten = l ∧ (∀ el ∈ chunk sz n l, el.length = sz) ∧ (chunk sz n l).length = n
  | 0, l, h => by simp at h; subst h; simp [chunk]
  | n + 1, l, h => by
    have hd : (l.drop sz).length = n * sz := by simp [h, Nat.add_mul]
    obtain ⟨h1, h2, h3⟩ := chunk_flat hs hd
    refine ⟨by simp [chunk, h1], fun el he => ?_, by simp [chunk, h3]⟩
    rcases List.mem_cons.1 he with rfl | q
    · simp [h, Nat.add_mul]
    · exact h2 el q

theorem fillAV_len : ∀ (ps : List (Nat × AV)) (l : List AV), (∀ p ∈ ps, p.1 + p.2.cells.length ≤ l.length) → (fillAV l ps).length = l.length
  | [], l, _ => rfl
  | (off, x) :: r, l, h => by
    have h0 := h (off, x) (by simp)
    simp at h0
    have e : (l.take off ++ x.cells ++ l.drop (off + x.cells.length)).length = l.length := by simp; omega
    rw [fillAV, fillAV_len r _ (fun p hp => by rw [e]; exact h p (by simp [hp])), e]

theorem eff_bsl {o : Oper} {t e : TypeId} {im : Bool} {tag len : Nat} {parts : Array (Nat × Operand)} {z : List AV} {l : List (Nat × Nat × Y)} (ho : o.op = .buildSlice t len parts) (hu : P.underlying t = some (.slice e))
    (hz : zeroT P e = some z) (hlen : len * P.cellsOf e ≤ 100000) (hzl : z.length = P.cellsOf e) (h0 : P.cellsOf e ≠ 0)
    (hp : partsOf (len * P.cellsOf e) (fun i => some (i * P.cellsOf e, P.cellsOf e, e)) (Y.ofT P G) parts.toList = some l) : Eff P G (.bsl im tag len (P.cellsOf e) z l) o := by
  intro N fr st K a w κ next Qc hf hs hv hn
  obtain ⟨zv, hzr, hzc, i, hi, hzi⟩ := zero_ok hz w κ
  have hzs : zv.cells.size = P.cellsOf e := by rw [← hzc.len, hzl]
  have hzeros := zeros_ok hzc len
  have hflen : (List.replicate len z).flatten.length = len * P.cellsOf e := by
    rw [flat_len (sz := P.cellsOf e) (fun el he => by rw [List.eq_of_mem_replicate he, hzl])]; simp
  simp only [vcK] at hv
  obtain ⟨ps, cs', hK, hfill, hvc, hcs⟩ := lit_fill (P := P) (pl := fun i => some (i * P.cellsOf e, P.cellsOf e)) hf hs hp hv hzeros hflen (fun i off sz t hi => by simp at hi; obtain ⟨rfl, rfl, rfl⟩ := hi; rfl)
  have hmap : (parts.map fun (p : Nat × Operand) => (p.1, a.eval p.2)).toList = parts.toList.map fun (p : Nat × Operand) => (p.1, a.eval p.2) := by simp
  have hrun : (execOp a.eval o).run P w = .ok (.value (.slice (some ⟨w.heap.size, 0, none⟩) len len)) (w.alloc (.cells cs' e)) := by
    have hbig : ¬ (len * P.cellsOf e > 2 ^ 24) := by omega
    have hb2 : ¬ (2 ^ 24 < len * P.cellsOf e) := by omega
    by_cases hzz : len * P.cellsOf e = 0
    · have h1 : len * zv.cells.size = 0 := by rw [hzs]; exact hzz
      rw [h1] at hfill
      have e0 : ∀ f : Nat → Value, (Array.range 0).map f = #[] := fun f => by simp
      rw [e0] at hfill
      have hb3 : ¬ (0 > 2 ^ 24) := by omega
      simp only [execOp, ho, Instr.buildSlice, Sem.run_bind, run_underlying hu, run_sizeOf' hi, Result.andThen_ok, Sem.run_ite, hzz, if_neg hb3, if_true, Sem.run_pure, e0, hmap, hfill, newRow, run_newObj]
      rfl
    · rw [hzs] at hfill
      simp only [execOp, ho, Instr.buildSlice, Sem.run_bind, run_underlying hu, run_sizeOf' hi, Result.andThen_ok, Sem.run_ite, if_neg hbig, if_neg hzz, hzr, Sem.run_pure, hzs, hmap, hfill, newRow, run_newObj]
      rfl
  have hfl : (fillAV (List.replicate len z).flatten ps).length = len * P.cellsOf e := by
    have e1 := hvc.len
    omega
  cases im with
  | true =>
    obtain ⟨κ', h1, h2, h3⟩ := alloc_im (.refl w) hs (c := cs') e (0, 0) (fun o _ => by simp)
    obtain ⟨c1, c2, c3⟩ := chunk_flat (sz := P.cellsOf e) (by omega) hfl
    refine wp_of_run hrun (hn _ _ _ κ' _ hK ?_ h1 h2 (.refl _ _))
    have hF : FlatVR (w.alloc (.cells cs' e)) κ' (P.cellsOf e) (chunk (P.cellsOf e) len (fillAV (List.replicate len z).flatten ps)) cs' := ⟨c2, by rw [c1]; exact hvc.mono h2.ext⟩
    have := VR.sl_mk (app := .full) (a := ⟨w.heap.size, 0, none⟩) (cap := len) hF (by omega) (by simp) (fun _ => c3.symm) (fun b k q => by cases q) h3
    rw [c3] at this
    exact this
  | false =>
    obtain ⟨κ', h1, h2, h3⟩ := alloc_obj (.refl w) hs e (0, 0) (fun o _ => by simp) hvc tag
    exact wp_of_run hrun (hn _ _ _ κ' _ (hK w.heap.size) (.osl tag _ _ _ _ (Nat.le_refl _)) h1 h2 h3)
end Go.Eng
