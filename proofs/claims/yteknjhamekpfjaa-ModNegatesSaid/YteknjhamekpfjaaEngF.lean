/- The engine, part F: the other operations that only look. -/
import Derived.Test.YteknjhamekpfjaaEngE
import Derived.Laws.Small
import Derived.Laws.BytesString
import Derived.Laws.Externs
set_option linter.unusedVariables false
set_option linter.unusedSimpArgs false
namespace Go.Eng
open Go.RowKit

variable {P : Program} {G : Nat → AV}

theorem okT_spec {t : TypeId} (h : okT P t = true) : ∃ inf d, P.info? t = some inf ∧ P.underlying t = some d ∧ (aggT P t = false → P.cellsOf t = 1) := by
  unfold okT at h
  simp only [Bool.and_eq_true, Bool.or_eq_true, beq_iff_eq, Option.isSome_iff_exists] at h
  obtain ⟨⟨⟨i, hi⟩, d, hd⟩, h⟩ := h
  exact ⟨i, d, hi, hd, fun hf => by rcases h with h | h; simp [hf] at h; exact h⟩

theorem calm_idxG {o : Oper} {t e : TypeId} {m : Nat} {x i : Operand} {x' i' : Y} (ix : Is G x' x) (ii : Is G i' i) (ho : o.op = .index t x i) (hu : P.underlying t = some (.array m e)) (hok : okT P e = true) :
    Calm P G (.idxG m (P.cellsOf e) (aggT P e) x' i') o := by
  intro N fr st K a w κ hf hs h
  obtain ⟨l, hl, h⟩ := withAgg_elim h
  obtain ⟨k, n, hn, h⟩ := withInt_elim h
  obtain ⟨⟨h0, h1, h2⟩, hK⟩ := h
  have hiv := (at_of hf hs ii hn).int_inv
  obtain ⟨cs, hx, hsz, hone, hv⟩ := agg_inv (at_of hf hs ix hl)
  obtain ⟨inf, d, hi, hd, hp⟩ := okT_spec hok
  obtain ⟨v, hvr, hrun⟩ := run_part (P := P) hsz hone hv hd hi (n.toNat * P.cellsOf e) h2 hp
  exact ⟨v, _, hK, hvr, fun w' hw => by simp [execOp, ho, hiv, hx, Instr.index, asIntOf, run_underlying hu, h0, h1, run_sizeOf' hi, hrun]⟩

theorem calm_fld {o : Oper} {t : TypeId} {n : Nat} {f : Field} {fs : Array Field} {x : Operand} {x' : Y} (ix : Is G x' x) (ho : o.op = .field t x n) (hu : P.underlying t = some (.struct fs)) (hf' : fs[n]? = some f) (hok : okT P f.type = true) :
    Calm P G (.fld f.offset (P.cellsOf f.type) (aggT P f.type) x') o := by
  intro N fr st K a w κ hf hs h
  obtain ⟨l, hl, h2, hK⟩ := withAgg_elim h
  obtain ⟨cs, hx, hsz, hone, hv⟩ := agg_inv (at_of hf hs ix hl)
  obtain ⟨inf, d, hi, hd, hp⟩ := okT_spec hok
  obtain ⟨v, hvr, hrun⟩ := run_part (P := P) hsz hone hv hd hi f.offset h2 hp
  exact ⟨v, _, hK, hvr, fun w' hw => by simp [execOp, ho, hx, Instr.field, asAgg, run_underlying hu, hf', hrun]⟩

theorem calm_fldA {o : Oper} {t : TypeId} {n : Nat} {f : Field} {fs : Array Field} {x : Operand} {x' : Y} (ix : Is G x' x) (ho : o.op = .fieldAddr t x n) (hu : P.underlying t = some (.struct fs)) (hf' : fs[n]? = some f)
    (hc : P.cellsOf f.type ≠ 0) : Calm P G (.fldA f.offset x') o := by
  intro N fr st K a w κ hf hs h
  obtain ⟨inf, hi⟩ := info_of_cells hc
  simp only [vcK, fldAVC] at h
  split at h
  · rename_i cells hx
    obtain ⟨ad, cv, hA, hcell, hv⟩ := ptr_inv (at_of hf hs ix hx)
    exact ⟨_, _, h, VR.ptr_drop hcell hv _, fun w' hw => by simp [execOp, ho, hA, Instr.fieldAt, run_underlying hu, hf', Instr.sureAddr, fieldPlace, run_sizeOf' hi, hc]⟩
  · rename_i tag b off hx
    have hA := optr_inv (at_of hf hs ix hx)
    exact ⟨_, _, h, .optr tag _ _, fun w' hw => by simp [execOp, ho, hA, Instr.fieldAt, run_underlying hu, hf', Instr.sureAddr, fieldPlace, run_sizeOf' hi, hc, add_mk]⟩
  · exact h.elim

theorem calm_nck {o : Oper} {x : Operand} {x' : Y} (ix : Is G x' x) (ho : o.op = .nilCheck x) : Calm P G (.nck x') o := by
  intro N fr st K a w κ hf hs h
  simp only [vcK, nckVC] at h
  split at h
  · rename_i cells hx
    have hv := at_of hf hs ix hx
    obtain ⟨ad, cv, hA, _, _⟩ := ptr_inv hv
    exact ⟨_, _, h, hv, fun w' hw => by simp [execOp, ho, hA]⟩
  · rename_i tag b off hx
    have hv := at_of hf hs ix hx
    have hA := optr_inv hv
    exact ⟨_, _, h, hv, fun w' hw => by simp [execOp, ho, hA]⟩
  · exact h.elim

/-- A variable read out of cells. -/
theorem run_loadVar' {t : TypeId} {w : World} {κ : Im} {cells : List AV} {a : Addr} {cv : Nat → Value}
    (hcell : ∀ j x, cells[j]? = some x → w.cell? (a.add j) = some (cv j)) (hone : ∀ j x, cells[j]? = some x → (cv j).oneCell' = true) (hv : ∀ j x, cells[j]? = some x → VR w κ x (cv j))
    (hok : okT P t = true) (hl : P.cellsOf t ≤ cells.length) :
    ∃ v, VR w κ (partAV (aggT P t) (P.cellsOf t) cells 0) v ∧ ∀ w' : World, w'.heap = w.heap → (loadVar t a).run P w' = .ok v w' := by
  obtain ⟨inf, d, hi, hd, hp⟩ := okT_spec hok
  unfold partAV
  cases ha : aggT P t with
  | true =>
    refine ⟨.agg ((List.range (P.cellsOf t)).map cv).toArray, ?_, fun w' hw => ?_⟩
    · refine .agg _ _ (by simp; omega) (fun c hc => ?_) (fun j x c hx hc => ?_)
      · simp at hc
        obtain ⟨j, hj, rfl⟩ := hc
        exact hone j _ (getD_mem_some (d := AV.any) (show j < cells.length by omega))
      · simp at hx hc
        rw [List.getElem?_take] at hx
        split at hx
        · rename_i hj
          obtain ⟨i, hi', rfl⟩ := hc
          rw [List.getElem?_range hj] at hi'
          cases hi'
          exact hv _ _ hx
        · cases hx
    · have hcells := run_loadCells (P := P) w' a (P.cellsOf t) cv (fun j hj => by
        rw [cell_heap hw]
        exact hcell j _ (getD_mem_some (d := AV.any) (show j < cells.length by omega)))
      unfold aggT at ha
      rw [hd] at ha
      cases d <;> simp at ha <;> simp [loadVar, isAgg, run_underlying hd, run_sizeOf' hi, hcells]
  | false =>
    have hsz := hp ha
    have h0 : cells[0]? = some (cells.getD 0 .any) := getD_mem_some (by omega)
    refine ⟨cv 0, ?_, fun w' hw => ?_⟩
    · simpa using hv 0 _ h0
    · have hc := hcell 0 _ h0
      have ha0 : a.add 0 = a := by simp [Addr.add]
      rw [ha0, ← cell_heap hw] at hc
      unfold aggT at ha
      rw [hd] at ha
      cases d <;> simp at ha <;> simp [loadVar, isAgg, run_underlying hd, hc]

/-- An object of the call's own, read. -/
theorem obj_cells {w : World} {κ : Im} {st : St} (hs : StR G w κ st) {tag b : Nat} {cells : List AV} (hf : findObj tag st = some (b, cells)) :
    ∃ c : Array Value, Row w b c ∧ c.size = cells.length ∧ (∀ u ∈ c, u.oneCell' = true) ∧ (∀ o, ¬ κ b o) ∧ ∀ (j : Nat) x u, cells[j]? = some x → c[j]? = some u → VR w κ x u :=
  hs.seg _ (findObj_mem hf)
theorem Row.cell {w : World} {b : Nat} {c : Array Value} (h : Row w b c) (o : Nat) : w.cell? ⟨b, o, none⟩ = c[o]? := by
  obtain ⟨e, fz, hh⟩ := h.heap
  simp [World.cell?, hh]

theorem obj_read {w : World} {κ : Im} {st : St} (hs : StR G w κ st) {tag b : Nat} {cells : List AV} (hf : findObj tag st = some (b, cells)) (off : Nat) :
    ∃ cv : Nat → Value, (∀ j x, (cells.drop off)[j]? = some x → w.cell? ((⟨b, off, none⟩ : Addr).add j) = some (cv j)) ∧ (∀ j x, (cells.drop off)[j]? = some x → (cv j).oneCell' = true) ∧
      ∀ j x, (cells.drop off)[j]? = some x → VR w κ x (cv j) := by
  obtain ⟨c, hrow, hsz, hone, _, hv⟩ := obj_cells hs hf
  refine ⟨fun j => c.getD (off + j) undef, fun j x hx => ?_, fun j x hx => ?_, fun j x hx => ?_⟩ <;> rw [List.getElem?_drop] at hx
  all_goals
    have hlt : off + j < c.size := by rw [hsz]; exact (List.getElem?_eq_some_iff.1 hx).1
    have hg : c.getD (off + j) undef = c[off + j] := by simp [Array.getD, hlt]
  · dsimp only; rw [add_mk, hrow.cell, hg, Array.getElem?_eq_getElem hlt]
  · dsimp only; rw [hg]; exact hone _ (Array.getElem_mem ..)
  · dsimp only; rw [hg]; exact hv _ _ _ hx (Array.getElem?_eq_getElem hlt)

theorem partAV_drop (agg : Bool) (sz : Nat) (cells : List AV) (off : Nat) : partAV agg sz (cells.drop off) 0 = partAV agg sz cells off := by
  unfold partAV
  cases agg <;> simp

theorem calm_load {o : Oper} {t : TypeId} {x : Operand} {x' : Y} (ix : Is G x' x) (ho : o.op = .load t x) (hok : okT P t = true) : Calm P G (.load (P.cellsOf t) (aggT P t) x') o := by
  intro N fr st K a w κ hf hs h
  simp only [vcK, loadVC] at h
  split at h
  · rename_i cells hx
    obtain ⟨hl, hK⟩ := h
    obtain ⟨ad, cv, hA, hcell, hv⟩ := ptr_inv (at_of hf hs ix hx)
    obtain ⟨v, hvr, hrun⟩ := run_loadVar' (P := P) (fun j x hx => (hcell j x hx).1) (fun j x hx => (hcell j x hx).2.2) hv hok hl
    exact ⟨v, _, hK, hvr, fun w' hw => by simp [execOp, ho, hA, Instr.loadAt, Instr.sureAddr, hrun w' hw]⟩
  · rename_i tag b off hx
    obtain ⟨cells, hfo, hl, hK⟩ := withObj_elim h
    have hA := optr_inv (at_of hf hs ix hx)
    obtain ⟨cv, h1, h2, h3⟩ := obj_read hs hfo off
    obtain ⟨v, hvr, hrun⟩ := run_loadVar' (P := P) h1 h2 h3 hok (by simp; omega)
    rw [partAV_drop] at hvr
    exact ⟨v, _, hK, hvr, fun w' hw => by simp [execOp, ho, hA, Instr.loadAt, Instr.sureAddr, hrun w' hw]⟩
  · exact h.elim

theorem calm_ext {o : Oper} {n : Nat} {x : Operand} {x' : Y} (ix : Is G x' x) (ho : o.op = .extract x n) : Calm P G (.ext x' n) o := by
  intro N fr st K a w κ hf hs h
  simp only [vcK] at h
  split at h
  · rename_i vs hx
    obtain ⟨v, hv, hK⟩ := withAV_elim h
    obtain ⟨cs, hA, hl, hvs⟩ := tup_inv (at_of hf hs ix hx)
    have hlt : n < cs.size := by rw [← hl]; exact (List.getElem?_eq_some_iff.1 hv).1
    exact ⟨cs[n], _, hK, hvs n _ _ hv (Array.getElem?_eq_getElem hlt), fun w' hw => by simp [execOp, ho, hA, Instr.extract, Array.getElem?_eq_getElem hlt]⟩
  · exact h.elim

def intEl : List AV → Int
  | [.v (.int _ n)] => n
  | _ => 0
theorem push_fold : ∀ (ns : List Int) (l : List UInt8), ns.foldl (fun (r : ByteArray) n => r.push (UInt8.ofNat n.toNat)) ⟨l.toArray⟩ = ⟨(l ++ ns.map fun n => UInt8.ofNat n.toNat).toArray⟩
  | [], l => by simp
  | n :: r, l => by
    have : (⟨l.toArray⟩ : ByteArray).push (UInt8.ofNat n.toNat) = ⟨(l ++ [UInt8.ofNat n.toNat]).toArray⟩ := by simp [ByteArray.push]
    rw [List.foldl_cons, this, push_fold r]
    simp
theorem byteEl {w : World} {κ : Im} {el : List AV} {c : Value} (h : isByte el = true) (hv : ∀ j x, el[j]? = some x → j = 0 → VR w κ x c) : c = .int .u8 (intEl el) ∧ toByte el = UInt8.ofNat (intEl el).toNat ∧ el.length = 1 := by
  unfold isByte at h
  split at h
  · exact ⟨(hv 0 _ rfl rfl).int_inv, rfl, rfl⟩
  · cases h

theorem calm_b2s {o : Oper} {s d e : TypeId} {x : Operand} {x' : Y} (ix : Is G x' x) (ho : o.op = .convert s d x) (h1 : P.underlying s = some (.slice e)) (h2 : P.underlying d = some .string) (h3 : P.underlying e = some (.int .u8)) :
    Calm P G (.b2s x') o := by
  intro N fr st K a w κ hf hs h
  obtain ⟨app, sz, els, hx, ⟨rfl, hb⟩, hK⟩ := withSl_elim h
  refine ⟨_, _, hK, .str _, fun w' hw => ?_⟩
  rcases sl_inv (at_of hf hs ix hx) with ⟨_, rfl, hA⟩ | ⟨ad, cap, cv, _, hA, _, _, _, hlen, hcell, hv⟩
  · simp [execOp, ho, hA, convert, run_underlying h1, run_underlying h2, run_underlying h3, Conv.bytesToString]
    rfl
  · have hel : ∀ i el, els[i]? = some el → cv i 0 = .int .u8 (intEl el) ∧ toByte el = UInt8.ofNat (intEl el).toNat := fun i el he => by
      have hmem : el ∈ els := List.mem_of_getElem? he
      obtain ⟨h1, h2, _⟩ := byteEl (w := w) (κ := κ) (c := cv i 0) (List.all_eq_true.1 hb _ hmem) (fun j x hx hj => by subst hj; exact hv i 0 el x he hx)
      exact ⟨h1, h2⟩
    have hcells := run_loadCells (P := P) w' ad els.length (fun j => cv j 0) (fun j hj => by
      have he := getD_mem_some (d := ([] : List AV)) hj
      have hmem : els.getD j [] ∈ els := List.mem_of_getElem? he
      have h1 := hlen _ hmem
      rw [cell_heap hw]
      have := (hcell j 0 _ ((els.getD j []).getD 0 .any) he (getD_mem_some (by omega))).1
      simpa using this)
    have hm : ((List.range els.length).map fun j => cv j 0) = (els.map intEl).map (Value.int .u8) := by
      apply List.ext_getElem?
      intro i
      simp only [List.getElem?_map]
      by_cases hi : i < els.length
      · rw [List.getElem?_range hi]
        have he := getD_mem_some (d := ([] : List AV)) hi
        rw [he]
        simp [(hel i _ he).1]
      · rw [List.getElem?_eq_none (by simpa using hi), List.getElem?_eq_none (by omega)]; rfl
    rw [hm] at hcells
    have hr := run_bytesToString w' ad els.length cap _ hcells
    have hfin : (els.map intEl).foldl (fun (r : ByteArray) n => r.push (UInt8.ofNat n.toNat)) ByteArray.empty = ⟨(els.map toByte).toArray⟩ := by
      have := push_fold (els.map intEl) []
      have e0 : (⟨([] : List UInt8).toArray⟩ : ByteArray) = ByteArray.empty := rfl
      rw [e0] at this
      rw [this]
      congr 2
      simp only [List.nil_append, List.map_map]
      apply List.map_congr_left
      intro el hmem
      obtain ⟨i, hi⟩ := List.getElem?_of_mem hmem
      exact (hel i el hi).2.symm
    rw [hfin] at hr
    simp [execOp, ho, hA, convert, run_underlying h1, run_underlying h2, run_underlying h3, hr]

theorem calm_mkfn {o : Oper} {f : FuncId} {first caps : Array Operand} {ys : List Y} (ho : o.op = .makeFunc (.func f) first caps) (hfi : first = #[]) (hl : ys.length = caps.size)
    (hy : ∀ (j : Nat) y c, ys[j]? = some y → caps[j]? = some c → Is G y c) : Calm P G (.mkfn f ys) o := by
  intro N fr st K a w κ hf hs h
  obtain ⟨vs, hvs, hK⟩ := withAVs_elim h
  have key : ∀ (ys : List Y) (vs : List AV), evs fr ys = some vs → vs.length = ys.length ∧ ∀ (j : Nat) x, vs[j]? = some x → ∃ y, ys[j]? = some y ∧ fr.at y = some x := by
    intro ys
    induction ys with
    | nil => intro vs h; simp [evs] at h; subst h; simp
    | cons y r ih =>
      intro vs h
      unfold evs at h
      split at h
      · rename_i x xs hx hxs
        cases h
        obtain ⟨h1, h2⟩ := ih xs hxs
        refine ⟨by simp [h1], fun j z hz => ?_⟩
        cases j with
        | zero => simp at hz; subst hz; exact ⟨y, by simp, hx⟩
        | succ j => simpa using h2 j z (by simpa using hz)
      · cases h
  obtain ⟨h1, h2⟩ := key ys vs hvs
  refine ⟨.func (.func f) #[] (caps.map a.eval), _, hK, .fn _ _ _ (by simp [h1, hl]) (fun j x c hx hc => ?_), fun w' hw => by simp [execOp, ho, hfi, Instr.makeFunc]⟩
  obtain ⟨y, hy1, hy2⟩ := h2 j x hx
  simp at hc
  obtain ⟨cc, hc1, rfl⟩ := hc
  exact at_of hf hs (hy j y cc hy1 hc1) hy2

theorem equalIn_slice_nil (d : Nat) {t e : TypeId} (hu : P.underlying t = some (.slice e)) (A : Option Addr) (n c l c' : Nat) (w : World) :
    (Op.equalIn (d + 1) t (.slice A n c) (.slice none l c')).run P w = .ok A.isNone w := by
  cases A <;> simp [Op.equalIn, run_underlying hu]
theorem equal_slice_nil {t e : TypeId} (hu : P.underlying t = some (.slice e)) (A : Option Addr) (n c l c' : Nat) (w : World) :
    (Op.equal t (.slice A n c) (.slice none l c')).run P w = .ok A.isNone w := equalIn_slice_nil 9999 hu A n c l c' w
theorem equalIn_ptr_nil (d : Nat) {t e : TypeId} (hu : P.underlying t = some (.pointer e)) (A : Option Addr) (w : World) : (Op.equalIn (d + 1) t (.pointer A) (.pointer none)).run P w = .ok A.isNone w := by
  cases A <;> simp [Op.equalIn, run_underlying hu]
theorem equal_ptr_nil {t e : TypeId} (hu : P.underlying t = some (.pointer e)) (A : Option Addr) (w : World) : (Op.equal t (.pointer A) (.pointer none)).run P w = .ok A.isNone w := equalIn_ptr_nil 9999 hu A w
theorem eqGuard_slice (op : BinOp) (t : TypeId) (x y : Operand) (A B : Option Addr) (n c m d : Nat) (w : World) : (eqGuard op t x y (.slice A n c) (.slice B m d)).run P w = .ok () w := by
  unfold eqGuard; cases op <;> simp
theorem eqGuard_ptr (op : BinOp) (t : TypeId) (x y : Operand) (A B : Option Addr) (w : World) : (eqGuard op t x y (.pointer A) (.pointer B)).run P w = .ok () w := by
  unfold eqGuard; cases op <;> simp

theorem calm_isnil_sl {o : Oper} {t e : TypeId} {u : TypeId} {x : Operand} {x' : Y} {neg : Bool} {l c : Nat} (ix : Is G x' x) (ho : o.op = .binOp (if neg then .neq else .eql) t x (.const (.slice none l c)) u)
    (hu : P.underlying t = some (.slice e)) : Calm P G (.isnil neg true x') o := by
  intro N fr st K a w κ hf hs h
  have key : ∀ (A : Option Addr) (n cap : Nat), a.eval x = .slice A n cap → K (.bool (if neg then !A.isNone else A.isNone)) st →
      ∃ v x, K x st ∧ VR w κ x v ∧ ∀ w' : World, w'.heap = w.heap → (execOp a.eval o).run P w' = .ok (.value v) w' := by
    intro A n cap hA hK
    refine ⟨_, _, hK, .v _, fun w' hw => ?_⟩
    have hy : a.eval (.const (.slice none l c)) = .slice none l c := rfl
    cases neg <;> simp [execOp, ho, hA, hy, eqGuard_slice, binOp, equal_slice_nil hu]
  simp only [vcK, isnilVC, isnilS] at h
  split at h
  · rename_i app sz els hx
    rcases sl_inv (at_of hf hs ix hx) with ⟨rfl, _, hA⟩ | ⟨ad, cap, cv, hn, hA, _⟩
    · exact key _ _ _ hA h
    · refine key _ _ _ hA ?_
      have : app.isNil = false := by cases app <;> first | rfl | exact absurd rfl hn
      rw [this] at h
      exact h
  · rename_i tag b off n hx
    obtain ⟨cap, hA, hcap⟩ := osl_inv (at_of hf hs ix hx)
    exact key _ _ _ hA h
  · exact h.elim

theorem calm_isnil_ptr {o : Oper} {t e : TypeId} {u : TypeId} {x : Operand} {x' : Y} {neg : Bool} (ix : Is G x' x) (ho : o.op = .binOp (if neg then .neq else .eql) t x (.const (.pointer none)) u)
    (hu : P.underlying t = some (.pointer e)) : Calm P G (.isnil neg false x') o := by
  intro N fr st K a w κ hf hs h
  have key : ∀ (A : Option Addr), a.eval x = .pointer A → K (.bool (if neg then !A.isNone else A.isNone)) st →
      ∃ v x, K x st ∧ VR w κ x v ∧ ∀ w' : World, w'.heap = w.heap → (execOp a.eval o).run P w' = .ok (.value v) w' := by
    intro A hA hK
    refine ⟨_, _, hK, .v _, fun w' hw => ?_⟩
    have hy : a.eval (.const (.pointer none)) = .pointer none := rfl
    cases neg <;> simp [execOp, ho, hA, hy, eqGuard_ptr, binOp, equal_ptr_nil hu]
  simp only [vcK, isnilVC, isnilP] at h
  split at h
  · rename_i cells hx
    obtain ⟨ad, cv, hA, _⟩ := ptr_inv (at_of hf hs ix hx)
    exact key _ hA h
  · rename_i tag b off hx
    exact key _ (optr_inv (at_of hf hs ix hx)) h
  · rename_i hx
    exact key _ (at_of hf hs ix hx).v_inv h
  · exact h.elim

theorem calm_eqb {o : Oper} {t u : TypeId} {x y : Operand} {x' y' : Y} {neg : Bool} (ix : Is G x' x) (iy : Is G y' y) (ho : o.op = .binOp (if neg then .neq else .eql) t x y u) (hu : P.underlying t = some .bool) :
    Calm P G (.eqb neg x' y') o := by
  intro N fr st K a w κ hf hs h
  obtain ⟨m, hm, h⟩ := withBool_elim h
  obtain ⟨n, hn, h⟩ := withBool_elim h
  have hx := (at_of hf hs ix hm).bool_inv
  have hy := (at_of hf hs iy hn).bool_inv
  refine ⟨_, _, h, .v _, fun w' hw => ?_⟩
  have hg : ∀ op, (eqGuard op t x y (.bool m) (.bool n)).run P w' = .ok () w' := fun op => by unfold eqGuard; cases op <;> simp
  cases neg <;> simp [execOp, ho, hx, hy, hg, run_eql_bool w' t m n hu, run_neq_bool w' t m n hu]

def sub64Entry : Array Value → Sem Value := fun args => do
  let (x, y, b) ← Extern.MathBitsCarry.three "Sub64" args
  pure (Extern.MathBitsCarry.pair ((x + Extern.MathBitsCarry.m64 - y - b) % Extern.MathBitsCarry.m64) (if x < y + b then 1 else 0))
theorem run_sub64 (x y c : Int) (hx : 0 ≤ x) (hy : 0 ≤ y) (hc0 : 0 ≤ c) (hc : c ≤ 1) (hy' : y < 18446744073709551616) (w : World) :
    (sub64Entry #[.int .u64 x, .int .u64 y, .int .u64 c]).run P w =
      .ok (.tuple #[.int .u64 ((x - y - c) % 18446744073709551616), .int .u64 (if x < y + c then 1 else 0)]) w := by
  have key : ∀ k : Nat, k ≤ 1 → (sub64Entry #[.int .u64 x, .int .u64 y, .int .u64 (k : Int)]).run P w =
      .ok (Extern.MathBitsCarry.pair ((x.toNat + Extern.MathBitsCarry.m64 - y.toNat - k) % Extern.MathBitsCarry.m64) (if x.toNat < y.toNat + k then 1 else 0)) w := by
    intro k hk
    have : k = 0 ∨ k = 1 := by omega
    rcases this with rfl | rfl <;> rfl
  obtain ⟨k, rfl⟩ := Int.eq_ofNat_of_zero_le hc0
  rw [key k (by omega)]
  obtain ⟨X, rfl⟩ := Int.eq_ofNat_of_zero_le hx
  obtain ⟨Y, rfl⟩ := Int.eq_ofNat_of_zero_le hy
  simp only [Extern.MathBitsCarry.pair, Extern.MathBitsCarry.m64, Int.toNat_natCast]
  have e1 : (Int.ofNat ((X + 2 ^ 64 - Y - k) % 2 ^ 64)) = ((X : Int) - Y - k) % 18446744073709551616 := by simp; omega
  have e2 : (Int.ofNat (if X < Y + k then 1 else 0)) = if (X : Int) < Y + k then 1 else 0 := by
    split <;> split <;> first | rfl | omega
  rw [e1, e2]
theorem find_add64 {fn : Func} (h : fn.name = "math/bits.Add64") : Extern.find fn = some add64Entry := by
  unfold Extern.find
  rw [h]
  have e1 : Extern.allGenericRows.lookup "math/bits.Add64" = none := by kernel_rfl
  have e2 : Extern.allTypedRows.lookup "math/bits.Add64" = none := by kernel_rfl
  have e3 : Extern.allRows.lookup "math/bits.Add64" = some add64Entry := by kernel_rfl
  simp [e1, e2, e3]
theorem find_sub64 {fn : Func} (h : fn.name = "math/bits.Sub64") : Extern.find fn = some sub64Entry := by
  unfold Extern.find
  rw [h]
  have e1 : Extern.allGenericRows.lookup "math/bits.Sub64" = none := by kernel_rfl
  have e2 : Extern.allTypedRows.lookup "math/bits.Sub64" = none := by kernel_rfl
  have e3 : Extern.allRows.lookup "math/bits.Sub64" = some sub64Entry := by kernel_rfl
  simp [e1, e2, e3]
theorem findNext_bits {fn : Func} (h : fn.name = "math/bits.Add64" ∨ fn.name = "math/bits.Sub64") (ho : fn.origin = "") : Extern.findNext fn = none := by
  unfold Extern.findNext
  have e1 : Extern.allNextRows.lookup "math/bits.Add64" = none := by kernel_rfl
  have e2 : Extern.allNextRows.lookup "math/bits.Sub64" = none := by kernel_rfl
  have e3 : Extern.allNextRows.lookup "" = none := by kernel_rfl
  rcases h with h | h <;> simp [h, ho, e1, e2, e3]

theorem eval_fn (a : Act) (f : FuncId) : a.eval (.func f) = .func (.func f) #[] #[] := rfl
theorem calm_carry {o : Oper} {x y z : Operand} {x' y' z' : Y} {sub : Bool} {f : FuncId} {fn : Func} (ix : Is G x' x) (iy : Is G y' y) (iz : Is G z' z) (c : Call) (ho : o.op = .call c) (hc : c.callee = .value (.func f)) (ha : c.args = #[x, y, z])
    (hf' : P.funcs[f]? = some fn) (hb : fn.body.isNone = true) (hor : fn.origin = "") (hn : fn.name = if sub then "math/bits.Sub64" else "math/bits.Add64") : Calm P G (.carry sub x' y' z') o := by
  intro N fr st K a w κ hf hs h
  obtain ⟨k1, m, hm, h⟩ := withInt_elim h
  obtain ⟨k2, n, hn', h⟩ := withInt_elim h
  obtain ⟨k3, q, hq, h⟩ := withInt_elim h
  obtain ⟨⟨rfl, rfl, rfl, h1, h2, h3, h4, h5, h6⟩, hK⟩ := h
  have hx := (at_of hf hs ix hm).int_inv
  have hy := (at_of hf hs iy hn').int_inv
  have hz := (at_of hf hs iz hq).int_inv
  cases sub with
  | true =>
    have hnm : fn.name = "math/bits.Sub64" := by simpa using hn
    refine ⟨_, _, hK, .tup _ #[.int .u64 ((m - n - q) % 18446744073709551616), .int .u64 (if m < n + q then 1 else 0)] rfl (fun j x c hx hc => ?_), fun w' hw => ?_⟩
    · match j with
      | 0 => cases hx; cases hc; exact .v _
      | 1 => cases hx; cases hc; exact .v _
      | j + 2 => simp at hx
    · have hr := run_callFunc_extern (P := P) hf' (by rw [hnm]; decide) hb (findNext_bits (.inr hnm) hor) (find_sub64 hnm) #[.int .u64 m, .int .u64 n, .int .u64 q] w'
      rw [run_sub64 m n q h1 h2 h3 h4 h6] at hr
      simpa [execOp, ho, resolve, hc, eval_fn, Deferred.ofValue, ha, invoke, hx, hy, hz] using hr
  | false =>
    have hnm : fn.name = "math/bits.Add64" := by simpa using hn
    refine ⟨_, _, hK, .tup _ #[.int .u64 ((m + n + q) % 18446744073709551616), .int .u64 ((m + n + q) / 18446744073709551616)] rfl (fun j x c hx hc => ?_), fun w' hw => ?_⟩
    · match j with
      | 0 => cases hx; cases hc; exact .v _
      | 1 => cases hx; cases hc; exact .v _
      | j + 2 => simp at hx
    · have hr := run_callFunc_extern (P := P) hf' (by rw [hnm]; decide) hb (findNext_bits (.inl hnm) hor) (find_add64 hnm) #[.int .u64 m, .int .u64 n, .int .u64 q] w'
      rw [run_add64 m n q h1 h2 h3 h4] at hr
      simpa [execOp, ho, resolve, hc, eval_fn, Deferred.ofValue, ha, invoke, hx, hy, hz] using hr

/-! ### cuts -/
theorem run_bound (x : Int) (k : IntKind) (y : Nat) (code : BoundsCode) (h0 : 0 ≤ x) (h1 : x ≤ y) (w : World) : (Instr.sliceBound (.int k x) y code).run P w = .ok x.toNat w := by
  simp [Instr.sliceBound, asIntOf, h0, h1]

/-- The bounds of a cut without a third index. -/
theorem run_bounds2 {fr : Fr} {N : Nat} {w : World} {κ : Im} {a : Act} {st : St} (hf : FrR N w κ fr a) (hs : StR G w κ st) {lo hi : Option Operand} {lo' hi' : Option Y}
    (il : ∀ y, lo' = some y → ∃ o, lo = some o ∧ Is G y o) (ih : ∀ y, hi' = some y → ∃ o, hi = some o ∧ Is G y o) (il0 : lo' = none → lo = none) (ih0 : hi' = none → hi = none)
    {F : Int → Int → Prop} {n : Nat} (h : bnd fr lo' 0 fun l => bnd fr hi' n fun h => F l h) :
    ∃ l h : Int, F l h ∧ (hi' = none → h = n) ∧ (∀ isS (cap : Nat), n ≤ cap → 0 ≤ l → l ≤ h → h ≤ n → ∀ w', (Instr.sliceBounds isS n cap (lo.map a.eval) (hi.map a.eval) none).run P w' = .ok (l.toNat, h.toNat, cap) w') := by
  rcases bnd_elim h with ⟨hl, h⟩ | ⟨y, k, l, hl, hy, h⟩
  · rcases bnd_elim h with ⟨hh, h⟩ | ⟨y, k, m, hh, hy, h⟩
    · refine ⟨0, n, h, fun _ => rfl, fun isS cap hc _ _ _ w' => ?_⟩
      simp [Instr.sliceBounds, il0 hl, ih0 hh]
    · obtain ⟨o, ho, io⟩ := ih y hh
      have hv := (at_of hf hs io hy).int_inv
      refine ⟨0, m, h, fun e => by simp [hh] at e, fun isS cap hc h0 h1 h2 w' => ?_⟩
      cases isS <;> simp [Instr.sliceBounds, il0 hl, ho, hv, run_bound m k cap _ (by omega) (by omega)]
  · obtain ⟨o, ho, io⟩ := il y hl
    have hv := (at_of hf hs io hy).int_inv
    rcases bnd_elim h with ⟨hh, h⟩ | ⟨y, k', m, hh, hy', h⟩
    · refine ⟨l, n, h, fun _ => rfl, fun isS cap hc h0 h1 h2 w' => ?_⟩
      cases isS <;> simp [Instr.sliceBounds, ho, hv, ih0 hh, run_bound l k n _ (by omega) (by omega)]
    · obtain ⟨o2, ho2, io2⟩ := ih y hh
      have hv2 := (at_of hf hs io2 hy').int_inv
      refine ⟨l, m, h, fun e => by simp [hh] at e, fun isS cap hc h0 h1 h2 w' => ?_⟩
      cases isS <;> simp [Instr.sliceBounds, ho, hv, ho2, hv2, run_bound m k' cap _ (by omega) (by omega), run_bound l k m.toNat _ (by omega) (by omega)]

theorem getElem?_cut {α : Type} (l : List α) (i n j : Nat) : ((l.drop i).take n)[j]? = if j < n then l[i + j]? else none := by
  rw [List.getElem?_take]; split <;> simp [List.getElem?_drop]

/-- A cut of what reads as a list. -/
theorem VR.cut {w : World} {κ : Im} {app : App} {sz : Nat} {els : List (List AV)} {ad : Addr} {cv : Nat → Nat → Value}
    (hcell : ∀ i j el x, els[i]? = some el → el[j]? = some x → w.cell? (ad.add (i * sz + j)) = some (cv i j) ∧ κ ad.block (ad.off + (i * sz + j)) ∧ (cv i j).oneCell' = true)
    (hv : ∀ i j el x, els[i]? = some el → el[j]? = some x → VR w κ x (cv i j)) (hz : ∀ el ∈ els, el.length = sz) (l n m : Nat) (hn : l + n ≤ els.length) (hm : l + n ≤ m) (h1 : app ≠ .nil) (h2 : app = .full → m = l + n) (h3 : ∀ b k, app ≠ .tok b k) :
    VR w κ (.sl app sz ((els.drop l).take n)) (.slice (some (if m = l then ad else ad.add (l * sz))) n (m - l)) := by
  have hlen : ((els.drop l).take n).length = n := by simp; omega
  have hbase : ∀ i j el x, ((els.drop l).take n)[i]? = some el → el[j]? = some x →
      (if m = l then ad else ad.add (l * sz)).add (i * sz + j) = ad.add ((l + i) * sz + j) ∧ els[l + i]? = some el := by
    intro i j el x he hx
    rw [getElem?_cut] at he
    split at he
    · rename_i hi
      refine ⟨?_, he⟩
      rw [if_neg (by omega), add_add]
      congr 1
      rw [Nat.add_mul]; omega
    · cases he
  have key := VR.sl (w := w) (κ := κ) app (if m = l then ad else ad.add (l * sz)) (m - l) sz ((els.drop l).take n) (fun i j => cv (l + i) j) h1 (by rw [hlen]; omega) (fun e => by rw [hlen, h2 e]; omega) (fun b k e => absurd e (h3 b k))
    (fun el hel => hz el (List.mem_of_mem_drop (List.mem_of_mem_take hel)))
    (fun i j el x he hx => by
      obtain ⟨e1, e2⟩ := hbase i j el x he hx
      obtain ⟨q1, q2, q3⟩ := hcell (l + i) j el x e2 hx
      rw [e1]
      refine ⟨q1, ?_, q3⟩
      have hb : (if m = l then ad else ad.add (l * sz)).block = ad.block := by split <;> simp [add_block]
      have ho : (if m = l then ad else ad.add (l * sz)).off + (i * sz + j) = ad.off + ((l + i) * sz + j) := by
        have := congrArg Addr.off e1
        rw [add_off, add_off] at this
        exact this
      rw [hb, ho]; exact q2)
    (fun i j el x he hx => hv (l + i) j el x (hbase i j el x he hx).2 hx)
  rw [hlen] at key
  exact key

theorem calm_slice {o : Oper} {t e : TypeId} {x : Operand} {lo hi : Option Operand} {x' : Y} {lo' hi' : Option Y} (ix : Is G x' x) (ho : o.op = .slice t x lo hi none)
    (il : ∀ y, lo' = some y → ∃ o, lo = some o ∧ Is G y o) (ih : ∀ y, hi' = some y → ∃ o, hi = some o ∧ Is G y o) (il0 : lo' = none → lo = none) (ih0 : hi' = none → hi = none)
    (hu : P.underlying t = some (.slice e)) {inf : TypeInfo} (hin : P.info? e = some inf) : Calm P G (.slice (P.cellsOf e) x' lo' hi' none) o := by
  intro N fr st K a w κ hf hs h
  simp only [vcK, sliceVC] at h
  split at h
  · rename_i app sz' els hx
    obtain ⟨l, m, ⟨⟨h0, h1, h2, rfl⟩, hK⟩, hm, hrun⟩ := run_bounds2 (P := P) hf hs il ih il0 ih0 h
    rcases sl_inv (at_of hf hs ix hx) with ⟨rfl, rfl, hA⟩ | ⟨ad, cap, cv, hn, hA, hcap, hfull, htok, hz, hcell, hv⟩
    · have hm0 : m = 0 := by simp at h2; omega
      have hl0 : l = 0 := by omega
      subst hm0 hl0
      refine ⟨.slice none 0 0, _, hK, by simpa [App.cut] using VR.nilsl (w := w) (κ := κ) (P.cellsOf e), fun w' hw => ?_⟩
      have := hrun true 0 (by simp) (by omega) (by omega) (by simp) w'
      simp at this
      simp [execOp, ho, hA, Instr.sliceAt, Instr.slice, run_underlying hu, this, run_sizeOf' hin]
    · refine ⟨_, _, hK, VR.cut (app := app.cut hi'.isNone) hcell hv hz l.toNat (m.toNat - l.toNat) cap (by omega) (by omega) ?_ ?_ ?_, fun w' hw => ?_⟩
      · cases app <;> simp [App.cut] at hn ⊢
        split <;> simp
      · intro e1
        cases app <;> simp [App.cut] at e1
        have := hfull rfl
        have := hm (by simpa using e1)
        omega
      · intro b k e1
        cases app <;> simp [App.cut] at e1
        split at e1 <;> cases e1
      · have := hrun true cap hcap h0 h1 h2 w'
        have e1 : l.toNat + (m.toNat - l.toNat) - l.toNat = m.toNat - l.toNat := by omega
        simp [execOp, ho, hA, Instr.sliceAt, Instr.slice, run_underlying hu, this, run_sizeOf' hin]
        split <;> rfl
  · rename_i tag b off len hx
    obtain ⟨l, m, ⟨⟨h0, h1, h2, h3⟩, hK⟩, hm, hrun⟩ := run_bounds2 (P := P) hf hs il ih il0 ih0 h
    obtain ⟨cap, hA, hcap⟩ := osl_inv (at_of hf hs ix hx)
    have hr := hrun true cap hcap h0 h1 h2
    refine ⟨.slice (some ⟨b, off + l.toNat * P.cellsOf e, none⟩) (m.toNat - l.toNat) (cap - l.toNat), _, hK, .osl tag _ _ _ _ (by omega), fun w' hw => ?_⟩
    have e1 : (if cap = l.toNat then (some ⟨b, off, none⟩ : Option Addr) else (some (⟨b, off, none⟩ : Addr)).map (·.add (l.toNat * P.cellsOf e))) = some ⟨b, off + l.toNat * P.cellsOf e, none⟩ := by
      split
      · have : l.toNat = 0 := by omega
        simp [this]
      · simp [add_mk]
    simp only [execOp, ho, hA, Instr.sliceAt, Instr.slice, Sem.run_bind, run_underlying hu, Result.andThen_ok, Option.map_none, hr w', run_sizeOf' hin, Sem.run_pure, e1]
  · exact h.elim

theorem calm_sslice {o : Oper} {t : TypeId} {x : Operand} {lo hi : Option Operand} {x' : Y} {lo' hi' : Option Y} (ix : Is G x' x) (ho : o.op = .slice t x lo hi none)
    (il : ∀ y, lo' = some y → ∃ o, lo = some o ∧ Is G y o) (ih : ∀ y, hi' = some y → ∃ o, hi = some o ∧ Is G y o) (il0 : lo' = none → lo = none) (ih0 : hi' = none → hi = none)
    (hu : P.underlying t = some .string) : Calm P G (.sslice x' lo' hi') o := by
  intro N fr st K a w κ hf hs h
  obtain ⟨s, hx, h⟩ := withStr_elim h
  obtain ⟨l, m, ⟨⟨h0, h1, h2⟩, hK⟩, hm, hrun⟩ := run_bounds2 (P := P) hf hs il ih il0 ih0 h
  have hA := (at_of hf hs ix hx).str_inv
  refine ⟨_, _, hK, .str _, fun w' hw => ?_⟩
  have hr := hrun false s.length (Nat.le_refl _) h0 h1 h2 w'
  have e : (⟨s.toArray⟩ : ByteArray).extract l.toNat m.toNat = ⟨((s.drop l.toNat).take (m.toNat - l.toNat)).toArray⟩ := by
    apply ByteArray.ext
    simp [ByteArray.data_extract, List.extract_eq_take_drop]
  simp [execOp, ho, hA, Instr.sliceAt, Instr.slice, run_underlying hu, size_mk, hr, e]

theorem calm_slice3 {o : Oper} {t e : TypeId} {x m : Operand} {lo hi : Option Operand} {x' m' : Y} {lo' hi' : Option Y} (ix : Is G x' x) (im : Is G m' m) (ho : o.op = .slice t x lo hi (some m))
    (il : ∀ y, lo' = some y → ∃ o, lo = some o ∧ Is G y o) (ih : ∀ y, hi' = some y → ∃ o, hi = some o ∧ Is G y o) (il0 : lo' = none → lo = none) (hh : hi.isSome = true) (ih0 : hi' = none → hi = none)
    (hu : P.underlying t = some (.slice e)) {inf : TypeInfo} (hin : P.info? e = some inf) : Calm P G (.slice (P.cellsOf e) x' lo' hi' (some m')) o := by
  intro N fr st K a w κ hf hs h
  simp only [vcK, sliceVC] at h
  split at h
  · rename_i app sz' els hx
    have key : ∃ l h q : Int, ∃ k k', (0 ≤ l ∧ l ≤ h ∧ h ≤ els.length ∧ q = h ∧ sz' = P.cellsOf e) ∧ K (.sl app.cut3 (P.cellsOf e) ((els.drop l.toNat).take (h.toNat - l.toNat))) st ∧ a.eval m = .int k q ∧
        hi.map a.eval = some (.int k' h) ∧ (lo.map a.eval = none ∧ l = 0 ∨ ∃ k, lo.map a.eval = some (.int k l)) := by
      rcases bnd_elim h with ⟨hl, h⟩ | ⟨y, k, l, hl, hy, h⟩
      · rcases bnd_elim h with ⟨hh', h⟩ | ⟨y, k, n, hh', hy, h⟩
        · simp [ih0 hh'] at hh
        · obtain ⟨kq, q, hq, hc, hK⟩ := withInt_elim h
          obtain ⟨o, ho, io⟩ := ih y hh'
          exact ⟨0, n, q, kq, k, hc, hK, (at_of hf hs im hq).int_inv, by simp [ho, (at_of hf hs io hy).int_inv], .inl ⟨by simp [il0 hl], rfl⟩⟩
      · obtain ⟨ol, hol, iol⟩ := il y hl
        rcases bnd_elim h with ⟨hh', h⟩ | ⟨y', k', n, hh', hy', h⟩
        · simp [ih0 hh'] at hh
        · obtain ⟨kq, q, hq, hc, hK⟩ := withInt_elim h
          obtain ⟨o, ho, io⟩ := ih y' hh'
          exact ⟨l, n, q, kq, k', hc, hK, (at_of hf hs im hq).int_inv, by simp [ho, (at_of hf hs io hy').int_inv], .inr ⟨k, by simp [hol, (at_of hf hs iol hy).int_inv]⟩⟩
    obtain ⟨l, h, q, kq, kh, ⟨h0, h1, h2, rfl, rfl⟩, hK, hmv, hhv, hlv⟩ := key
    have hrun : ∀ cap, els.length ≤ cap → ∀ w', (Instr.sliceBounds true els.length cap (lo.map a.eval) (hi.map a.eval) (some (a.eval m))).run P w' = .ok (l.toNat, q.toNat, q.toNat) w' := by
      intro cap hc w'
      rw [hhv, hmv]
      rcases hlv with ⟨hl, rfl⟩ | ⟨k, hl⟩
      · rw [hl]; simp [Instr.sliceBounds, run_bound q kq cap _ (by omega) (by omega), run_bound q kh q.toNat _ (by omega) (by omega)]
      · rw [hl]; simp [Instr.sliceBounds, run_bound q kq cap _ (by omega) (by omega), run_bound q kh q.toNat _ (by omega) (by omega), run_bound l k q.toNat _ (by omega) (by omega)]
    rcases sl_inv (at_of hf hs ix hx) with ⟨rfl, rfl, hA⟩ | ⟨ad, cap, cv, hn, hA, hcap, hfull, htok, hz, hcell, hv⟩
    · have hm0 : q = 0 := by simp at h2; omega
      have hl0 : l = 0 := by omega
      subst hm0 hl0
      refine ⟨.slice none 0 0, _, hK, by simpa [App.cut3] using VR.nilsl (w := w) (κ := κ) (P.cellsOf e), fun w' hw => ?_⟩
      have := hrun 0 (by simp) w'
      simp at this
      simp [execOp, ho, hA, Instr.sliceAt, Instr.slice, run_underlying hu, this, run_sizeOf' hin]
    · refine ⟨_, _, hK, VR.cut (app := app.cut3) hcell hv hz l.toNat (q.toNat - l.toNat) q.toNat (by omega) (by omega) ?_ ?_ ?_, fun w' hw => ?_⟩
      · cases app <;> simp [App.cut3] at hn ⊢
      · intro _; omega
      · intro b k e1
        cases app <;> simp [App.cut3] at e1
      · have := hrun cap hcap w'
        simp [execOp, ho, hA, Instr.sliceAt, Instr.slice, run_underlying hu, this, run_sizeOf' hin]
        split <;> rfl
  · exact h.elim
  · exact h.elim

theorem calm_sliceP {o : Oper} {t e : TypeId} {n : Nat} {x : Operand} {lo hi : Option Operand} {x' : Y} {lo' hi' : Option Y} (ix : Is G x' x) (ho : o.op = .slice t x lo hi none)
    (il : ∀ y, lo' = some y → ∃ o, lo = some o ∧ Is G y o) (ih : ∀ y, hi' = some y → ∃ o, hi = some o ∧ Is G y o) (il0 : lo' = none → lo = none) (ih0 : hi' = none → hi = none)
    (hu : P.underlying t = some (.array n e)) {inf : TypeInfo} (hin : P.info? e = some inf) : Calm P G (.sliceP n (P.cellsOf e) x' lo' hi') o := by
  intro N fr st K a w κ hf hs h
  simp only [vcK, slicePVC] at h
  split at h
  · rename_i tag b off hx
    obtain ⟨l, m, ⟨⟨h0, h1, h2, h3⟩, hK⟩, hm, hrun⟩ := run_bounds2 (P := P) hf hs il ih il0 ih0 h
    have hA := optr_inv (at_of hf hs ix hx)
    have hr := hrun false n (Nat.le_refl _) h0 h1 (by omega)
    refine ⟨.slice (some ⟨b, off + l.toNat * P.cellsOf e, none⟩) (m.toNat - l.toNat) (n - l.toNat), _, hK, .osl tag _ _ _ _ (by omega), fun w' hw => ?_⟩
    have e1 : (if n = l.toNat then (⟨b, off, none⟩ : Addr) else (⟨b, off, none⟩ : Addr).add (l.toNat * P.cellsOf e)) = ⟨b, off + l.toNat * P.cellsOf e, none⟩ := by
      split
      · have : l.toNat = 0 := by omega
        simp [this]
      · simp [add_mk]
    simp only [execOp, ho, hA, Instr.sliceAt, Instr.sureAddr, Sem.run_bind, run_underlying hu, Result.andThen_ok, Option.map_none, hr w', run_sizeOf' hin, Sem.run_pure, e1]
  · exact h.elim
end Go.Eng
