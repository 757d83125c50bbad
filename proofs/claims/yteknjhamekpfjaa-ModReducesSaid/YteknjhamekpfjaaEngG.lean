/- The engine, part G: literals; cells that are written; what the call makes. -/
import Derived.Test.YteknjhamekpfjaaEngF
import Derived.Laws.IdiomCopy
import Derived.Laws.Append
import Derived.Laws.StructEq
import Derived.ChangeKeysEq
set_option linter.unusedVariables false
set_option linter.unusedSimpArgs false
namespace Go.Eng
open Go.RowKit

variable {P : Program} {G : Nat → AV}

/-- Cells that read as a list. -/
structure VRc (w : World) (κ : Im) (l : List AV) (cs : Array Value) : Prop where
  len : l.length = cs.size
  one : ∀ c ∈ cs, c.oneCell' = true
  vr : ∀ (j : Nat) x c, l[j]? = some x → cs[j]? = some c → VR w κ x c

theorem VRc.mono {w w' : World} {κ κ' : Im} {l : List AV} {cs : Array Value} (h : VRc w κ l cs) (he : Ext w κ w' κ') : VRc w' κ' l cs := ⟨h.len, h.one, fun j x c h1 h2 => (h.vr j x c h1 h2).mono he⟩

theorem cells_one {v : Value} (h : v.oneCell' = true) : v.cells = #[v] := by cases v <;> simp_all [Value.cells, Value.oneCell']
theorem one_of {w : World} {κ : Im} {x : AV} {v : Value} (h : VR w κ x v) (h1 : x.one = true) : v.oneCell' = true ∧ x.cells = [x] ∧ v.cells = #[v] := by
  have hv : v.oneCell' = true := by cases h <;> simp_all [AV.one, Value.oneCell']
  refine ⟨hv, ?_, cells_one hv⟩
  cases x <;> simp_all [AV.one, AV.cells]
theorem vr_cells {w : World} {κ : Im} {x : AV} {v : Value} (h : VR w κ x v) (hf : x.fits = true) : VRc w κ x.cells v.cells := by
  by_cases ha : ∃ l, x = .agg l
  · obtain ⟨l, rfl⟩ := ha
    obtain ⟨cs, rfl, h1, h2, h3⟩ := agg_inv h
    exact ⟨h1, h2, h3⟩
  · have h1 : x.one = true := by cases x <;> simp_all [AV.fits]
    obtain ⟨e1, e2, e3⟩ := one_of h h1
    rw [e2, e3]
    refine ⟨rfl, by simpa using e1, fun j x c hx hc => ?_⟩
    match j with
    | 0 => simp at hx hc; subst hx hc; exact h
    | j + 1 => simp at hx

theorem foldl_set {α : Type} (off : Nat) : ∀ (vs : List α) (k : Nat) (cs : Array α),
    ((vs.zipIdx k).foldl (fun (cs : Array α) (p : α × Nat) => cs.setIfInBounds (off + p.2) p.1) cs).size = cs.size ∧
    ∀ i, ((vs.zipIdx k).foldl (fun (cs : Array α) (p : α × Nat) => cs.setIfInBounds (off + p.2) p.1) cs)[i]? = if off + k ≤ i ∧ i < off + k + vs.length ∧ i < cs.size then vs[i - (off + k)]? else cs[i]?
  | [], k, cs => by simp; intros; omega
  | v :: r, k, cs => by
    rw [List.zipIdx_cons, List.foldl_cons]
    obtain ⟨h1, h2⟩ := foldl_set off r (k + 1) (cs.setIfInBounds (off + k) v)
    refine ⟨by simpa using h1, fun i => ?_⟩
    rw [h2 i]
    simp only [Array.size_setIfInBounds, List.length_cons]
    by_cases hi : i = off + k
    · subst hi
      rw [if_neg (by omega)]
      by_cases hs : off + k < cs.size
      · rw [if_pos (by omega)]; simp [Array.getElem?_setIfInBounds, hs]
      · rw [if_neg (by omega)]; simp [Array.getElem?_setIfInBounds, hs] <;> omega
    · rw [Array.getElem?_setIfInBounds_ne (by omega)]
      by_cases hc : off + (k + 1) ≤ i ∧ i < off + (k + 1) + r.length ∧ i < cs.size
      · rw [if_pos hc, if_pos (by omega), show i - (off + k) = i - (off + (k + 1)) + 1 from by omega]; simp
      · rw [if_neg hc, if_neg (by omega)]

/-- Cells, a part of which is laid anew. -/
theorem VRc.splice {w : World} {κ : Im} {l m : List AV} {cs us : Array Value} (h : VRc w κ l cs) (k : VRc w κ m us) {off : Nat} (hl : off + m.length ≤ l.length) {cs' : Array Value} (hs : cs'.size = cs.size)
    (hg : ∀ i, cs'[i]? = if off ≤ i ∧ i < off + us.size ∧ i < cs.size then us[i - off]? else cs[i]?) : VRc w κ (l.take off ++ m ++ l.drop (off + m.length)) cs' := by
  have e1 := h.len
  have e2 := k.len
  refine ⟨by simp; omega, fun c hc => ?_, fun j x c hx hc => ?_⟩
  · obtain ⟨i, hi⟩ := Array.getElem?_of_mem hc
    rw [hg i] at hi
    split at hi
    · exact k.one _ (Array.mem_of_getElem? hi)
    · exact h.one _ (Array.mem_of_getElem? hi)
  · rw [hg j] at hc
    by_cases h1 : j < off
    · rw [if_neg (by omega)] at hc
      rw [List.append_assoc, List.getElem?_append_left (by simp <;> omega), List.getElem?_take, if_pos h1] at hx
      exact h.vr _ _ _ hx hc
    · by_cases h2 : j < off + us.size
      · rw [if_pos (by omega)] at hc
        rw [List.append_assoc, List.getElem?_append_right (by simp <;> omega), List.getElem?_append_left (by simp <;> omega)] at hx
        have : j - (l.take off).length = j - off := by simp <;> omega
        rw [this] at hx
        exact k.vr _ _ _ hx hc
      · rw [if_neg (by omega)] at hc
        rw [List.append_assoc, List.getElem?_append_right (by simp <;> omega), List.getElem?_append_right (by simp <;> omega), List.getElem?_drop] at hx
        have : off + m.length + (j - (l.take off).length - m.length) = j := by simp <;> omega
        rw [this] at hx
        exact h.vr _ _ _ hx hc

theorem fill_ok {w : World} {κ : Im} (place : Nat → Option (Nat × Nat)) : ∀ (parts : List (Nat × Value)) (ps : List (Nat × AV)) (l : List AV) (cs : Array Value), VRc w κ l cs → parts.length = ps.length →
    (∀ (j : Nat) i v off x, parts[j]? = some (i, v) → ps[j]? = some (off, x) → VR w κ x v ∧ x.fits = true ∧ place i = some (off, x.cells.length) ∧ off + x.cells.length ≤ l.length) →
    ∃ cs', Instr.fill place cs parts = some cs' ∧ VRc w κ (fillAV l ps) cs' ∧ cs'.size = cs.size
  | [], [], l, cs, h, _, _ => ⟨cs, rfl, h, rfl⟩
  | (i, v) :: r, (off, x) :: ps, l, cs, h, hl, hp => by
    obtain ⟨hv, hf, hpl, ho⟩ := hp 0 i v off x rfl rfl
    have hc := vr_cells hv hf
    obtain ⟨g1, g2⟩ := foldl_set off v.cells.toList 0 cs
    have hz : (v.cells.zipIdx.foldl (fun (cs : Array Value) (p : Value × Nat) => cs.setIfInBounds (off + p.2) p.1) cs) = ((v.cells.toList.zipIdx 0).foldl (fun (cs : Array Value) (p : Value × Nat) => cs.setIfInBounds (off + p.2) p.1) cs) := by
      rw [← Array.foldl_toList, Array.toList_zipIdx]
    have hnew : VRc w κ (l.take off ++ x.cells ++ l.drop (off + x.cells.length)) (v.cells.zipIdx.foldl (fun (cs : Array Value) (p : Value × Nat) => cs.setIfInBounds (off + p.2) p.1) cs) := by
      rw [hz]
      refine h.splice hc ho g1 fun i => ?_
      rw [g2 i]
      simp
    have hlen : (l.take off ++ x.cells ++ l.drop (off + x.cells.length)).length = l.length := by simp; omega
    obtain ⟨cs', h1, h2, h3⟩ := fill_ok place r ps _ _ hnew (by simpa using hl) (fun j i' v' off' x' e1 e2 => by
      rw [hlen]
      exact hp (j + 1) i' v' off' x' (by simpa using e1) (by simpa using e2))
    refine ⟨cs', ?_, h2, by rw [h3, hz, g1]⟩
    unfold Instr.fill
    rw [hpl]
    have hn : ¬ (v.cells.size ≠ x.cells.length || off + v.cells.size > cs.size) = true := by
      have e1 := hc.len
      have e2 := h.len
      simp; omega
    simp only [hn]
    exact h1
  | [], _ :: _, _, _, _, hl, _ => by simp at hl
  | _ :: _, [], _, _, _, hl, _ => by simp at hl

/-- The parts, as 'vc' takes them. -/
theorem withParts_elim {fr : Fr} : ∀ {l : List (Nat × Nat × Y)} {F : List (Nat × AV) → Prop}, withParts fr l F → ∃ ps : List (Nat × AV), F ps ∧ ps.length = l.length ∧
    ∀ (j : Nat) off sz y, l[j]? = some (off, sz, y) → ∃ x, ps[j]? = some (off, x) ∧ fr.at y = some x ∧ x.fits = true ∧ x.cells.length = sz
  | [], F, h => ⟨[], h, rfl, by simp⟩
  | (off, sz, y) :: r, F, h => by
    obtain ⟨v, hv, ⟨h1, h2⟩, hr⟩ := withAV_elim h
    obtain ⟨ps, hF, hl, hp⟩ := withParts_elim hr
    refine ⟨(off, v) :: ps, hF, by simp [hl], fun j off' sz' y' hj => ?_⟩
    match j with
    | 0 => simp at hj; obtain ⟨rfl, rfl, rfl⟩ := hj; exact ⟨v, by simp, hv, h1, h2⟩
    | j + 1 => simpa using hp j off' sz' y' (by simpa using hj)
theorem partsOf_spec {n : Nat} {place : Nat → Option (Nat × Nat × TypeId)} {y : TypeId → Operand → Y} : ∀ {parts : List (Nat × Operand)} {l : List (Nat × Nat × Y)}, partsOf n place y parts = some l → l.length = parts.length ∧
    ∀ (j : Nat) i x, parts[j]? = some (i, x) → ∃ off sz t, place i = some (off, sz, t) ∧ l[j]? = some (off, sz, y t x) ∧ off + sz ≤ n
  | [], l, h => by simp [partsOf] at h; subst h; simp
  | (i, x) :: r, l, h => by
    unfold partsOf at h
    split at h
    · rename_i off sz t l' hp hr
      split at h
      · rename_i hle
        cases h
        obtain ⟨h1, h2⟩ := partsOf_spec hr
        refine ⟨by simp [h1], fun j i' x' hj => ?_⟩
        match j with
        | 0 => simp at hj; obtain ⟨rfl, rfl⟩ := hj; exact ⟨off, sz, t, hp, by simp, hle⟩
        | j + 1 => simpa using h2 j i' x' (by simpa using hj)
      · cases h
    · cases h

/-- A literal's cells. -/
theorem lit_fill {w : World} {κ : Im} {fr : Fr} {N : Nat} {a : Act} {st : St} (hf : FrR N w κ fr a) (hs : StR G w κ st) {n : Nat} {place : Nat → Option (Nat × Nat × TypeId)} {parts : List (Nat × Operand)} {l : List (Nat × Nat × Y)}
    (hp : partsOf n place (Y.ofT P G) parts = some l) {F : List (Nat × AV) → Prop} (h : withParts fr l F) {z : List AV} {zc : Array Value} (hz : VRc w κ z zc) (hzn : z.length = n)
    {pl : Nat → Option (Nat × Nat)} (hpl : ∀ i off sz t, place i = some (off, sz, t) → pl i = some (off, sz)) :
    ∃ ps cs', F ps ∧ Instr.fill pl zc (parts.map fun (p : Nat × Operand) => (p.1, a.eval p.2)) = some cs' ∧ VRc w κ (fillAV z ps) cs' ∧ cs'.size = n := by
  obtain ⟨ps, hF, hl, h1⟩ := withParts_elim h
  obtain ⟨hl2, h2⟩ := partsOf_spec hp
  obtain ⟨cs', e1, e2, e3⟩ := fill_ok (w := w) (κ := κ) pl (parts.map fun (p : Nat × Operand) => (p.1, a.eval p.2)) ps z zc hz (by simp [hl, hl2]) (fun j i v off x hj hx => by
    rw [List.getElem?_map] at hj
    cases hpj : parts[j]? with
    | none => rw [hpj] at hj; cases hj
    | some p =>
      rw [hpj] at hj
      obtain ⟨i', o'⟩ := p
      simp at hj
      obtain ⟨rfl, rfl⟩ := hj
      obtain ⟨off', sz', t, q1, q2, q3⟩ := h2 j _ _ hpj
      obtain ⟨x', r1, r2, r3, r4⟩ := h1 j _ _ _ q2
      rw [hx] at r1
      cases r1
      exact ⟨at_of hf hs (.ofT _ _ _ _) r2, r3, by rw [hpl _ _ _ _ q1, r4], by omega⟩)
  exact ⟨ps, cs', hF, e1, e2, by rw [e3, ← hz.len, hzn]⟩

theorem zero_ok {t : TypeId} {z : List AV} (h : zeroT P t = some z) (w : World) (κ : Im) : ∃ v, (∀ w', (zeroValue t).run P w' = .ok v w') ∧ VRc w κ z v.cells ∧ ∃ i, P.info? t = some i ∧ i.zero = some v := by
  unfold zeroT at h
  split at h
  · rename_i v hv
    split at h
    · rename_i hfit
      cases h
      obtain ⟨i, hi, hz⟩ := Option.bind_eq_some_iff.1 hv
      exact ⟨v, fun w' => by simp [zeroValue, typeInfo, hi, hz], vr_cells (VR.ofConst _ _ _ _) hfit, i, hi, hz⟩
    · cases h
  · cases h

theorem mapM_sem {α β : Type} (f : α → Sem β) (g : α → β) : ∀ (l : List α) (w : World), (∀ x ∈ l, ∀ w, (f x).run P w = .ok (g x) w) → (l.mapM f).run P w = .ok (l.map g) w
  | [], w, _ => by simp
  | x :: r, w, h => by
    rw [List.mapM_cons]
    simp [h x (by simp) w, mapM_sem f g r w (fun y hy => h y (by simp [hy]))]

theorem calm_build {o : Oper} {t : TypeId} {parts : Array (Nat × Operand)} {z : List AV} {l : List (Nat × Nat × Y)} (ho : o.op = .build t parts) (hz : zeroT P t = some z)
    (hd : (∃ fs, P.underlying t = some (.struct fs) ∧ (fs.toList.all fun f => (P.info? f.type).isSome) = true ∧ partsOf z.length (fun i => (fs[i]?).map fun f => (f.offset, P.cellsOf f.type, f.type)) (Y.ofT P G) parts.toList = some l) ∨
      ∃ n e, P.underlying t = some (.array n e) ∧ (P.info? e).isSome = true ∧ partsOf z.length (fun i => some (i * P.cellsOf e, P.cellsOf e, e)) (Y.ofT P G) parts.toList = some l) : Calm P G (.build z l) o := by
  intro N fr st K a w κ hf hs h
  obtain ⟨zv, hzr, hzc, _⟩ := zero_ok hz w κ
  have hmap : (parts.map fun (p : Nat × Operand) => (p.1, a.eval p.2)).toList = parts.toList.map fun (p : Nat × Operand) => (p.1, a.eval p.2) := by simp
  rcases hd with ⟨fs, hu, hinf, hp⟩ | ⟨n, e, hu, hinf, hp⟩
  · obtain ⟨ps, cs', hK, hfill, hvc, _⟩ := lit_fill (P := P) (pl := fun i => (fs.toList.map fun (f : Field) => (f.offset, P.cellsOf f.type))[i]?) hf hs hp h hzc rfl (fun i off sz t hi => by
      cases hfi : fs[i]? with
      | none => simp [hfi] at hi
      | some f => simp [hfi] at hi; obtain ⟨rfl, rfl, rfl⟩ := hi; simp [hfi])
    refine ⟨.agg cs', _, hK, .agg _ _ hvc.len hvc.one hvc.vr, fun w' hw => ?_⟩
    have hm : ∀ w, (fs.toList.mapM (m := Sem) fun (f : Field) => do pure (f.offset, ← sizeOf f.type)).run P w = .ok (fs.toList.map fun f => (f.offset, P.cellsOf f.type)) w := fun w =>
      mapM_sem _ (fun (f : Field) => (f.offset, P.cellsOf f.type)) fs.toList w (fun f hf w => by
        obtain ⟨i, hi⟩ := Option.isSome_iff_exists.1 (List.all_eq_true.1 hinf f hf)
        simp [run_sizeOf' hi])
    have hm' : ∀ w, (fs.mapM (m := Sem) fun (f : Field) => do pure (f.offset, ← sizeOf f.type)).run P w = .ok (fs.toList.map fun f => (f.offset, P.cellsOf f.type)).toArray w := fun w => by
      rw [Array.mapM_eq_mapM_toList, Sem.run_map, hm]
      rfl
    have hpl : (fun (i : Nat) => (fs.toList.map fun (f : Field) => (f.offset, P.cellsOf f.type)).toArray[i]?) = fun (i : Nat) => (fs.toList.map fun (f : Field) => (f.offset, P.cellsOf f.type))[i]? := by funext i; simp
    simp only [execOp, ho, Instr.build, Sem.run_bind, hzr, Result.andThen_ok, run_underlying hu, hm', hmap, hpl, hfill, Sem.run_pure]
  · obtain ⟨ps, cs', hK, hfill, hvc, _⟩ := lit_fill (P := P) (pl := fun i => some (i * P.cellsOf e, P.cellsOf e)) hf hs hp h hzc rfl (fun i off sz t hi => by simp at hi; obtain ⟨rfl, rfl, rfl⟩ := hi; rfl)
    obtain ⟨ie, hie⟩ := Option.isSome_iff_exists.1 hinf
    refine ⟨.agg cs', _, hK, .agg _ _ hvc.len hvc.one hvc.vr, fun w' hw => ?_⟩
    simp only [execOp, ho, Instr.build, Sem.run_bind, hzr, Result.andThen_ok, run_underlying hu, run_sizeOf' hie, hmap, hfill, Sem.run_pure]

/-! ### == on arrays and structs -/
theorem VRc.part {w : World} {κ : Im} {l : List AV} {xs : Array Value} (h : VRc w κ l xs) (o n : Nat) (hn : o + n ≤ l.length) : VRc w κ ((l.drop o).take n) (xs.extract o (o + n)) := by
  have e := h.len
  refine ⟨by simp; omega, fun c hc => ?_, fun j x c hx hc => ?_⟩
  · obtain ⟨i, hi', rfl⟩ := Array.mem_iff_getElem.1 hc
    rw [Array.getElem_extract]
    exact h.one _ (Array.getElem_mem ..)
  · rw [List.getElem?_take, List.getElem?_drop] at hx
    rw [Array.getElem?_extract] at hc
    split at hx
    · split at hc
      · exact h.vr _ _ _ hx hc
      · cases hc
    · cases hx
/-- A value of a type, of its cells. -/
def valT (P : Program) (t : TypeId) (xs : Array Value) : Value := if aggT P t then .agg xs else xs.getD 0 undef
theorem run_partT {t : TypeId} (hok : okT P t = true) (xs : Array Value) (o : Nat) (ho : o + P.cellsOf t ≤ xs.size) (w : World) : (Go.part t xs o).run P w = .ok (valT P t (xs.extract o (o + P.cellsOf t))) w := by
  obtain ⟨inf, d, hi, hd, hp⟩ := okT_spec hok
  unfold valT
  cases ha : aggT P t with
  | true =>
    unfold aggT at ha
    rw [hd] at ha
    cases d <;> simp at ha <;> simp [Go.part, isAgg, run_underlying hd, run_sizeOf' hi]
  | false =>
    have h1 := hp ha
    have hlt : o < xs.size := by omega
    have hg : (xs.extract o (o + P.cellsOf t)).getD 0 undef = xs[o] := by
      rw [h1]
      simp [Array.getD_eq_getD_getElem?, Array.getElem?_extract, hlt]
      rw [if_pos (by omega)]; rfl
    rw [hg]
    unfold aggT at ha
    rw [hd] at ha
    cases d <;> simp at ha <;> simp [Go.part, isAgg, run_underlying hd, Array.getElem?_eq_getElem hlt]

theorem eqAt_append (l m : List AV) : ∀ (a b : List (Nat × Leaf)), eqAt l m (a ++ b) = (eqAt l m a && eqAt l m b)
  | [], b => by simp [eqAt]
  | (i, k) :: r, b => by simp [eqAt, eqAt_append l m r b, Bool.and_assoc]
theorem flatAt_append (l m : List AV) : ∀ (a b : List (Nat × Leaf)), flatAt l m (a ++ b) = (flatAt l m a && flatAt l m b)
  | [], b => by simp [flatAt]
  | (i, k) :: r, b => by simp [flatAt, flatAt_append l m r b, Bool.and_assoc]
theorem getD_part (l : List AV) (o n i : Nat) (h : i < n) : ((l.drop o).take n).getD i .any = l.getD (o + i) .any := by
  simp [List.getD, List.getElem?_take, h, List.getElem?_drop]
theorem eqAt_part (l m : List AV) (o n : Nat) : ∀ (ls : List (Nat × Leaf)), (ls.all (fun p => decide (p.1 < n))) = true → eqAt l m (shiftL o ls) = eqAt ((l.drop o).take n) ((m.drop o).take n) ls
  | [], _ => rfl
  | (i, k) :: r, h => by
    simp only [List.all_cons, Bool.and_eq_true, decide_eq_true_eq] at h
    have ih := eqAt_part l m o n r h.2
    unfold shiftL at ih ⊢
    simp only [List.map_cons, eqAt, ih, getD_part l o n i h.1, getD_part m o n i h.1]
theorem flatAt_part (l m : List AV) (o n : Nat) : ∀ (ls : List (Nat × Leaf)), (ls.all (fun p => decide (p.1 < n))) = true → flatAt l m (shiftL o ls) = flatAt ((l.drop o).take n) ((m.drop o).take n) ls
  | [], _ => rfl
  | (i, k) :: r, h => by
    simp only [List.all_cons, Bool.and_eq_true, decide_eq_true_eq] at h
    have ih := flatAt_part l m o n r h.2
    unfold shiftL at ih ⊢
    simp only [List.map_cons, flatAt, ih, getD_part l o n i h.1, getD_part m o n i h.1]

/-- What equality of a type's values comes to. -/
def EqOk (P : Program) (d : Nat) (t : TypeId) (ls : List (Nat × Leaf)) : Prop :=
  ∀ (w0 : World) (κ : Im) (D : Nat) (l m : List AV) (xs ys : Array Value) (w : World), VRc w0 κ l xs → VRc w0 κ m ys → P.cellsOf t ≤ l.length → P.cellsOf t ≤ m.length → flatAt l m ls = true →
    (Op.equalIn (D + d) t (valT P t xs) (valT P t ys)).run P w = .ok (eqAt l m ls) w

theorem fieldsOf_struct {t : TypeId} {fs : Array Field} (h : P.underlying t = some (.struct fs)) : P.fieldsOf t = fs := by simp [Program.fieldsOf, h]

theorem eqPart {d : Nat} {e : TypeId} {ls : List (Nat × Leaf)} (ih : EqOk P d e ls) (hok : okT P e = true) (hall : (ls.all (fun p => decide (p.1 < P.cellsOf e))) = true)
    {w0 : World} {κ : Im} (D : Nat) {l m : List AV} {xs ys : Array Value} (hl : VRc w0 κ l xs) (hm : VRc w0 κ m ys) (o : Nat) (h1 : o + P.cellsOf e ≤ l.length) (h2 : o + P.cellsOf e ≤ m.length) (hf : flatAt l m (shiftL o ls) = true) :
    ∃ a b, (∀ w, (Go.part e xs o).run P w = .ok a w) ∧ (∀ w, (Go.part e ys o).run P w = .ok b w) ∧ ∀ w, (Op.equalIn (D + d) e a b).run P w = .ok (eqAt l m (shiftL o ls)) w := by
  have e1 := hl.len
  have e2 := hm.len
  rw [flatAt_part l m o _ ls hall] at hf
  refine ⟨_, _, fun w => run_partT hok xs o (by omega) w, fun w => run_partT hok ys o (by omega) w, fun w => ?_⟩
  rw [eqAt_part l m o _ ls hall]
  exact ih w0 κ D _ _ _ _ w (hl.part o _ h1) (hm.part o _ h2) (by simp; omega) (by simp; omega) hf

theorem equalIn_leaves : ∀ (d : Nat) (t : TypeId) (ls : List (Nat × Leaf)), okT P t = true → leaves P d t = some ls → EqOk P d t ls := by
  intro d
  induction d with
  | zero => intro t ls _ h; simp [leaves] at h
  | succ d ih =>
    intro t ls hok h
    obtain ⟨inf, td, hi, hd, hsz⟩ := okT_spec hok
    unfold leaves at h
    rw [hd] at h
    intro w0 κ D l m xs ys w hl hm h1 h2 hfl
    have eDd : D + (d + 1) = (D + d) + 1 := by omega
    have scal : ∀ k, aggT P t = false → ls = [(0, k)] → (∀ (a b : AV) (u v : Value), VR w0 κ a u → VR w0 κ b v → flat2 k a b = true → (Op.equalIn (D + d + 1) t u v).run P w = .ok (eqCell a b) w) →
        (Op.equalIn (D + (d + 1)) t (valT P t xs) (valT P t ys)).run P w = .ok (eqAt l m ls) w := by
      intro k ha hls hgo
      subst hls
      have e1 := hsz ha
      have q1 : 0 < l.length := by omega
      have q2 : 0 < m.length := by omega
      have q3 : 0 < xs.size := by rw [← hl.len]; exact q1
      have q4 : 0 < ys.size := by rw [← hm.len]; exact q2
      have r1 := hl.vr 0 _ _ (getD_mem_some (d := AV.any) q1) (Array.getElem?_eq_getElem q3)
      have r2 := hm.vr 0 _ _ (getD_mem_some (d := AV.any) q2) (Array.getElem?_eq_getElem q4)
      have hv1 : valT P t xs = xs[0] := by simp [valT, ha, Array.getD, q3]
      have hv2 : valT P t ys = ys[0] := by simp [valT, ha, Array.getD, q4]
      rw [eDd, hv1, hv2]
      simp only [flatAt, Bool.and_true] at hfl
      simp only [eqAt, Bool.and_true]
      exact hgo _ _ _ _ r1 r2 hfl
    split at h
    · rename_i e; cases e; cases h
      refine scal .bool (by simp [aggT, hd]) rfl fun a b u v ra rb hf => ?_
      unfold flat2 at hf
      split at hf <;> first | cases hf | skip
      · rename_i e; cases e
      · have e1 := ra.v_inv; have e2 := rb.v_inv; subst e1 e2; simp [Op.equalIn, run_underlying hd, eqCell]
      · rename_i e; cases e
    · rename_i k e; cases e; cases h
      refine scal .int (by simp [aggT, hd]) rfl fun a b u v ra rb hf => ?_
      unfold flat2 at hf
      split at hf <;> first | cases hf | skip
      · have e1 := ra.v_inv; have e2 := rb.v_inv; subst e1 e2
        simp at hf; subst hf
        simp [Op.equalIn, run_underlying hd, eqCell]
      · rename_i e; cases e
      · rename_i e; cases e
    · rename_i e; cases e; cases h
      refine scal .str (by simp [aggT, hd]) rfl fun a b u v ra rb hf => ?_
      unfold flat2 at hf
      split at hf <;> first | cases hf | skip
      · rename_i e; cases e
      · rename_i e; cases e
      · have e1 := ra.str_inv; have e2 := rb.str_inv; subst e1 e2; simp [Op.equalIn, run_underlying hd, eqCell, beq_toListBytes, ByteArray.toList_mk]
    · rename_i n e hhd; cases hhd
      have ha : aggT P t = true := by simp [aggT, hd]
      split at h
      · rename_i ls' hls'
        split at h
        · rename_i hc
          simp only [Bool.and_eq_true] at hc
          split at h
          · rename_i hn
            cases h
            obtain ⟨inf', d', hi', hd', _⟩ := okT_spec hc.1
            have hE := ih e ls' hc.1 hls'
            simp only [valT, ha, if_true]
            rw [eDd, run_equalIn_array w (D + d) xs ys hd hi']
            have hr : ∀ (is : List Nat), (∀ i ∈ is, i < n) → flatAt l m (is.flatMap fun i => shiftL (i * P.cellsOf e) ls') = true → ∀ w,
                (Op.eqItems (D + d) e (P.cellsOf e) xs ys is).run P w = .ok (eqAt l m (is.flatMap fun i => shiftL (i * P.cellsOf e) ls')) w := by
              intro is
              induction is with
              | nil => intro _ _ w; simp [Op.eqItems, eqAt]
              | cons i r ihr =>
                intro hin hfl w
                rw [List.flatMap_cons, flatAt_append, Bool.and_eq_true] at hfl
                have hlt : i < n := hin i (by simp)
                have hle : i * P.cellsOf e + P.cellsOf e ≤ n * P.cellsOf e := by
                  have := Nat.mul_le_mul_right (P.cellsOf e) (show i + 1 ≤ n by omega)
                  rw [Nat.add_mul] at this; omega
                obtain ⟨a, b, ra, rb, req⟩ := eqPart hE hc.1 hc.2 D hl hm (i * P.cellsOf e) (by omega) (by omega) hfl.1
                simp only [Op.eqItems, Sem.run_bind, ra, rb, req, Result.andThen_ok, List.flatMap_cons, eqAt_append]
                cases hq : eqAt l m (shiftL (i * P.cellsOf e) ls') with
                | true => simpa using ihr (fun j hj => hin j (by simp [hj])) hfl.2 w
                | false => simp
            exact hr (List.range n) (fun i hi => by simpa using hi) hfl w
          · cases h
        · cases h
      · cases h
    · rename_i fs hhd; cases hhd
      have ha : aggT P t = true := by simp [aggT, hd]
      split at h
      · cases h
      · rename_i hst
        simp only [valT, ha, if_true]
        rw [eDd, run_equalIn_struct w (D + d) t xs ys (by rw [fieldsOf_struct hd]; exact hd) (by simpa using hst), fieldsOf_struct hd]
        generalize fs.toList = fl at h
        have hr : ∀ (fl : List Field) (ls : List (Nat × Leaf)), (fl.foldr (fun f r => match r, leaves P d f.type with
            | some r, some ls => if f.name != "_" && okT P f.type && ls.all (fun p => decide (p.1 < P.cellsOf f.type)) && decide (f.offset + P.cellsOf f.type ≤ P.cellsOf t) then some (shiftL f.offset ls ++ r) else none
            | _, _ => none) (some [])) = some ls → flatAt l m ls = true → ∀ w, (Op.eqFields (D + d) xs ys fl).run P w = .ok (eqAt l m ls) w := by
          intro fl
          induction fl with
          | nil => intro ls h _ w; simp at h; subst h; simp [Op.eqFields, eqAt]
          | cons f r ihr =>
            intro ls h hfl w
            rw [List.foldr_cons] at h
            split at h
            · rename_i r' ls' hr' hls'
              split at h
              · rename_i hc
                cases h
                simp only [Bool.and_eq_true, decide_eq_true_eq, bne_iff_ne] at hc
                obtain ⟨⟨⟨hname, hokf⟩, hall⟩, hoff⟩ := hc
                rw [flatAt_append, Bool.and_eq_true] at hfl
                have hE := ih f.type ls' hokf hls'
                obtain ⟨a, b, ra, rb, req⟩ := eqPart hE hokf hall D hl hm f.offset (by omega) (by omega) hfl.1
                simp only [Op.eqFields, ne_eq, hname, not_false_eq_true, if_true, Sem.run_bind, ra, rb, req, Result.andThen_ok, eqAt_append]
                cases hq : eqAt l m (shiftL f.offset ls') with
                | true => simpa using ihr r' hr' hfl.2 w
                | false => simp
              · cases h
            · cases h
        exact hr _ _ h hfl w
    · cases h

theorem calm_eqc {o : Oper} {t u : TypeId} {x y : Operand} {x' y' : Y} {neg : Bool} {ls : List (Nat × Leaf)} (ix : Is G x' x) (iy : Is G y' y) (ho : o.op = .binOp (if neg then .neq else .eql) t x y u)
    (ha : aggT P t = true) (hok : okT P t = true) (hg : P.eqGuardType P.depth t = false) (hl : leaves P 5 t = some ls) : Calm P G (.eqc neg (P.cellsOf t) ls x' y') o := by
  intro N fr st K a w κ hf hs h
  obtain ⟨l, hx, h⟩ := withAgg_elim h
  obtain ⟨m, hy, h⟩ := withAgg_elim h
  obtain ⟨⟨h1, h2, hfl⟩, hK⟩ := h
  obtain ⟨xs, hxv, a1, a2, a3⟩ := agg_inv (at_of hf hs ix hx)
  obtain ⟨ys, hyv, b1, b2, b3⟩ := agg_inv (at_of hf hs iy hy)
  refine ⟨_, _, hK, .v _, fun w' hw => ?_⟩
  have := equalIn_leaves (P := P) 5 t ls hok hl w κ 9995 l m xs ys w' ⟨a1, a2, a3⟩ ⟨b1, b2, b3⟩ h1 h2 hfl
  simp only [valT, ha, if_true] at this
  cases neg <;> simp only [execOp, ho, hxv, hyv, Sem.run_bind, run_eqGuard_agg w' _ t x y xs ys hg, Result.andThen_ok, if_true, if_false, Bool.false_eq_true, run_eql_struct, run_neq_struct, this, Sem.run_pure]
end Go.Eng
