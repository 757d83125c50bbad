/- The engine, part D: the operations that only look answer as 'vc' says. -/
import Derived.Test.YteknjhamekpfjaaEngC
import Derived.Laws.Cells
import Derived.Laws.Strings
set_option linter.unusedVariables false
set_option linter.unusedSimpArgs false
namespace Go.Eng
open Go.RowKit

variable {P : Program} {G : Nat → AV}

theorem VR.ofCell (w : World) (κ : Im) (sz : Nat) (c : Value) : VR w κ (AV.ofCell sz c) c := by
  unfold AV.ofCell
  split
  · exact .nilsl _
  · rename_i s
    have : Value.string s = .string ⟨s.data.toList.toArray⟩ := by simp
    rw [this]
    simpa using VR.str (w := w) (κ := κ) s.data.toList
  · exact .v _
theorem ofCells_length : ∀ (ss : List Nat) (vs : List Value), (ofCells ss vs).length = vs.length
  | _, [] => by simp [ofCells]
  | [], v :: r => by simp [ofCells, ofCells_length [] r]
  | s :: ss, v :: r => by simp [ofCells, ofCells_length ss r]
theorem vr_ofCells {w : World} {κ : Im} : ∀ (ss : List Nat) (vs : List Value) (j : Nat) (x : AV) (c : Value), (ofCells ss vs)[j]? = some x → vs[j]? = some c → VR w κ x c
  | _, [], j, x, c, hx, hc => by simp at hc
  | [], u :: r, 0, x, c, hx, hc => by simp [ofCells] at hx hc; subst hx hc; exact VR.ofCell _ _ _ _
  | [], u :: r, j + 1, x, c, hx, hc => vr_ofCells [] r j x c (by simpa [ofCells] using hx) (by simpa using hc)
  | s :: ss, u :: r, 0, x, c, hx, hc => by simp [ofCells] at hx hc; subst hx hc; exact VR.ofCell _ _ _ _
  | s :: ss, u :: r, j + 1, x, c, hx, hc => vr_ofCells ss r j x c (by simpa [ofCells] using hx) (by simpa using hc)
theorem VR.ofConst (w : World) (κ : Im) (ss : List Nat) (c : Value) : VR w κ (AV.ofConst ss c) c := by
  unfold AV.ofConst
  split
  · rename_i cs
    split
    · rename_i h
      refine .agg _ _ (by simp [ofCells_length]) (fun c hc => by obtain ⟨i, hi, rfl⟩ := Array.mem_iff_getElem.1 hc; exact Array.all_eq_true.1 h i hi) fun j x c hx hc => ?_
      exact vr_ofCells ss cs.toList j x c hx (by simpa using hc)
    · exact .any _
  · exact VR.ofCell _ _ _ _

/-- An operand, seen. -/
def Is (G : Nat → AV) (y : Y) (o : Operand) : Prop := ∃ ss, y = Y.of G ss o
theorem Is.of (G : Nat → AV) (ss : List Nat) (o : Operand) : Is G (Y.of G ss o) o := ⟨ss, rfl⟩
theorem Is.ofT (P : Program) (G : Nat → AV) (t : TypeId) (o : Operand) : Is G (Y.ofT P G t o) o := by
  unfold Y.ofT
  split
  · exact ⟨_, rfl⟩
  · exact ⟨_, rfl⟩
theorem Is.ofTs (P : Program) (G : Nat → AV) : ∀ (ts : List TypeId) (l : List Operand) (j : Nat) (o : Operand), l[j]? = some o → ∃ y, (Y.ofTs P G ts l)[j]? = some y ∧ Is G y o
  | _, [], j, o, h => by simp at h
  | [], x :: r, 0, o, h => by simp at h; subst h; exact ⟨Y.of G [] _, by simp [Y.ofTs], .of _ _ _⟩
  | [], x :: r, j + 1, o, h => by
    obtain ⟨y, h1, h2⟩ := Is.ofTs P G [] r j o (by simpa using h)
    exact ⟨y, by simpa [Y.ofTs] using h1, h2⟩
  | t :: ts, x :: r, 0, o, h => by simp at h; subst h; exact ⟨Y.ofT P G t _, by simp [Y.ofTs], .ofT _ _ _ _⟩
  | t :: ts, x :: r, j + 1, o, h => by
    obtain ⟨y, h1, h2⟩ := Is.ofTs P G ts r j o (by simpa using h)
    exact ⟨y, by simpa [Y.ofTs] using h1, h2⟩
theorem ofTs_length (P : Program) (G : Nat → AV) : ∀ (ts : List TypeId) (l : List Operand), (Y.ofTs P G ts l).length = l.length
  | _, [] => by simp [Y.ofTs]
  | [], x :: r => by simp [Y.ofTs, ofTs_length P G [] r]
  | t :: ts, x :: r => by simp [Y.ofTs, ofTs_length P G ts r]

theorem at_of {fr : Fr} {N : Nat} {w : World} {κ : Im} {a : Act} (h : FrR N w κ fr a) {st : St} (hs : StR G w κ st) {o : Operand} {y : Y} (hy : Is G y o) {x : AV} (hx : fr.at y = some x) : VR w κ x (a.eval o) := by
  obtain ⟨ss, rfl⟩ := hy
  cases o with
  | tmp n => exact h.slot n x hx
  | const v => have : x = AV.ofConst ss v := by simpa [Y.of, Fr.at] using hx.symm
               subst this; exact VR.ofConst _ _ _ _
  | global b => have : x = G b := by simpa [Y.of, Fr.at] using hx.symm
                subst this; exact hs.glob b
  | func n => have : x = .fn n [] := by simpa [Y.of, Fr.at] using hx.symm
              subst this; exact .fn n [] #[] rfl (by simp)

/-! Opening the 'with..' words. -/
theorem withAV_elim {x : Option AV} {F : AV → Prop} (h : withAV x F) : ∃ v, x = some v ∧ F v := by
  cases x with
  | none => exact h.elim
  | some v => exact ⟨v, rfl, h⟩
theorem withAVs_elim {x : Option (List AV)} {F : List AV → Prop} (h : withAVs x F) : ∃ v, x = some v ∧ F v := by
  cases x with
  | none => exact h.elim
  | some v => exact ⟨v, rfl, h⟩
theorem withInt_elim {x : Option AV} {F : IntKind → Int → Prop} (h : withInt x F) : ∃ k n, x = some (.int k n) ∧ F k n := by
  unfold withInt at h
  split at h
  · exact ⟨_, _, rfl, h⟩
  · exact h.elim
theorem withBool_elim {x : Option AV} {F : Bool → Prop} (h : withBool x F) : ∃ b, x = some (.bool b) ∧ F b := by
  unfold withBool at h
  split at h
  · exact ⟨_, rfl, h⟩
  · exact h.elim
theorem withStr_elim {x : Option AV} {F : List UInt8 → Prop} (h : withStr x F) : ∃ l, x = some (.str l) ∧ F l := by
  unfold withStr at h
  split at h
  · exact ⟨_, rfl, h⟩
  · exact h.elim
theorem withSl_elim {x : Option AV} {F : App → Nat → List (List AV) → Prop} (h : withSl x F) : ∃ app sz els, x = some (.sl app sz els) ∧ F app sz els := by
  unfold withSl at h
  split at h
  · exact ⟨_, _, _, rfl, h⟩
  · exact h.elim
theorem withAgg_elim {x : Option AV} {F : List AV → Prop} (h : withAgg x F) : ∃ l, x = some (.agg l) ∧ F l := by
  unfold withAgg at h
  split at h
  · exact ⟨_, rfl, h⟩
  · exact h.elim
theorem withObj_elim {st : St} {tag b : Nat} {F : List AV → Prop} (h : withObj st tag b F) : ∃ cells, findObj tag st = some (b, cells) ∧ F cells := by
  unfold withObj at h
  split at h
  · rename_i b' cells hb
    obtain ⟨rfl, hF⟩ := h
    exact ⟨cells, hb, hF⟩
  · exact h.elim
theorem findObj_mem {tag b : Nat} {cells : List AV} : ∀ {st : St}, findObj tag st = some (b, cells) → Seg.obj tag b cells ∈ st
  | [], h => by simp [findObj] at h
  | .row app n sz :: r, h => List.mem_cons_of_mem _ (findObj_mem (by simpa [findObj] using h))
  | .obj t b' c :: r, h => by
    unfold findObj at h
    split at h
    · rename_i e; subst e; cases h; exact List.mem_cons_self ..
    · exact List.mem_cons_of_mem _ (findObj_mem h)
theorem bnd_elim {fr : Fr} {x : Option Y} {d : Int} {F : Int → Prop} (h : bnd fr x d F) : (x = none ∧ F d) ∨ ∃ y k n, x = some y ∧ fr.at y = some (.int k n) ∧ F n := by
  cases x with
  | none => exact .inl ⟨rfl, h⟩
  | some y => obtain ⟨k, n, h1, h2⟩ := withInt_elim h; exact .inr ⟨y, k, n, rfl, h1, h2⟩

/-! What a value must be. -/
theorem VR.int_inv {w : World} {κ : Im} {k : IntKind} {n : Int} {c : Value} (h : VR w κ (.int k n) c) : c = .int k n := h.v_inv
theorem VR.bool_inv {w : World} {κ : Im} {b : Bool} {c : Value} (h : VR w κ (.bool b) c) : c = .bool b := h.v_inv
theorem VR.str_inv {w : World} {κ : Im} {l : List UInt8} {c : Value} (h : VR w κ (.str l) c) : c = .string ⟨l.toArray⟩ := by cases h; rfl

/-- An operation that only looks: in every world with this memory it answers with one value. -/
def Calm (P : Program) (G : Nat → AV) (k : AK) (o : Oper) : Prop :=
  ∀ N fr st K a w κ, FrR N w κ fr a → StR G w κ st → vcK P G k fr st K → ∃ v x, K x st ∧ VR w κ x v ∧ ∀ w' : World, w'.heap = w.heap → (execOp a.eval o).run P w' = .ok (.value v) w'

theorem cell_heap {w w' : World} (h : w'.heap = w.heap) (a : Addr) : w'.cell? a = w.cell? a := by simp [World.cell?, h]

theorem calm_mv {o : Oper} {x : Operand} {x' : Y} (ix : Is G x' x) (ho : o.op = .move x ∨ o.op = .assign x) : Calm P G (.mv x') o := by
  intro N fr st K a w κ hf hs h
  obtain ⟨v, hv, hK⟩ := withAV_elim h
  refine ⟨_, v, hK, at_of hf hs ix hv, fun w' hw => ?_⟩
  rcases ho with ho | ho <;> simp [execOp, ho]

theorem calm_pick {o : Oper} {c x y : Operand} {c' x' y' : Y} (ic : Is G c' c) (ix : Is G x' x) (iy : Is G y' y) (ho : o.op = .pick c x y) : Calm P G (.pick c' x' y') o := by
  intro N fr st K a w κ hf hs h
  obtain ⟨b, hb, ht, he⟩ := withBool_elim h
  have hc := (at_of hf hs ic hb).bool_inv
  cases b with
  | true =>
    obtain ⟨v, hv, hK⟩ := withAV_elim (ht rfl)
    exact ⟨_, v, hK, at_of hf hs ix hv, fun w' hw => by simp [execOp, ho, hc, asBool]⟩
  | false =>
    obtain ⟨v, hv, hK⟩ := withAV_elim (he rfl)
    exact ⟨_, v, hK, at_of hf hs iy hv, fun w' hw => by simp [execOp, ho, hc, asBool]⟩

theorem eqGuard_int (op : BinOp) (t : TypeId) (x y : Operand) (k k' : IntKind) (a b : Int) (w : World) : (eqGuard op t x y (.int k a) (.int k' b)).run P w = .ok () w := by
  unfold eqGuard; cases op <;> simp
theorem eqGuard_str (op : BinOp) (t : TypeId) (x y : Operand) (a b : ByteArray) (w : World) : (eqGuard op t x y (.string a) (.string b)).run P w = .ok () w := by
  unfold eqGuard; cases op <;> simp

theorem calm_bin {o : Oper} {op : BinOp} {t u : TypeId} {x y : Operand} {x' y' : Y} (ix : Is G x' x) (iy : Is G y' y) (ho : o.op = .binOp op t x y u) (h1 : op ≠ .shl) (h2 : op ≠ .shr) : Calm P G (.bin op x' y') o := by
  intro N fr st K a w κ hf hs h
  obtain ⟨k, m, hm, h⟩ := withInt_elim h
  obtain ⟨k', n, hn, h⟩ := withInt_elim h
  obtain ⟨rfl, h⟩ := h
  have hx := (at_of hf hs ix hm).int_inv
  have hy := (at_of hf hs iy hn).int_inv
  have key : ∀ v : Value, (∀ w', (binOp op t (.int k m) (.int k n)).run P w' = .ok v w') → K (.v v) st →
      ∃ v x, K x st ∧ VR w κ x v ∧ ∀ w' : World, w'.heap = w.heap → (execOp a.eval o).run P w' = .ok (.value v) w' := fun v hv hK =>
    ⟨v, .v v, hK, .v v, fun w' hw => by simp [execOp, ho, hx, hy, eqGuard_int, hv]⟩
  have hb : ∀ w', (binOp op t (.int k m) (.int k n)).run P w' = (match op with
      | .add | .sub | .mul => Op.intArith op k m n
      | .quo | .rem => Op.intDiv op k m n
      | .and | .or | .xor | .andNot => Op.intBits op k m n
      | _ => Op.intCmp op m n).run P w' := fun w' => by
    cases op <;> first
      | exact absurd rfl h1
      | exact absurd rfl h2
      | simp [binOp]
  cases op <;> simp only [binVC] at h <;> first
    | exact absurd rfl h1
    | exact absurd rfl h2
    | exact h.elim
    | (refine key _ (fun w' => (hb w').trans ?_) h; rfl)
    | (refine key _ (fun w' => (hb w').trans ?_) h.2; simp [Op.intDiv, h.1]; done)

theorem calm_shf {o : Oper} {op : BinOp} {t u : TypeId} {x y : Operand} {x' y' : Y} (ix : Is G x' x) (iy : Is G y' y) (ho : o.op = .binOp op t x y u) (h1 : op = .shl ∨ op = .shr) : Calm P G (.shf op x' y') o := by
  intro N fr st K a w κ hf hs h
  obtain ⟨k, m, hm, h⟩ := withInt_elim h
  obtain ⟨k', n, hn, h⟩ := withInt_elim h
  have hx := (at_of hf hs ix hm).int_inv
  have hy := (at_of hf hs iy hn).int_inv
  rcases h1 with rfl | rfl
  · obtain ⟨h0, hK⟩ := h
    exact ⟨_, _, hK, .v _, fun w' hw => by simp [execOp, ho, hx, hy, eqGuard_int, binOp, Op.shift, shl, Int.not_lt.2 h0]⟩
  · obtain ⟨h0, hK⟩ := h
    exact ⟨_, _, hK, .v _, fun w' hw => by simp [execOp, ho, hx, hy, eqGuard_int, binOp, Op.shift, shr, Int.not_lt.2 h0]⟩

theorem calm_sbin {o : Oper} {op : BinOp} {t u : TypeId} {x y : Operand} {x' y' : Y} (ix : Is G x' x) (iy : Is G y' y) (ho : o.op = .binOp op t x y u) (h1 : op ≠ .shl) (h2 : op ≠ .shr) : Calm P G (.sbin op x' y') o := by
  intro N fr st K a w κ hf hs h
  obtain ⟨m, hm, h⟩ := withStr_elim h
  obtain ⟨n, hn, h⟩ := withStr_elim h
  have hx := (at_of hf hs ix hm).str_inv
  have hy := (at_of hf hs iy hn).str_inv
  have hb : ∀ w', (binOp op t (.string ⟨m.toArray⟩) (.string ⟨n.toArray⟩)).run P w' = (Op.stringOp op ⟨m.toArray⟩ ⟨n.toArray⟩).run P w' := fun w' => by
    cases op <;> first
      | exact absurd rfl h1
      | exact absurd rfl h2
      | simp [binOp]
  cases op <;> simp only [sbinVC] at h <;> first
    | exact h.elim
    | (refine ⟨_, _, h.2, .str _, fun w' hw => ?_⟩
       have hl : ¬ ((((⟨m.toArray⟩ : ByteArray).size + (⟨n.toArray⟩ : ByteArray).size : Nat) : Int) > IntKind.i64.max) := by
         have e1 : (⟨m.toArray⟩ : ByteArray).size = m.length := by simp [ByteArray.size]
         have e2 : (⟨n.toArray⟩ : ByteArray).size = n.length := by simp [ByteArray.size]
         rw [e1, e2]
         have : IntKind.i64.max = 9223372036854775807 := by decide
         omega
       have e : (⟨m.toArray⟩ : ByteArray) ++ ⟨n.toArray⟩ = ⟨(m ++ n).toArray⟩ := by
         apply ByteArray.ext; simp [ByteArray.data_append]
       simp only [execOp, ho, hx, hy, Sem.run_bind, eqGuard_str, hb, Result.andThen_ok, Op.stringOp, Sem.run_ite, if_neg hl, Sem.run_pure, e]
       done)
    | (refine ⟨_, _, h, .v _, fun w' hw => ?_⟩
       simp only [execOp, ho, hx, hy, Sem.run_bind, eqGuard_str, hb, Result.andThen_ok, Op.stringOp, Sem.run_pure, ByteArray.toList_mk]
       done)

theorem calm_un {o : Oper} {op : UnOp} {t : TypeId} {x : Operand} {x' : Y} (ix : Is G x' x) (ho : o.op = .unOp op t x) : Calm P G (.un op x') o := by
  intro N fr st K a w κ hf hs h
  cases op <;> simp only [vcK] at h
  case not =>
    obtain ⟨b, hb, hK⟩ := withBool_elim h
    have hx := (at_of hf hs ix hb).bool_inv
    exact ⟨_, _, hK, .v _, fun w' hw => by simp [execOp, ho, hx, Op.unary]⟩
  case neg =>
    obtain ⟨k, n, hn, hK⟩ := withInt_elim h
    have hx := (at_of hf hs ix hn).int_inv
    exact ⟨_, _, hK, .v _, fun w' hw => by simp [execOp, ho, hx, Op.unary, Op.intArith]⟩
  case xor =>
    obtain ⟨k, n, hn, hK⟩ := withInt_elim h
    have hx := (at_of hf hs ix hn).int_inv
    exact ⟨_, _, hK, .v _, fun w' hw => by simp only [execOp, ho, hx, Op.unary, Op.intBits, inot, bxor, Sem.run_bind, Sem.run_pure, Result.andThen_ok]⟩
  all_goals exact h.elim

theorem calm_cvt {o : Oper} {s d : TypeId} {k k' : IntKind} {x : Operand} {x' : Y} (ix : Is G x' x) (ho : o.op = .convert s d x) (hsr : P.underlying s = some (.int k')) (hd : P.underlying d = some (.int k)) :
    Calm P G (.cvt k x') o := by
  intro N fr st K a w κ hf hs h
  obtain ⟨k1, n, hn, hK⟩ := withInt_elim h
  have hx := (at_of hf hs ix hn).int_inv
  exact ⟨_, _, hK, .v _, fun w' hw => by simp [execOp, ho, hx, convert, run_underlying hsr, run_underlying hd, Conv.intToInt]⟩

/-- A builtin that is called. -/
theorem run_builtin {o : Oper} {b : Builtin} (c : Call) (a : Act) (ho : o.op = .call c) (hc : c.callee = .builtin b) (w : World) :
    (execOp a.eval o).run P w = (builtin b c.argTypes o.type (c.args.map fun | .const _ => true | _ => false) (c.args.map a.eval)).run P w := by
  simp [execOp, ho, resolve, hc, invoke]
  rfl

theorem calm_len {o : Oper} {t e : TypeId} {x : Operand} {x' : Y} (ix : Is G x' x) (c : Call) (ho : o.op = .call c) (hc : c.callee = .builtin .len) (e1 : c.args = #[x]) (e2 : c.argTypes = #[t])
    (hu : P.underlying t = some (.slice e)) : Calm P G (.len x') o := by
  intro N fr st K a w κ hf hs h
  simp only [vcK] at h
  split at h
  · rename_i app sz els hx
    have hv := at_of hf hs ix hx
    have key : ∃ A n cap, a.eval x = .slice A n cap ∧ n = els.length := by
      generalize a.eval x = c0 at hv
      cases hv with
      | nilsl sz => exact ⟨_, _, _, rfl, rfl⟩
      | sl app ad cap sz els cv => exact ⟨_, _, _, rfl, rfl⟩
    obtain ⟨A, n, cap, hA, rfl⟩ := key
    exact ⟨_, _, h, .v _, fun w' hw => by simp [run_builtin c a ho hc, builtin, e1, e2, Builtin.len_, run_underlying hu, hA, goInt]⟩
  · rename_i tag b off n hx
    have hv := at_of hf hs ix hx
    have key : ∃ A cap, a.eval x = .slice A n cap := by
      generalize a.eval x = c0 at hv
      cases hv
      exact ⟨_, _, rfl⟩
    obtain ⟨A, cap, hA⟩ := key
    exact ⟨_, _, h, .v _, fun w' hw => by simp [run_builtin c a ho hc, builtin, e1, e2, Builtin.len_, run_underlying hu, hA, goInt]⟩
  · exact h.elim
theorem size_mk (l : List UInt8) : (⟨l.toArray⟩ : ByteArray).size = l.length := by simp [ByteArray.size]
theorem calm_slen {o : Oper} {t : TypeId} {x : Operand} {x' : Y} (ix : Is G x' x) (c : Call) (ho : o.op = .call c) (hc : c.callee = .builtin .len) (e1 : c.args = #[x]) (e2 : c.argTypes = #[t])
    (hu : P.underlying t = some .string) : Calm P G (.slen x') o := by
  intro N fr st K a w κ hf hs h
  obtain ⟨l, hx, hK⟩ := withStr_elim h
  have hA := (at_of hf hs ix hx).str_inv
  exact ⟨_, _, hK, .v _, fun w' hw => by simp [run_builtin c a ho hc, builtin, e1, e2, Builtin.len_, run_underlying hu, hA, goInt, size_mk]⟩
theorem calm_lenc {o : Oper} {t : TypeId} {x : Operand} {n : Nat} (c : Call) (ho : o.op = .call c) (hc : c.callee = .builtin .len) (e1 : c.args = #[x]) (e2 : c.argTypes = #[t])
    (hu : (∃ e, P.underlying t = some (.array n e)) ∨ ∃ u e, P.underlying t = some (.pointer u) ∧ P.underlying u = some (.array n e)) : Calm P G (.lenc n) o := by
  intro N fr st K a w κ hf hs h
  refine ⟨_, _, h, .v _, fun w' hw => ?_⟩
  rcases hu with ⟨e, hu⟩ | ⟨u, e, hu, hu'⟩
  · simp [run_builtin c a ho hc, builtin, e1, e2, Builtin.len_, run_underlying hu, goInt]
  · simp [run_builtin c a ho hc, builtin, e1, e2, Builtin.len_, run_underlying hu, run_underlying hu', goInt]
theorem calm_mm {o : Oper} {x y : Operand} {x' y' : Y} (ix : Is G x' x) (iy : Is G y' y) {mx : Bool} (c : Call) (ho : o.op = .call c) (hc : c.callee = .builtin (if mx then .max else .min)) (e1 : c.args = #[x, y]) :
    Calm P G (.mm mx x' y') o := by
  intro N fr st K a w κ hf hs h
  obtain ⟨k, m, hm, h⟩ := withInt_elim h
  obtain ⟨k', n, hn, h⟩ := withInt_elim h
  obtain ⟨rfl, h⟩ := h
  have hx := (at_of hf hs ix hm).int_inv
  have hy := (at_of hf hs iy hn).int_inv
  refine ⟨_, _, h, .v _, fun w' hw => ?_⟩
  cases mx with
  | true =>
    have : (if n > m then n else m) = max m n := by rw [Int.max_def]; split <;> split <;> omega
    simp [run_builtin c a ho hc, builtin, e1, Builtin.max_, hx, hy, Builtin.max2, this]
  | false =>
    have : (if n < m then n else m) = min m n := by rw [Int.min_def]; split <;> split <;> omega
    simp [run_builtin c a ho hc, builtin, e1, Builtin.min_, hx, hy, Builtin.min2, this]

theorem run_sizeOf' {t : TypeId} {i : TypeInfo} (h : P.info? t = some i) (w : World) : (sizeOf t).run P w = .ok (P.cellsOf t) w := by
  simp [sizeOf, typeInfo, h, Program.cellsOf]
theorem info_of_cells {t : TypeId} (h : P.cellsOf t ≠ 0) : ∃ i, P.info? t = some i := by
  unfold Program.cellsOf at h
  cases hi : P.info? t with
  | none => simp [hi] at h
  | some i => exact ⟨i, rfl⟩

theorem getD_mem_some {α : Type} {l : List α} {n : Nat} {d : α} (h : n < l.length) : l[n]? = some (l.getD n d) := by
  simp [List.getD, List.getElem?_eq_getElem h]
theorem cells_block {w : World} {a : Addr} {n : Nat} {v : Value} (h : w.cell? (a.add n) = some v) : (a.add n).spot = none := cell_spot h
end Go.Eng
