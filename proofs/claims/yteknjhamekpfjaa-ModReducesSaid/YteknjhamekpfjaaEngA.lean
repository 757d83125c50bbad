/- The engine, part A: abstract values and what they say of a world; plain definitions and lemmas. -/
import Derived.Below
import Derived.Laws.World
import Derived.Laws.Sem
set_option linter.unusedVariables false
set_option linter.unusedSimpArgs false
namespace Go.Eng
open Go.RowKit

/-- May one append in place? nil; cap = len; no (somebody else may look at the spare cells); yes: block and capacity. -/
inductive App where
  | nil | full | no
  | tok (b cap : Nat)

/-- Abstract values. -/
inductive AV where
  | any
  | v (x : Value)
  | str (l : List UInt8)
  | sl (app : App) (sz : Nat) (els : List (List AV))
  | osl (tag b off len : Nat)
  | ptr (cells : List AV)
  | optr (tag b off : Nat)
  | agg (cells : List AV)
  | tup (vs : List AV)
  | fn (f : FuncId) (caps : List AV)
  | mp (b : Nat)

@[reducible] def AV.int (k : IntKind) (n : Int) : AV := .v (.int k n)
@[reducible] def AV.bool (b : Bool) : AV := .v (.bool b)

abbrev Im := Nat → Nat → Prop

inductive VR (w : World) (κ : Im) : AV → Value → Prop where
  | any (c) : VR w κ .any c
  | v (x) : VR w κ (.v x) x
  | str (l) : VR w κ (.str l) (.string ⟨l.toArray⟩)
  | nilsl (sz) : VR w κ (.sl .nil sz []) (.slice none 0 0)
  | sl (app : App) (a : Addr) (c sz : Nat) (els : List (List AV)) (cv : Nat → Nat → Value)
      (hn : app ≠ .nil) (hc : els.length ≤ c) (hf : app = .full → c = els.length) (ht : ∀ b cap, app = .tok b cap → a = ⟨b, 0, none⟩ ∧ c = cap)
      (hz : ∀ el ∈ els, el.length = sz)
      (hcell : ∀ i j el x, els[i]? = some el → el[j]? = some x → w.cell? (a.add (i * sz + j)) = some (cv i j) ∧ κ a.block (a.off + (i * sz + j)) ∧ (cv i j).oneCell' = true)
      (hv : ∀ i j el x, els[i]? = some el → el[j]? = some x → VR w κ x (cv i j)) :
      VR w κ (.sl app sz els) (.slice (some a) els.length c)
  | osl (tag b off len c) (hc : len ≤ c) : VR w κ (.osl tag b off len) (.slice (some ⟨b, off, none⟩) len c)
  | ptr (a : Addr) (cells : List AV) (cv : Nat → Value)
      (hcell : ∀ j x, cells[j]? = some x → w.cell? (a.add j) = some (cv j) ∧ κ a.block (a.off + j) ∧ (cv j).oneCell' = true)
      (hv : ∀ j x, cells[j]? = some x → VR w κ x (cv j)) : VR w κ (.ptr cells) (.pointer (some a))
  | optr (tag b off) : VR w κ (.optr tag b off) (.pointer (some ⟨b, off, none⟩))
  | agg (cells : List AV) (cs : Array Value) (hl : cells.length = cs.size) (h1 : ∀ c ∈ cs, c.oneCell' = true)
      (hv : ∀ (j : Nat) x c, cells[j]? = some x → cs[j]? = some c → VR w κ x c) : VR w κ (.agg cells) (.agg cs)
  | tup (vs : List AV) (cs : Array Value) (hl : vs.length = cs.size)
      (hv : ∀ (j : Nat) x c, vs[j]? = some x → cs[j]? = some c → VR w κ x c) : VR w κ (.tup vs) (.tuple cs)
  | fn (f : FuncId) (caps : List AV) (cs : Array Value) (hl : caps.length = cs.size)
      (hv : ∀ (j : Nat) x c, caps[j]? = some x → cs[j]? = some c → VR w κ x c) : VR w κ (.fn f caps) (.func (.func f) #[] cs)
  | mp (b) : VR w κ (.mp b) (.map (some b))

/-- The cells that are known never to turn again keep what they hold. -/
structure Ext (w : World) (κ : Im) (w' : World) (κ' : Im) : Prop where
  le : ∀ b o, κ b o → κ' b o
  cell : ∀ b o, κ b o → w'.cell? ⟨b, o, none⟩ = w.cell? ⟨b, o, none⟩

theorem Ext.refl (w : World) (κ : Im) : Ext w κ w κ := ⟨fun _ _ h => h, fun _ _ _ => rfl⟩
theorem Ext.trans {w₁ w₂ w₃ : World} {κ₁ κ₂ κ₃ : Im} (h : Ext w₁ κ₁ w₂ κ₂) (k : Ext w₂ κ₂ w₃ κ₃) : Ext w₁ κ₁ w₃ κ₃ :=
  ⟨fun b o q => k.le b o (h.le b o q), fun b o q => (k.cell b o (h.le b o q)).trans (h.cell b o q)⟩

theorem cell_spot {w : World} {a : Addr} {v : Value} (h : w.cell? a = some v) : a.spot = none := by
  unfold World.cell? at h
  split at h
  · split at h
    · cases h
    · rename_i hs; simpa using hs
  · cases h
theorem addr_eta {a : Addr} (h : a.spot = none) : a = ⟨a.block, a.off, none⟩ := by cases a; simp at h; subst h; rfl
theorem add_block (a : Addr) (n : Nat) : (a.add n).block = a.block := by unfold Addr.add; split <;> rfl
theorem add_off (a : Addr) (n : Nat) : (a.add n).off = a.off + n := by unfold Addr.add; split <;> simp_all
theorem add_add (a : Addr) (i j : Nat) : (a.add i).add j = a.add (i + j) := by
  unfold Addr.add
  by_cases hi : i = 0 <;> by_cases hj : j = 0 <;> simp [hi, hj, Nat.add_assoc]
theorem add_mk (b o n : Nat) : (⟨b, o, none⟩ : Addr).add n = ⟨b, o + n, none⟩ := by unfold Addr.add; split <;> simp_all

theorem Ext.cell_add {w w' : World} {κ κ' : Im} (h : Ext w κ w' κ') {a : Addr} {n : Nat} {v : Value} (hc : w.cell? (a.add n) = some v) (hk : κ a.block (a.off + n)) :
    w'.cell? (a.add n) = some v := by
  have e := addr_eta (cell_spot hc)
  rw [add_block, add_off] at e
  rw [e, h.cell _ _ hk, ← e, hc]

theorem VR.mono {w w' : World} {κ κ' : Im} (h : Ext w κ w' κ') {x : AV} {c : Value} (hx : VR w κ x c) : VR w' κ' x c := by
  induction hx with
  | any c => exact .any c
  | v x => exact .v x
  | str l => exact .str l
  | nilsl sz => exact .nilsl sz
  | sl app a c sz els cv hn hc hf ht hz hcell hv ih =>
    exact .sl app a c sz els cv hn hc hf ht hz (fun i j el x h1 h2 => ⟨h.cell_add (hcell i j el x h1 h2).1 (hcell i j el x h1 h2).2.1, h.le _ _ (hcell i j el x h1 h2).2.1, (hcell i j el x h1 h2).2.2⟩) ih
  | osl tag b off len c hc => exact .osl tag b off len c hc
  | ptr a cells cv hcell hv ih => exact .ptr a cells cv (fun j x h1 => ⟨h.cell_add (hcell j x h1).1 (hcell j x h1).2.1, h.le _ _ (hcell j x h1).2.1, (hcell j x h1).2.2⟩) ih
  | optr tag b off => exact .optr tag b off
  | agg cells cs hl h1 hv ih => exact .agg cells cs hl h1 ih
  | tup cells cs hl hv ih => exact .tup cells cs hl ih
  | fn f caps cs hl hv ih => exact .fn f caps cs hl ih
  | mp b => exact .mp b

/-! ### What the call owns -/
inductive Seg where
  /-- a slice that may be appended to: how many elements it has, of how many cells each -/
  | row (app : App) (n sz : Nat)
  /-- a block of the call's own, that may be written -/
  | obj (tag b : Nat) (cells : List AV)

abbrev St := List Seg

def Seg.blk : Seg → Option Nat
  | .row (.tok b _) _ _ => some b
  | .row _ _ _ => none
  | .obj _ b _ => some b

def own (st : St) : List Nat := st.filterMap Seg.blk

/-- The block is a row of cells, and none of the first n of them is frozen. -/
structure Row (w : World) (b : Nat) (c : Array Value) : Prop where
  heap : ∃ e fz, w.heap[b]? = some (.cells c e fz)
  free : ∀ o, o < c.size → w.frozen? ⟨b, o, none⟩ = false

def SegR (w : World) (κ : Im) : Seg → Prop
  | .row (.tok b cap) n sz => ∃ c, Row w b c ∧ c.size = cap * sz ∧ n ≤ cap ∧ ∀ o, n * sz ≤ o → ¬ κ b o
  | .row _ _ _ => True
  | .obj _ b cells => ∃ c, Row w b c ∧ c.size = cells.length ∧ (∀ u ∈ c, u.oneCell' = true) ∧ (∀ o, ¬ κ b o) ∧ ∀ (j : Nat) x u, cells[j]? = some x → c[j]? = some u → VR w κ x u

structure StR (G : Nat → AV) (w : World) (κ : Im) (st : St) : Prop where
  glob : ∀ g, VR w κ (G g) (.pointer (some ⟨g, 0, none⟩))
  seg : ∀ s ∈ st, SegR w κ s
  nodup : (own st).Nodup
  lt : ∀ b o, κ b o → b < w.heap.size

/-- What became of the world: old blocks that nobody of us owns are as they were. -/
structure Stp (S : List Nat) (w : World) (κ : Im) (w' : World) (κ' : Im) : Prop where
  ext : Ext w κ w' κ'
  os : w'.os = w.os
  tape : w'.tape = w.tape
  output : w'.output = w.output
  size : w.heap.size ≤ w'.heap.size
  block : ∀ k, k < w.heap.size → k ∉ S → w'.heap[k]? = w.heap[k]?
  im : ∀ b o, κ' b o → b < w.heap.size → b ∉ S → κ b o

/-- The owned blocks are old ones of ours, or new. -/
def Mine (S : List Nat) (w : World) (S' : List Nat) : Prop := ∀ b ∈ S', b ∈ S ∨ w.heap.size ≤ b

theorem Stp.refl (S : List Nat) (w : World) (κ : Im) : Stp S w κ w κ :=
  ⟨.refl _ _, rfl, rfl, rfl, Nat.le_refl _, fun _ _ _ => rfl, fun _ _ h _ _ => h⟩
theorem Stp.trans {S S₁ : List Nat} {w w₁ w₂ : World} {κ κ₁ κ₂ : Im} (h : Stp S w κ w₁ κ₁) (hm : Mine S w S₁) (k : Stp S₁ w₁ κ₁ w₂ κ₂) : Stp S w κ w₂ κ₂ where
  ext := h.ext.trans k.ext
  os := k.os.trans h.os
  tape := k.tape.trans h.tape
  output := k.output.trans h.output
  size := Nat.le_trans h.size k.size
  block := fun b hb hS => (k.block b (Nat.lt_of_lt_of_le hb h.size) (fun hin => by rcases hm b hin with q | q; exact hS q; omega)).trans (h.block b hb hS)
  im := fun b o ho hb hS => h.im b o (k.im b o ho (Nat.lt_of_lt_of_le hb h.size) (fun hin => by rcases hm b hin with q | q; exact hS q; omega)) hb hS
theorem Mine.refl (S : List Nat) (w : World) : Mine S w S := fun _ h => .inl h
theorem Mine.trans {S S₁ S₂ : List Nat} {w w₁ : World} (h : Mine S w S₁) (hs : w.heap.size ≤ w₁.heap.size) (k : Mine S₁ w₁ S₂) : Mine S w S₂ := fun b hb => by
  rcases k b hb with q | q
  · exact h b q
  · exact .inr (Nat.le_trans hs q)
theorem Stp.mono {S S' : List Nat} {w w' : World} {κ κ' : Im} (h : Stp S w κ w' κ') (hS : ∀ b ∈ S, b ∈ S') : Stp S' w κ w' κ' :=
  { h with block := fun k hk hn => h.block k hk (fun q => hn (hS _ q)), im := fun b o ho hb hn => h.im b o ho hb (fun q => hn (hS _ q)) }

/-! ### A frame's slots -/
abbrev Fr := List (Nat × AV)
def Fr.get (fr : Fr) (n : Nat) : Option AV := match fr with
  | [] => none
  | (i, x) :: r => if i = n then some x else Fr.get r n
structure FrR (N : Nat) (w : World) (κ : Im) (fr : Fr) (a : Act) : Prop where
  size : a.tmps.size = N
  defers : a.defers = []
  slot : ∀ i x, fr.get i = some x → VR w κ x (a.tmps.getD i undef)

theorem FrR.mono {N : Nat} {w w' : World} {κ κ' : Im} {fr : Fr} {a : Act} (h : FrR N w κ fr a) (he : Ext w κ w' κ') : FrR N w' κ' fr a :=
  ⟨h.size, h.defers, fun i x hi => (h.slot i x hi).mono he⟩
theorem FrR.weak {N : Nat} {w : World} {κ : Im} {fr fr' : Fr} {a : Act} (h : FrR N w κ fr a) (hs : ∀ i x, fr'.get i = some x → fr.get i = some x) : FrR N w κ fr' a :=
  ⟨h.size, h.defers, fun i x hi => h.slot i x (hs i x hi)⟩
theorem FrR.put {N : Nat} {w : World} {κ : Im} {fr : Fr} {a : Act} (h : FrR N w κ fr a) {d : Nat} (hd : d < N) {x : AV} {v : Value} (hx : VR w κ x v) :
    FrR N w κ ((d, x) :: fr) (a.put (some d) v) := by
  refine ⟨by simp [Act.put, h.size], by simp [Act.put, h.defers], fun i y hi => ?_⟩
  have hda : d < a.tmps.size := by rw [h.size]; exact hd
  simp only [Fr.get] at hi
  by_cases e : d = i
  · subst e
    simp at hi
    subst hi
    simpa [Act.put, Array.getD_eq_getD_getElem?, Array.getElem?_setIfInBounds, hda] using hx
  · rw [if_neg e] at hi
    have := h.slot i y hi
    simpa [Act.put, Array.getD_eq_getD_getElem?, Array.getElem?_setIfInBounds, e] using this
theorem FrR.put_none {N : Nat} {w : World} {κ : Im} {fr : Fr} {a : Act} (h : FrR N w κ fr a) (v : Value) : FrR N w κ fr (a.put none v) := h
end Go.Eng
