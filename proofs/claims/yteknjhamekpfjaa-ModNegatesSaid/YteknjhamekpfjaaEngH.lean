/- The engine, part H: what is made and written: rows of cells, append. -/
import Derived.Test.YteknjhamekpfjaaEngG
set_option linter.unusedVariables false
set_option linter.unusedSimpArgs false
namespace Go.Eng
open Go.RowKit

variable {P : Program} {G : Nat → AV}

theorem flat_get {α : Type} {sz : Nat} : ∀ {els : List (List α)}, (∀ el ∈ els, el.length = sz) → ∀ {i j : Nat} {el : List α} {x : α}, els[i]? = some el → el[j]? = some x → els.flatten[i * sz + j]? = some x
  | [], _, i, j, el, x, h, _ => by simp at h
  | e :: r, hz, 0, j, el, x, h, hx => by
    simp at h; subst h
    have hj := (List.getElem?_eq_some_iff.1 hx).1
    simp only [List.flatten_cons, Nat.zero_mul, Nat.zero_add]
    rw [List.getElem?_append_left hj]; exact hx
  | e :: r, hz, i + 1, j, el, x, h, hx => by
    have he := hz e (by simp)
    simp only [List.flatten_cons]
    rw [List.getElem?_append_right (by rw [he, Nat.add_mul]; omega), he, show (i + 1) * sz + j - sz = i * sz + j from by rw [Nat.add_mul]; omega]
    exact flat_get (fun el h => hz el (by simp [h])) (by simpa using h) hx
theorem flat_len {α : Type} {sz : Nat} : ∀ {els : List (List α)}, (∀ el ∈ els, el.length = sz) → els.flatten.length = els.length * sz
  | [], _ => by simp
  | e :: r, hz => by
    rw [List.flatten_cons, List.length_append, hz e (by simp), flat_len (fun el h => hz el (by simp [h])), List.length_cons, Nat.add_mul]; omega
theorem flat_split {α : Type} {sz : Nat} : ∀ {els : List (List α)}, (∀ el ∈ els, el.length = sz) → ∀ {k : Nat} {x : α}, els.flatten[k]? = some x → ∃ i j el, k = i * sz + j ∧ els[i]? = some el ∧ el[j]? = some x
  | [], _, k, x, h => by simp at h
  | e :: r, hz, k, x, h => by
    have he := hz e (by simp)
    rw [List.flatten_cons] at h
    by_cases hk : k < e.length
    · rw [List.getElem?_append_left hk] at h
      exact ⟨0, k, e, by simp, by simp, h⟩
    · rw [List.getElem?_append_right (by omega)] at h
      obtain ⟨i, j, el, h1, h2, h3⟩ := flat_split (fun el h => hz el (by simp [h])) h
      exact ⟨i + 1, j, el, by rw [Nat.add_mul]; omega, by simpa using h2, h3⟩

/-- Elements that read as a list, by their cells. -/
structure FlatVR (w : World) (κ : Im) (sz : Nat) (els : List (List AV)) (C : Array Value) : Prop where
  sz : ∀ el ∈ els, el.length = sz
  vr : VRc w κ els.flatten C
theorem FlatVR.size {w : World} {κ : Im} {sz : Nat} {els : List (List AV)} {C : Array Value} (h : FlatVR w κ sz els C) : C.size = els.length * sz := by rw [← h.vr.len, flat_len h.sz]
theorem FlatVR.mono {w w' : World} {κ κ' : Im} {sz : Nat} {els : List (List AV)} {C : Array Value} (h : FlatVR w κ sz els C) (he : Ext w κ w' κ') : FlatVR w' κ' sz els C := ⟨h.sz, h.vr.mono he⟩
theorem VRc.append {w : World} {κ : Im} {l m : List AV} {C D : Array Value} (h : VRc w κ l C) (k : VRc w κ m D) : VRc w κ (l ++ m) (C ++ D) := by
  refine ⟨by simp [h.len, k.len], fun c hc => by rcases Array.mem_append.1 hc with q | q; exact h.one _ q; exact k.one _ q, fun j x c hx hc => ?_⟩
  have e := h.len
  rw [Array.getElem?_append] at hc
  by_cases hj : j < l.length
  · rw [List.getElem?_append_left hj] at hx
    rw [if_pos (by omega)] at hc
    exact h.vr _ _ _ hx hc
  · rw [List.getElem?_append_right (by omega)] at hx
    rw [if_neg (by omega), ← e] at hc
    exact k.vr _ _ _ hx hc
theorem FlatVR.append {w : World} {κ : Im} {sz : Nat} {els news : List (List AV)} {C D : Array Value} (h : FlatVR w κ sz els C) (k : FlatVR w κ sz news D) : FlatVR w κ sz (els ++ news) (C ++ D) :=
  ⟨fun el hel => by rcases List.mem_append.1 hel with q | q; exact h.sz _ q; exact k.sz _ q, by rw [List.flatten_append]; exact h.vr.append k.vr⟩
theorem FlatVR.nil (w : World) (κ : Im) (sz : Nat) : FlatVR w κ sz [] #[] := ⟨by simp, rfl, by simp, by simp⟩

theorem VR.sl_mk {w : World} {κ : Im} {app : App} {sz : Nat} {els : List (List AV)} {C : Array Value} {a : Addr} {cap : Nat} (h : FlatVR w κ sz els C) (hc : els.length ≤ cap) (hn : app ≠ .nil)
    (hf : app = .full → cap = els.length) (ht : ∀ b k, app = .tok b k → a = ⟨b, 0, none⟩ ∧ cap = k) (hm : ∀ k (hk : k < C.size), w.cell? (a.add k) = some C[k] ∧ κ a.block (a.off + k)) :
    VR w κ (.sl app sz els) (.slice (some a) els.length cap) := by
  have key : ∀ i j el x, els[i]? = some el → el[j]? = some x → ∃ hk : i * sz + j < C.size, VR w κ x (C[i * sz + j]'hk) := by
    intro i j el x h1 h2
    have hfl := flat_get h.sz h1 h2
    have hk : i * sz + j < C.size := by rw [← h.vr.len]; exact (List.getElem?_eq_some_iff.1 hfl).1
    exact ⟨hk, h.vr.vr _ _ _ hfl (Array.getElem?_eq_getElem hk)⟩
  refine .sl app a cap sz els (fun i j => C.getD (i * sz + j) undef) hn hc hf ht h.sz (fun i j el x h1 h2 => ?_) (fun i j el x h1 h2 => ?_)
  all_goals
    obtain ⟨hk, hv⟩ := key i j el x h1 h2
    have hg : C.getD (i * sz + j) undef = C[i * sz + j] := by simp [Array.getD, hk]
  · rw [hg]
    exact ⟨(hm _ hk).1, (hm _ hk).2, h.vr.one _ (Array.getElem_mem ..)⟩
  · rw [hg]; exact hv

theorem sl_flat {w : World} {κ : Im} {app : App} {sz : Nat} {els : List (List AV)} {c : Value} (h : VR w κ (.sl app sz els) c) :
    (app = .nil ∧ els = [] ∧ c = .slice none 0 0) ∨ ∃ (a : Addr) (cap : Nat) (C : Array Value), app ≠ .nil ∧ c = .slice (some a) els.length cap ∧ els.length ≤ cap ∧ (app = .full → cap = els.length) ∧
      (∀ b k, app = .tok b k → a = ⟨b, 0, none⟩ ∧ cap = k) ∧ FlatVR w κ sz els C ∧ ∀ k (hk : k < C.size), w.cell? (a.add k) = some C[k] ∧ κ a.block (a.off + k) := by
  rcases sl_inv h with q | ⟨a, cap, cv, hn, hA, hc, hf, ht, hz, hcell, hv⟩
  · exact .inl q
  · refine .inr ⟨a, cap, ((List.range (els.length * sz)).map fun k => cv (k / sz) (k % sz)).toArray, hn, hA, hc, hf, ht, ?_, ?_⟩
    · have key : ∀ k x, els.flatten[k]? = some x → k < els.length * sz ∧ VR w κ x (cv (k / sz) (k % sz)) ∧ (cv (k / sz) (k % sz)).oneCell' = true := by
        intro k x hx
        have hlt := (List.getElem?_eq_some_iff.1 hx).1
        rw [flat_len hz] at hlt
        obtain ⟨i, j, el, rfl, h1, h2⟩ := flat_split hz hx
        have hj : j < sz := by rw [← hz el (List.mem_of_getElem? h1)]; exact (List.getElem?_eq_some_iff.1 h2).1
        have e1 : (i * sz + j) / sz = i := by rw [Nat.mul_comm, Nat.mul_add_div (by omega), Nat.div_eq_of_lt hj]; omega
        have e2 : (i * sz + j) % sz = j := by rw [Nat.mul_comm, Nat.mul_add_mod, Nat.mod_eq_of_lt hj]
        rw [e1, e2]
        exact ⟨hlt, hv i j el x h1 h2, (hcell i j el x h1 h2).2.2⟩
      refine ⟨hz, by simp [flat_len hz], fun c hc => ?_, fun k x c hx hc => ?_⟩
      · simp at hc
        obtain ⟨k, hk, rfl⟩ := hc
        have hk' : k < els.flatten.length := by rw [flat_len hz]; exact hk
        exact (key k _ (List.getElem?_eq_getElem hk')).2.2
      · simp at hc
        obtain ⟨i, hi, rfl⟩ := hc
        obtain ⟨hlt, h1, _⟩ := key k x hx
        rw [List.getElem?_range hlt] at hi
        cases hi
        exact h1
    · intro k hk
      simp at hk
      have hk' : k < els.flatten.length := by rw [flat_len hz]; exact hk
      obtain ⟨i, j, el, e, h1, h2⟩ := flat_split hz (List.getElem?_eq_getElem hk')
      have hj : j < sz := by rw [← hz el (List.mem_of_getElem? h1)]; exact (List.getElem?_eq_some_iff.1 h2).1
      have e1 : k / sz = i := by rw [e, Nat.mul_comm, Nat.mul_add_div (by omega), Nat.div_eq_of_lt hj]; omega
      have e2 : k % sz = j := by rw [e, Nat.mul_comm, Nat.mul_add_mod, Nat.mod_eq_of_lt hj]
      obtain ⟨q1, q2, _⟩ := hcell i j el _ h1 h2
      simp [e1, e2]
      rw [e]
      exact ⟨q1, q2⟩

/-! ### The world turns: what stays -/
theorem frozen_heap {w w' : World} {b o : Nat} (h : w'.heap[b]? = w.heap[b]?) : w'.frozen? ⟨b, o, none⟩ = w.frozen? ⟨b, o, none⟩ := by simp [World.frozen?, h]
theorem cell_heap_at {w w' : World} {b o : Nat} (h : w'.heap[b]? = w.heap[b]?) : w'.cell? ⟨b, o, none⟩ = w.cell? ⟨b, o, none⟩ := by simp [World.cell?, h]
theorem Row.keep {w w' : World} {b : Nat} {c : Array Value} (h : Row w b c) (he : w'.heap[b]? = w.heap[b]?) : Row w' b c := by
  obtain ⟨e, fz, hh⟩ := h.heap
  exact ⟨⟨e, fz, by rw [he, hh]⟩, fun o ho => by rw [frozen_heap he]; exact h.free o ho⟩
theorem Row.lt {w : World} {b : Nat} {c : Array Value} (h : Row w b c) : b < w.heap.size := by
  obtain ⟨e, fz, hh⟩ := h.heap
  exact (Array.getElem?_eq_some_iff.1 hh).1

theorem SegR.keep {w w' : World} {κ κ' : Im} {s : Seg} (h : SegR w κ s) (he : Ext w κ w' κ') (hb : ∀ b, s.blk = some b → w'.heap[b]? = w.heap[b]? ∧ ∀ o, κ' b o → κ b o) : SegR w' κ' s := by
  cases s with
  | row app n sz =>
    cases app with
    | tok b cap =>
      obtain ⟨c, h1, h2, h3, h4⟩ := h
      obtain ⟨k1, k2⟩ := hb b rfl
      exact ⟨c, h1.keep k1, h2, h3, fun o ho hk => h4 o ho (k2 o hk)⟩
    | _ => trivial
  | obj tag b cells =>
    obtain ⟨c, h1, h2, h3, h4, h5⟩ := h
    obtain ⟨k1, k2⟩ := hb b rfl
    exact ⟨c, h1.keep k1, h2, h3, fun o hk => h4 o (k2 o hk), fun j x u hx hu => (h5 j x u hx hu).mono he⟩

/-- What is owned is old. -/
theorem StR.own_lt {w : World} {κ : Im} {st : St} (h : StR G w κ st) : ∀ b ∈ own st, b < w.heap.size := by
  intro b hb
  obtain ⟨s, hs, hbs⟩ := List.mem_filterMap.1 hb
  have := h.seg s hs
  cases s with
  | row app n sz =>
    cases app with
    | tok b' cap =>
      simp [Seg.blk] at hbs; subst hbs
      obtain ⟨c, h1, _⟩ := this
      exact h1.lt
    | _ => simp [Seg.blk] at hbs
  | obj tag b' cells =>
    simp [Seg.blk] at hbs; subst hbs
    obtain ⟨c, h1, _⟩ := this
    exact h1.lt

theorem StR.keep {w w' : World} {κ κ' : Im} {st : St} (h : StR G w κ st) (he : Ext w κ w' κ') (hb : ∀ b ∈ own st, w'.heap[b]? = w.heap[b]? ∧ ∀ o, κ' b o → κ b o) (hlt : ∀ b o, κ' b o → b < w'.heap.size) : StR G w' κ' st :=
  ⟨fun g => (h.glob g).mono he, fun s hs => (h.seg s hs).keep he fun b hbs => hb b (List.mem_filterMap.2 ⟨s, hs, hbs⟩), h.nodup, hlt⟩

/-! ### A new block -/
/-- The first n cells of a block join those that never turn again. -/
def addIm (κ : Im) (b n : Nat) : Im := fun b' o => κ b' o ∨ (b' = b ∧ o < n)

theorem heap_alloc (w : World) (o : Obj) {k : Nat} (h : k < w.heap.size) : (w.alloc o).heap[k]? = w.heap[k]? := by
  show (w.heap.push o)[k]? = _
  rw [Array.getElem?_push, if_neg (by omega)]
theorem heap_new (w : World) (o : Obj) : (w.alloc o).heap[w.heap.size]? = some o := by
  show (w.heap.push o)[w.heap.size]? = _
  simp

/-- The same memory (an answer of the tape may have been drawn). -/
structure Same (w w1 : World) : Prop where
  heap : w1.heap = w.heap
  os : w1.os = w.os
  tape : w1.tape = w.tape
  output : w1.output = w.output
theorem Same.refl (w : World) : Same w w := ⟨rfl, rfl, rfl, rfl⟩
theorem Same.drew (w : World) : Same w w.drew := ⟨rfl, rfl, rfl, rfl⟩

theorem alloc_stp {w w1 : World} (hs : Same w w1) {κ : Im} {st : St} (h : StR G w κ st) (c : Array Value) (e : TypeId) (fz : Nat × Nat) (hfz : ∀ o, o < c.size → ¬ (fz.1 ≤ o ∧ o < fz.2)) (n : Nat) (S : List Nat) :
    Stp S w κ (w1.alloc (.cells c e fz)) (addIm κ w.heap.size n) ∧ StR G (w1.alloc (.cells c e fz)) (addIm κ w.heap.size n) st ∧ Row (w1.alloc (.cells c e fz)) w.heap.size c := by
  have e1 : w1.heap.size = w.heap.size := by rw [hs.heap]
  have hh : ∀ k, k < w.heap.size → (w1.alloc (.cells c e fz)).heap[k]? = w.heap[k]? := fun k hk => by rw [heap_alloc w1 _ (by rw [e1]; exact hk), hs.heap]
  have hext : Ext w κ (w1.alloc (.cells c e fz)) (addIm κ w.heap.size n) := ⟨fun b o q => .inl q, fun b o q => cell_heap_at (hh b (h.lt b o q))⟩
  have hnew : (w1.alloc (.cells c e fz)).heap[w.heap.size]? = some (.cells c e fz) := by rw [← e1]; exact heap_new w1 _
  have hsz : (w1.alloc (.cells c e fz)).heap.size = w.heap.size + 1 := by rw [← e1]; exact World.size_alloc w1 _
  refine ⟨⟨hext, hs.os, hs.tape, hs.output, by rw [hsz]; omega, fun k hk _ => hh k hk, fun b o q hb _ => ?_⟩, ?_, ⟨_, _, hnew⟩, fun o ho => ?_⟩
  · rcases q with q | ⟨rfl, _⟩
    · exact q
    · omega
  · refine h.keep hext (fun b hb => ⟨hh b (h.own_lt b hb), fun o q => ?_⟩) fun b o q => ?_
    · rcases q with q | ⟨rfl, _⟩
      · exact q
      · have := h.own_lt _ hb; omega
    · rcases q with q | ⟨rfl, _⟩
      · have := h.lt b o q; rw [hsz]; omega
      · rw [hsz]; omega
  · have := hfz o ho
    simp only [World.frozen?, hnew]
    simpa using this

/-- A new block of the call's own, that may be written. -/
theorem alloc_obj {w w1 : World} (hs : Same w w1) {κ : Im} {st : St} (h : StR G w κ st) {c : Array Value} (e : TypeId) (fz : Nat × Nat) (hfz : ∀ o, o < c.size → ¬ (fz.1 ≤ o ∧ o < fz.2)) {cells : List AV} (hc : VRc w κ cells c) (tag : Nat) :
    ∃ κ', StR G (w1.alloc (.cells c e fz)) κ' (.obj tag w.heap.size cells :: st) ∧ Stp (own st) w κ (w1.alloc (.cells c e fz)) κ' ∧ Mine (own st) w (own (.obj tag w.heap.size cells :: st)) := by
  obtain ⟨h1, h2, h3⟩ := alloc_stp hs h c e fz hfz 0 (own st)
  refine ⟨_, ⟨h2.glob, fun s hs => ?_, ?_, h2.lt⟩, h1, fun b hb => ?_⟩
  · rcases List.mem_cons.1 hs with rfl | q
    · refine ⟨c, h3, hc.len.symm, hc.one, fun o q => ?_, fun j x u hx hu => (hc.vr j x u hx hu).mono h1.ext⟩
      rcases q with q | ⟨_, q⟩
      · exact absurd (h.lt _ _ q) (by omega)
      · omega
    · exact h2.seg s q
  · show (w.heap.size :: own st).Nodup
    refine List.nodup_cons.2 ⟨fun q => ?_, h2.nodup⟩
    have := h.own_lt _ q; omega
  · have hb' : b = w.heap.size ∨ b ∈ own st := by simpa [own, Seg.blk] using hb
    rcases hb' with rfl | q
    · exact .inr (Nat.le_refl _)
    · exact .inl q

/-- A new block that nobody will write. -/
theorem alloc_im {w w1 : World} (hs : Same w w1) {κ : Im} {st : St} (h : StR G w κ st) {c : Array Value} (e : TypeId) (fz : Nat × Nat) (hfz : ∀ o, o < c.size → ¬ (fz.1 ≤ o ∧ o < fz.2)) :
    ∃ κ', StR G (w1.alloc (.cells c e fz)) κ' st ∧ Stp (own st) w κ (w1.alloc (.cells c e fz)) κ' ∧ ∀ k (hk : k < c.size), (w1.alloc (.cells c e fz)).cell? ((⟨w.heap.size, 0, none⟩ : Addr).add k) = some c[k] ∧ κ' w.heap.size (0 + k) := by
  obtain ⟨h1, h2, h3⟩ := alloc_stp hs h c e fz hfz c.size (own st)
  refine ⟨_, h2, h1, fun k hk => ?_⟩
  rw [add_mk, Nat.zero_add, h3.cell, Array.getElem?_eq_getElem hk]
  exact ⟨rfl, .inr ⟨rfl, hk⟩⟩

/-- A new block, the first cells of which are a row that may be appended to. -/
theorem alloc_row {w w1 : World} (hs : Same w w1) {κ : Im} {st l₁ l₂ : St} (h : StR G w κ st) (hsub : ∃ m, st = l₁ ++ m ++ l₂) {c : Array Value} (e : TypeId) (fz : Nat × Nat) (hfz : ∀ o, o < c.size → ¬ (fz.1 ≤ o ∧ o < fz.2))
    {n sz cap : Nat} (hcap : c.size = cap * sz) (hn : n ≤ cap) :
    ∃ κ', StR G (w1.alloc (.cells c e fz)) κ' (l₁ ++ .row (.tok w.heap.size cap) n sz :: l₂) ∧ Stp (own st) w κ (w1.alloc (.cells c e fz)) κ' ∧ Mine (own st) w (own (l₁ ++ .row (.tok w.heap.size cap) n sz :: l₂)) ∧
      ∀ k (hk : k < n * sz), (w1.alloc (.cells c e fz)).cell? ((⟨w.heap.size, 0, none⟩ : Addr).add k) = c[k]? ∧ κ' w.heap.size (0 + k) := by
  obtain ⟨m, rfl⟩ := hsub
  obtain ⟨h1, h2, h3⟩ := alloc_stp hs h c e fz hfz (n * sz) (own (l₁ ++ m ++ l₂))
  have hsubl : (l₁ ++ l₂).Sublist (l₁ ++ m ++ l₂) := by
    rw [List.append_assoc]
    exact (List.Sublist.refl l₁).append (List.sublist_append_right m l₂)
  have hd := h2.drop hsubl
  have hperm : (own (l₁ ++ .row (.tok w.heap.size cap) n sz :: l₂)).Perm (w.heap.size :: own (l₁ ++ l₂)) := by
    have : own (l₁ ++ .row (.tok w.heap.size cap) n sz :: l₂) = own l₁ ++ w.heap.size :: own l₂ := by simp [own, Seg.blk]
    rw [this, show own (l₁ ++ l₂) = own l₁ ++ own l₂ from by simp [own]]
    exact List.perm_middle
  refine ⟨_, ⟨h2.glob, fun s hs => ?_, ?_, h2.lt⟩, h1, fun b hb => ?_, fun k hk => ?_⟩
  · have hs' : s = .row (.tok w.heap.size cap) n sz ∨ s ∈ l₁ ++ l₂ := by
      simp at hs ⊢
      rcases hs with q | q | q
      · exact .inr (.inl q)
      · exact .inl q
      · exact .inr (.inr q)
    rcases hs' with rfl | q
    · refine ⟨c, h3, hcap, hn, fun o ho q => ?_⟩
      rcases q with q | ⟨_, q⟩
      · exact absurd (h.lt _ _ q) (by omega)
      · omega
    · exact hd.seg s q
  · refine hperm.nodup_iff.2 (List.nodup_cons.2 ⟨fun q => ?_, hd.nodup⟩)
    have := h.own_lt _ (own_sub hsubl _ q); omega
  · rcases List.mem_cons.1 (hperm.subset hb) with rfl | q
    · exact .inr (Nat.le_refl _)
    · exact .inl (own_sub hsubl _ q)
  · rw [add_mk, Nat.zero_add, h3.cell]
    exact ⟨rfl, .inr ⟨rfl, hk⟩⟩
end Go.Eng
