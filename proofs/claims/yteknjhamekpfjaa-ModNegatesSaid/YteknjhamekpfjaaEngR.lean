/- The engine, part R: from a function's contract to what is claimed of it: true whatever the input, and the arguments read as they did. -/
import Derived.Test.YteknjhamekpfjaaEngP
import Derived.ProofKit
import Derived.Carry
import Derived.Seven
import Derived.Deep.Matrix
import Derived.SizedLaws
set_option linter.unusedVariables false
set_option linter.unusedSimpArgs false
namespace Go.Eng
open Go.RowKit Go.ChangeShapes Go.WideShapes Go.ChangeAt

/-- All cells that there are. -/
def allIm (w : World) : Im := fun b _ => b < w.heap.size

theorem ACall.law {P : Program} {G : Nat → AV} {f : FuncId} {avs : List AV} {x : AV} {v : Value} (h : ACall P G f avs (fun r st => r = x ∧ st = []) []) {W : World} (hG : ∀ g, VR W (allIm W) (G g) (.pointer (some ⟨g, 0, none⟩))) {args : Array Value} (hsz : args.size = avs.length)
    (hv : ∀ (j : Nat) y c, avs[j]? = some y → args[j]? = some c → VR W (allIm W) y c) (hx : ∀ w κ c, VR w κ x c → c = v) : Calls P f args W fun e W' => e = .returned v ∧ Below W.heap.size W W' := by
  refine (h W (allIm W) args hsz hv ⟨hG, by simp, by simp [own], fun b o q => q⟩).mono ?_
  rintro e w' ⟨r, cr, st', κ', rfl, ⟨rfl, rfl⟩, hvr, _, hstp, _⟩
  exact ⟨by rw [hx _ _ _ hvr], hstp.os, hstp.tape, hstp.output, hstp.size, fun k hk => hstp.block k hk (by simp [own])⟩

theorem trodAll_len {H : Type} {enc : TypeId × Value → H} {P : Program} {w : World} {base : Nat} {spare : Nat → Bool} {held : Bool} : ∀ {ts : List TypeId} {vs : List Value} {ds : List (DataW H)} {ps : List MemPlace},
    DataW.TrodAll enc P w base spare held ts vs ds ps → ds.length = ts.length
  | [], [], [], _, _ => rfl
  | [], [], _ :: _, _, h => h.elim
  | [], _ :: _, _, _, h => by cases h
  | _ :: _, [], _, _, h => by cases h
  | _ :: _, _ :: _, [], _, h => by cases h
  | t :: ts, v :: vs, d :: ds, ps, h => by
    obtain ⟨p, q, _, h2, _⟩ := h
    simp [trodAll_len h2]

theorem trodAll_below {H : Type} {enc : TypeId × Value → H} {P : Program} (hl : laidOutB P = true) {W W' : World} (hb : Below W.heap.size W W') : ∀ {ts : List TypeId} {vs : List Value} {ds : List (DataW H)} {ps : List MemPlace}, (∀ t ∈ ts, P.readableRec t = true ∧ t < P.types.size) →
    DataW.TrodAll enc P W 0 (fun _ => true) true ts vs ds ps → (∀ x ∈ ps, x.block < W.heap.size) → DataW.TrodAll enc P W' 0 (fun b => decide (b < W.heap.size)) true ts vs ds ps
  | [], [], [], _, _, h, _ => h
  | [], [], _ :: _, _, _, h, _ => h.elim
  | [], _ :: _, _, _, _, h, _ => by cases h
  | _ :: _, [], _, _, _, h, _ => by cases h
  | _ :: _, _ :: _, [], _, _, h, _ => by cases h
  | t :: ts, v :: vs, d :: ds, ps, hr, h, hlt => by
    obtain ⟨p, q, h1, h2, rfl⟩ := h
    exact ⟨p, q, Below.trod hl (hr t (by simp)).1 (hr t (by simp)).2 h1 hb (fun x hx => hlt x (by simp [hx])),
      trodAll_below hl hb (fun t ht => hr t (by simp [ht])) h2 (fun x hx => hlt x (by simp [hx])), rfl⟩

theorem law_post {H : Type} {enc : TypeId × Value → H} {P : Program} {fid : FuncId} {f : Func} {s : ChangeSpec} {W : World} {args : Array Value} {ds gs : List (DataW H)} {before : List MemPlace} {tb : TypeId}
    (hl : laidOutB P = true) (hr : f.params.toList.all (fun t => P.readableRec t && decide (t < P.types.size)) = true) (hres : f.resultTypes = #[tb]) (hb : P.underlying tb = some .bool) (hvars : s.vars = [])
    (hfn : ∀ ds : List (DataW H), ds.length = f.params.toList.length → s.fn H ds = { results := [.lit (.bool true)], args := ds })
    (hW : DataW.Whole enc P f.params.toList s.vars false W args.toList ds gs before) (hcall : Calls P fid args W fun e W' => e = .returned (.bool true) ∧ Below W.heap.size W W') :
    Calls P fid args W fun e W' => ∃ v, e = .returned v ∧ s.post enc P f false true false false W args v W' := by
  refine hcall.mono ?_
  rintro e W' ⟨rfl, hbel⟩
  refine ⟨_, rfl, ?_⟩
  have hW0 := hW
  obtain ⟨p, q, hA, hV, rfl, hz, hn⟩ := hW
  rw [hvars] at hV
  obtain ⟨rfl, rfl⟩ := trodVars_none hV
  have hlt : ∀ x ∈ p, x.block < W.heap.size := fun x hx => by
    have := hW0.lt x (by simp [hx])
    simpa using this
  have hfn' : s.fn H (ds ++ []) = { results := [.lit (.bool true)], args := ds } := by rw [List.append_nil]; exact hfn ds (trodAll_len hA)
  refine ⟨ds, [], p ++ [], [], p, [], hW0, ?_, ?_, ?_, Below.frame hbel _, fun h => by cases h⟩
  · rw [hres, hfn']
    exact trodAll_mk1 (shut_bool hb true)
  · rw [hfn']
    refine trodAll_below hl hbel (fun t ht => ?_) hA hlt
    have := List.all_eq_true.1 hr t ht
    simpa using this
  · rw [hfn', hvars]
    rfl

theorem vr_bytes {W : World} {a : Addr} {len cap : Nat} {zs : List Int} (hl : len ≤ cap) (hz : zs.length = cap) (hcell : ∀ i, i < zs.length → W.cell? (a.add i) = some (.int .u8 (zs.getD i 0))) (hwz : ∀ n ∈ zs, (Lit.int .u8 n).wf = true) :
    ((zs.take len).map fun z => UInt8.ofNat z.toNat).length = len ∧ VR W (allIm W) (bs .no ((zs.take len).map fun z => UInt8.ofNat z.toNat)) (.slice (some a) len cap) := by
  have hw : ∀ i, i < zs.length → 0 ≤ zs.getD i 0 ∧ zs.getD i 0 < 256 := fun i hi => by
    have hm : zs.getD i 0 ∈ zs := by simp [List.getD, hi]
    have := hwz _ hm
    generalize zs.getD i 0 = z at *
    simp [Lit.wf, IntKind.min, IntKind.max, IntKind.signed, IntKind.bits] at this
    omega
  have hlen : ((zs.take len).map fun z => UInt8.ofNat z.toNat).length = len := by simp; omega
  refine ⟨hlen, ?_⟩
  have key : ∀ i (j : Nat) (el : List AV) x, (((zs.take len).map fun z => UInt8.ofNat z.toNat).map b8)[i]? = some el → el[j]? = some x → j = 0 ∧ i < len ∧ x = .int .u8 (zs.getD i 0) := by
    intro i j el x h1 h2
    simp only [List.getElem?_map, Option.map_eq_some_iff] at h1
    obtain ⟨c, ⟨z, hz1, rfl⟩, rfl⟩ := h1
    have hi : i < len := by
      have := (List.getElem?_eq_some_iff.1 hz1).1
      simp at this; omega
    cases j with
    | zero =>
      simp [b8] at h2
      refine ⟨rfl, hi, ?_⟩
      rw [List.getElem?_take, if_pos hi] at hz1
      have hg : zs.getD i 0 = z := by simp [List.getD, hz1]
      have := hw i (by omega)
      rw [hg] at this ⊢
      rw [← h2, show max z 0 % 256 = z from by omega]
    | succ j => simp [b8] at h2
  have := VR.sl (w := W) (κ := allIm W) .no a cap 1 (((zs.take len).map fun z => UInt8.ofNat z.toNat).map b8) (fun i _ => .int .u8 (zs.getD i 0)) (by simp) (by rw [List.length_map, hlen]; exact hl) (by simp) (by simp)
    (fun el hel => by obtain ⟨c, _, rfl⟩ := List.mem_map.1 hel; rfl)
    (fun i j el x h1 h2 => by
      obtain ⟨rfl, hi, rfl⟩ := key i j el x h1 h2
      have hci := hcell i (by omega)
      refine ⟨by simpa using hci, ?_, rfl⟩
      have := World.block_lt_of_cell? W _ hci
      rwa [add_block] at this)
    (fun i j el x h1 h2 => by
      obtain ⟨rfl, hi, rfl⟩ := key i j el x h1 h2
      exact .v _)
  rw [List.length_map, hlen] at this
  exact this
/-- Bytes that came in. -/
theorem open_bytes {H : Type} {enc : TypeId × Value → H} {P : Program} {W : World} {t e : TypeId} {v : Value} {d : DataW H} {ps : List MemPlace} {b0 : Nat} (ht : P.underlying t = some (.slice e)) (he : P.underlying e = some (.int .u8)) (hc : P.cellsOf e = 1)
    (hval : Value.okWide P W .any b0 t v) (h : DataW.Trod enc P W 0 (fun _ => true) true t v d ps) :
    ∃ (app : App) (l : List UInt8), (app = .nil ∧ l = [] ∨ app = .no) ∧ l.length ≤ maxLen ∧ VR W (allIm W) (bs app l) v := by
  obtain ⟨fuel, hf⟩ := h
  obtain ⟨a0, len, cap, rfl⟩ := okWide_slice ht hval
  rcases open_ints ht he hc hf with ⟨hcs, hx⟩ | ⟨a, len', cap', zs, hcs, _, hl, hm, hz, hx, hcell, hwz⟩
  · simp [Value.cells] at hcs
    obtain ⟨rfl, rfl, rfl⟩ := hcs
    exact ⟨.nil, [], .inl ⟨rfl, rfl⟩, Nat.zero_le _, .nilsl 1⟩
  · simp [Value.cells] at hcs
    obtain ⟨rfl, rfl, rfl⟩ := hcs
    simp only [if_true] at hz
    obtain ⟨h1, h2⟩ := vr_bytes hl hz hcell hwz
    exact ⟨.no, _, .inr rfl, by rw [h1]; omega, h2⟩
theorem weightsAll_mem {H : Type} {P : Program} {e : TypeId} {d : DataW H} {n : Nat} (hn : n ∈ d.weights P e) : ∀ {l : List (DataW H)}, d ∈ l → n ∈ DataW.weightsAll P e l
  | [], h => by cases h
  | x :: r, h => by
    unfold DataW.weightsAll
    rcases List.mem_cons.1 h with rfl | h
    · exact List.mem_append_left _ hn
    · exact List.mem_append_right _ (weightsAll_mem hn h)
/-- Slices of bytes that came in. -/
theorem open_byteses {H : Type} {enc : TypeId × Value → H} {P : Program} {W : World} {t e q : TypeId} {v : Value} {d : DataW H} {ps : List MemPlace} {b0 : Nat} (ht : P.underlying t = some (.slice e)) (he : P.underlying e = some (.slice q)) (hq : P.underlying q = some (.int .u8)) (ce : P.cellsOf e = 1) (cq : P.cellsOf q = 1) (hb : P.bytesOf q = 1)
    (hval : Value.okWide P W .any b0 t v) (h : DataW.Trod enc P W 0 (fun _ => true) true t v d ps) (hw : ∀ n ∈ d.weights P t, n ≤ reachBytes) :
    ∃ (app : App) (l : List (App × List UInt8)), l.length ≤ maxLen ∧ (∀ p ∈ l, p.2.length ≤ reachBytes ∧ (p.1 = .nil → p.2 = [])) ∧ VR W (allIm W) (.sl app 1 (l.map fun p => [bs p.1 p.2])) v := by
  obtain ⟨fuel, hf⟩ := h
  obtain ⟨a0, len, cap, rfl⟩ := okWide_slice ht hval
  rcases Go.Deep.open_int_rows ht he hq ce cq hf with ⟨hcs, hx⟩ | ⟨a, len', cap', A, L, C, Z, hcs, _, hl, hm, hx, hr⟩
  · simp [Value.cells] at hcs
    obtain ⟨rfl, rfl, rfl⟩ := hcs
    exact ⟨.nil, [], Nat.zero_le _, by simp, .nilsl 1⟩
  · simp [Value.cells] at hcs
    obtain ⟨rfl, rfl, rfl⟩ := hcs
    simp only [Prod.mk.injEq] at hx
    obtain ⟨rfl, rfl⟩ := hx
    have each : ∀ r, ∃ p : App × List UInt8, r < len → p.2.length ≤ reachBytes ∧ (p.1 = .nil → p.2 = []) ∧ VR W (allIm W) (bs p.1 p.2) (.slice (A r) (L r) (C r)) := fun r => by
      by_cases hlt : r < len
      · obtain ⟨_, r1, r2, r3, r4, r5, r6⟩ := hr r (by omega)
        cases hA : A r with
        | none =>
          have hC := r5 hA
          have hLr : L r = 0 := by omega
          exact ⟨(.nil, []), fun _ => ⟨Nat.zero_le _, fun _ => rfl, by rw [hC, hLr]; exact .nilsl 1⟩⟩
        | some a' =>
          obtain ⟨h1, h2⟩ := vr_bytes (W := W) r1 r3 (fun i hi => (r6 a' hA).2 i (by omega)) r4
          have h3 := hw (((Z r).take (L r)).length + ((Z r).drop (L r)).length) (by
            simp only [DataW.weights, ht]
            refine List.mem_cons_of_mem _ (List.mem_append_left _ (weightsAll_mem (d := Go.Deep.intRow .u8 (A r) (L r) (Z r)) ?_ (List.mem_map.2 ⟨r, by simpa using hlt, rfl⟩)))
            rw [hA]
            simp only [Go.Deep.intRow, DataW.weights, he, lits, List.length_map, hb, Nat.mul_one]
            exact List.mem_cons_self ..)
          rw [← List.length_append, List.take_append_drop] at h3
          exact ⟨(.no, _), fun _ => ⟨by show List.length _ ≤ _; rw [h1]; omega, by simp, h2⟩⟩
      · exact ⟨(.nil, []), fun h => absurd h hlt⟩
    obtain ⟨f, hf'⟩ := Classical.axiomOfChoice each
    have key : ∀ i (j : Nat) (el : List AV) x, (((List.range len).map f).map fun p => [bs p.1 p.2])[i]? = some el → el[j]? = some x → j = 0 ∧ i < len ∧ x = bs (f i).1 (f i).2 := by
      intro i j el x h1 h2
      simp only [List.getElem?_map, Option.map_eq_some_iff] at h1
      obtain ⟨p, ⟨r, hr1, rfl⟩, rfl⟩ := h1
      have hri := List.getElem?_eq_some_iff.1 hr1
      obtain ⟨hi, hri⟩ := hri
      simp at hi hri
      subst hri
      cases j with
      | zero => simp at h2; exact ⟨rfl, hi, h2.symm⟩
      | succ j => simp at h2
    refine ⟨.no, (List.range len).map f, by simp; omega, fun p hp => ?_, ?_⟩
    · obtain ⟨r, hr1, rfl⟩ := List.mem_map.1 hp
      have := hf' r (by simpa using hr1)
      exact ⟨this.1, this.2.1⟩
    · have := VR.sl (w := W) (κ := allIm W) .no a cap 1 (((List.range len).map f).map fun p => [bs p.1 p.2]) (fun i _ => .slice (A i) (L i) (C i)) (by simp) (by simp; omega) (by simp) (by simp)
        (fun el hel => by obtain ⟨c, _, rfl⟩ := List.mem_map.1 hel; rfl)
        (fun i j el x h1 h2 => by
          obtain ⟨rfl, hi, rfl⟩ := key i j el x h1 h2
          have hci := (hr i (by omega)).1
          refine ⟨by simpa using hci, ?_, rfl⟩
          have := World.block_lt_of_cell? W _ hci
          rwa [add_block] at this)
        (fun i j el x h1 h2 => by
          obtain ⟨rfl, hi, rfl⟩ := key i j el x h1 h2
          exact (hf' i hi).2.2)
      simpa using this
theorem open_whole {H : Type} {enc : TypeId × Value → H} {P : Program} {W : World} {t : TypeId} {k : IntKind} {v : Value} {d : DataW H} {ps : List MemPlace} {b0 : Nat} (ht : P.underlying t = some (.int k))
    (hval : Value.okWide P W .any b0 t v) (h : DataW.Trod enc P W 0 (fun _ => true) true t v d ps) : ∃ n, (k.min ≤ n ∧ n ≤ k.max) ∧ v = .int k n := by
  obtain ⟨n, rfl, _, _, hw⟩ := open_int ht hval h
  exact ⟨n, by simpa [Lit.wf] using hw, rfl⟩
theorem bool_of {x : Bool} : ∀ (w : World) (κ : Im) (c : Value), VR w κ (.bool x) c → c = .bool x := fun _ _ _ h => h.v_inv
end Go.Eng
