/- The engine, part L: append; calls. -/
import Derived.Test.YteknjhamekpfjaaEngK
set_option linter.unusedVariables false
set_option linter.unusedSimpArgs false
namespace Go.Eng
open Go.RowKit

variable {P : Program} {G : Nat → AV}

theorem run_append_room {t u ty e : TypeId} {inf : TypeInfo} {du : TypeDesc} (hu : P.underlying t = some (.slice e)) (hi : P.info? e = some inf) (hdu : P.underlying u = some du) (hni : ∀ k, du ≠ .int k)
    {w : World} {m n cap : Nat} {base : Option Addr} {v : Value} {D : Array Value} (hlen : ∀ w', (Builtin.lenOf v).run P w' = .ok m w') (hcells : ∀ w' : World, w'.heap = w.heap → (Builtin.firstCells (P.cellsOf e) m v).run P w' = .ok D w') (hr : n + m ≤ cap) {w' : World}
    (hst : ∀ a, base = some a → (storeCells (a.add (n * P.cellsOf e)) D.toList).run P w = .ok () w') (hnone : base = none → w' = w) :
    (Builtin.append_ #[t, u] ty #[.slice base n cap, v]).run P w = .ok (.slice base (n + m) cap) w' := by
  cases base with
  | none =>
    have := hnone rfl
    subst this
    cases du <;> first
      | exact absurd rfl (hni _)
      | (simp only [Builtin.append_, List.getElem?_toArray, List.getElem?_cons_zero, List.getElem?_cons_succ, Sem.run_bind, run_underlying hu, run_underlying hdu, Result.andThen_ok, run_sizeOf' hi, Sem.run_pure, Bool.false_eq_true, if_false, Bool.not_false, if_true, hlen, Sem.run_ite, hr, hcells _ rfl]
         done)
  | some a =>
    cases du <;> first
      | exact absurd rfl (hni _)
      | (simp only [Builtin.append_, List.getElem?_toArray, List.getElem?_cons_zero, List.getElem?_cons_succ, Sem.run_bind, run_underlying hu, run_underlying hdu, Result.andThen_ok, run_sizeOf' hi, Sem.run_pure, Bool.false_eq_true, if_false, Bool.not_false, if_true, hlen, Sem.run_ite, hr, hcells _ rfl, hst a rfl]
         done)

theorem run_append_new {t u ty e : TypeId} {inf : TypeInfo} {zv : Value} {du : TypeDesc} (hu : P.underlying t = some (.slice e)) (hi : P.info? e = some inf) (hz : inf.zero = some zv) (hdu : P.underlying u = some du) (hni : ∀ k, du ≠ .int k)
    {w : World} {m n cap : Nat} {base : Option Addr} {v : Value} {C D : Array Value} (hlen : ∀ w', (Builtin.lenOf v).run P w' = .ok m w') (hcells : ∀ w' : World, w'.heap = w.heap → (Builtin.firstCells (P.cellsOf e) m v).run P w' = .ok D w')
    (hold : ∀ w' : World, w'.heap = w.heap → (Builtin.firstCells (P.cellsOf e) n (.slice base n cap)).run P w' = .ok C w') (hr : ¬ (n + m ≤ cap)) (h63 : n + m ≤ 9223372036854775807) (hb : (n + m) * inf.bytes ≤ 140737488355328) :
    ∃ k, n + m ≤ k ∧ (Builtin.append_ #[t, u] ty #[.slice base n cap, v]).run P w = .ok (.slice (some ⟨w.heap.size, 0, none⟩) (n + m) k) (w.drew.alloc (.cells (C ++ D ++ Builtin.zeroCells zv.cells (k - (n + m))) e)) := by
  refine ⟨(Question.appendCap (n + m) cap e).cut (w.tape w.drawn (.appendCap (n + m) cap e)), by show n + m ≤ (n + m) + _; omega, ?_⟩
  have h1 : ¬ (((n + m : Nat) : Int) > IntKind.i64.max ∧ (False ∨ inf.bytes = 0)) := by
    have : IntKind.i64.max = 9223372036854775807 := by decide
    omega
  have h2 : ¬ (Builtin.nextslicecap (n + m) cap * inf.bytes > 2 ^ 48) := by
    have := growslice_fits (need := n + m) (old := cap) (bytes := inf.bytes) (by omega) hb
    omega
  have hch : (choose (.appendCap (n + m) cap e)).run P w = .ok ((Question.appendCap (n + m) cap e).cut (w.tape w.drawn (.appendCap (n + m) cap e))) w.drew := by
    simp only [run_choose, Question.forced, Bool.false_eq_true, if_false]; rfl
  have hti : ∀ w', (typeInfo e).run P w' = .ok inf w' := fun w' => by simp [typeInfo, hi]
  have hzr : ∀ w', (zeroValue e).run P w' = .ok zv w' := fun w' => by simp [zeroValue, typeInfo, hi, hz]
  have hnr : ∀ X, (newRow e X).run P w.drew = .ok ⟨w.heap.size, 0, none⟩ (w.drew.alloc (.cells X e)) := fun X => by simp [newRow]; rfl
  have hd : w.drew.heap = w.heap := rfl
  cases du <;> first
    | exact absurd rfl (hni _)
    | (simp only [Builtin.append_, List.getElem?_toArray, List.getElem?_cons_zero, List.getElem?_cons_succ, Sem.run_bind, run_underlying hu, run_underlying hdu, Result.andThen_ok, run_sizeOf' hi, Sem.run_pure, Bool.false_eq_true, if_false, Bool.not_false, if_true, hlen, Sem.run_ite, hr, hti, h1, h2, hch, run_askRoom, hold _ hd, hcells _ hd, hzr, hnr]
       done)

theorem zeroCells_size (z : Array Value) (n : Nat) : (Builtin.zeroCells z n).size = n * z.size := by simp [Builtin.zeroCells]

/-- A row that may be appended to, longer in place. -/
theorem row_longer {w : World} {κ : Im} {l₁ l₂ : St} {b cap n sz : Nat} (hs : StR G w κ (l₁ ++ .row (.tok b cap) n sz :: l₂)) {m : Nat} (hm : n + m ≤ cap) {D : Array Value} (hD : D.size = m * sz) (h1 : ∀ u ∈ D, u.oneCell' = true) :
    ∃ κ', (storeCells ((⟨b, 0, none⟩ : Addr).add (n * sz)) D.toList).run P w = .ok () (w.setCells b (n * sz) D.toList) ∧ StR G (w.setCells b (n * sz) D.toList) κ' (l₁ ++ .row (.tok b cap) (n + m) sz :: l₂) ∧
      Stp (own (l₁ ++ .row (.tok b cap) n sz :: l₂)) w κ (w.setCells b (n * sz) D.toList) κ' ∧ Mine (own (l₁ ++ .row (.tok b cap) n sz :: l₂)) w (own (l₁ ++ .row (.tok b cap) (n + m) sz :: l₂)) ∧
      ∀ k, k < (n + m) * sz → (w.setCells b (n * sz) D.toList).cell? ⟨b, k, none⟩ = (if k < n * sz then w.cell? ⟨b, k, none⟩ else D[k - n * sz]?) ∧ κ' b k := by
  obtain ⟨c, hrow, hcs, hn, hnk⟩ := hs.seg (.row (.tok b cap) n sz) (by simp)
  have hle : (n + m) * sz ≤ cap * sz := Nat.mul_le_mul_right _ hm
  rw [Nat.add_mul] at hle
  obtain ⟨hrun, c', g0, g1, g2, g3, g4, g5, g6, g7⟩ := run_setCells (P := P) hrow (n * sz) D.toList (by simp; omega) (fun v hv => h1 v (by simpa using hv))
  have hown : ∀ q, own (l₁ ++ .row (.tok b cap) q sz :: l₂) = own l₁ ++ b :: own l₂ := fun q => by simp [own, Seg.blk]
  have hnd := hs.nodup
  rw [hown] at hnd
  have hnb : ∀ b' ∈ own l₁ ++ own l₂, b' ≠ b := by
    have := (List.perm_middle (a := b) (l₁ := own l₁) (l₂ := own l₂)).nodup_iff.1 hnd
    intro b' hb' e; subst e
    exact (List.nodup_cons.1 this).1 hb'
  have hcell : ∀ k, (w.setCells b (n * sz) D.toList).cell? ⟨b, k, none⟩ = if n * sz ≤ k ∧ k < n * sz + D.toList.length ∧ k < c.size then D.toList[k - n * sz]? else c[k]? := fun k => by rw [g0.cell, g2]
  have hext : Ext w κ (w.setCells b (n * sz) D.toList) (addIm κ b ((n + m) * sz)) := by
    refine ⟨fun b' o q => .inl q, fun b' o q => ?_⟩
    by_cases hb : b' = b
    · subst hb
      have ho : o < n * sz := by
        rcases Nat.lt_or_ge o (n * sz) with r | r
        · exact r
        · exact absurd q (hnk o r)
      rw [hcell, if_neg (by omega), hrow.cell]
    · exact cell_heap_at (g3 b' hb)
  refine ⟨addIm κ b ((n + m) * sz), by rw [add_mk, Nat.zero_add]; exact hrun, ⟨fun g => (hs.glob g).mono hext, fun s hss => ?_, by rw [hown]; exact hnd, fun b' o q => ?_⟩, ⟨hext, g5, g6, g7, by omega, fun k _ hS => g3 k fun e => hS ?_, fun b' o q _ hS => ?_⟩, by rw [hown, hown]; exact .refl _ _, fun k hk => ⟨?_, .inr ⟨rfl, hk⟩⟩⟩
  · have hcase : s = .row (.tok b cap) (n + m) sz ∨ s ∈ l₁ ∨ s ∈ l₂ := by
      simp at hss
      rcases hss with q | q | q
      · exact .inr (.inl q)
      · exact .inl q
      · exact .inr (.inr q)
    rcases hcase with rfl | q
    · refine ⟨c', g0, by rw [g1, hcs], hm, fun o ho q => ?_⟩
      rcases q with q | ⟨_, q⟩
      · exact hnk o (by rw [Nat.add_mul] at ho; omega) q
      · omega
    · have hmem : s ∈ l₁ ++ .row (.tok b cap) n sz :: l₂ := by simp; rcases q with q | q; exact .inl q; exact .inr (.inr q)
      have hne : ∀ b', s.blk = some b' → b' ≠ b := fun b' hb' => hnb b' (by rw [← own_app]; exact List.mem_filterMap.2 ⟨s, by simpa using q, hb'⟩)
      refine (hs.seg s hmem).keep hext fun b' hb' => ⟨g3 b' (hne b' hb'), fun o q => ?_⟩
      rcases q with q | ⟨q, _⟩
      · exact q
      · exact absurd q (hne b' hb')
  · rcases q with q | ⟨rfl, _⟩
    · rw [g4]; exact hs.lt _ _ q
    · rw [g4]; exact hrow.lt
  · subst e; rw [hown]; simp
  · rcases q with q | ⟨rfl, _⟩
    · exact q
    · exact absurd (by rw [hown]; simp) hS
  · rw [hcell, hrow.cell]
    rw [Nat.add_mul] at hk
    by_cases hkn : k < n * sz
    · rw [if_neg (by omega), if_pos hkn]
    · rw [if_pos (by simp; omega), if_neg hkn]; simp

/-- An append. -/
theorem app_main {o : Oper} {t u e : TypeId} {inf : TypeInfo} {du : TypeDesc} {zv : Value} (c : Call) (ho : o.op = .call c) (hc : c.callee = .builtin .append) (ht : c.argTypes = #[t, u]) (hu : P.underlying t = some (.slice e)) (hi : P.info? e = some inf)
    (hz : inf.zero = some zv) (hzs : zv.cells.size = inf.size) (hdu : P.underlying u = some du) (hni : ∀ k, du ≠ .int k)
    {w : World} {κ : Im} {st : St} (hs : StR G w κ st) {a : Act} {x y : Operand} (ha : c.args = #[x, y]) {app : App} {els news : List (List AV)} (hx : VR w κ (.sl app inf.size els) (a.eval x)) {D : Array Value} (hD : FlatVR w κ inf.size news D)
    (hlen : ∀ w', (Builtin.lenOf (a.eval y)).run P w' = .ok news.length w') (hcells : ∀ w' : World, w'.heap = w.heap → (Builtin.firstCells inf.size news.length (a.eval y)).run P w' = .ok D w')
    {K : AV → St → Prop} (hg : AppGoal inf.size inf.bytes app els news st K) {next : Act → World → Prop} {Qc : Exit → Act → World → Prop}
    (hn : ∀ x v st' κ' w', K x st' → VR w' κ' x v → StR G w' κ' st' → Stp (own st) w κ w' κ' → Mine (own st) w (own st') → next (a.put o.dst v) w') : o.wp P a w next Qc := by
  obtain ⟨⟨hbytes, h63⟩, hnil, hcase⟩ := hg.out
  have hce : P.cellsOf e = inf.size := by simp [Program.cellsOf, hi]
  have hargs : ∀ s, a.eval x = s → c.args.map a.eval = #[s, a.eval y] := fun s hs => by simp [ha, hs]
  have fin : ∀ {v : Value} {w' : World}, (Builtin.append_ #[t, u] o.type #[a.eval x, a.eval y]).run P w = .ok v w' → (execOp a.eval o).run P w = .ok (.value v) w' := fun {v w'} h => by
    simp only [run_builtin c a ho hc, builtin, Sem.run_bind, hargs _ rfl, ht, h, Result.andThen_ok, Sem.run_pure]
  -- the new row
  have grow : ∀ (base : Option Addr) (cap : Nat) (C : Array Value), a.eval x = .slice base els.length cap → FlatVR w κ inf.size els C → (∀ w' : World, w'.heap = w.heap → (Builtin.firstCells inf.size els.length (.slice base els.length cap)).run P w' = .ok C w') →
      ¬ (els.length + news.length ≤ cap) → ∀ l₁ m l₂, st = l₁ ++ m ++ l₂ → (∀ b cap, K (.sl (.tok b cap) inf.size (els ++ news)) (l₁ ++ .row (.tok b cap) (els.length + news.length) inf.size :: l₂)) → o.wp P a w next Qc := by
    intro base cap C hA hC hold hr l₁ m l₂ hst hK
    rw [← hce] at hcells hold
    obtain ⟨k, hk, hrun⟩ := run_append_new (P := P) (ty := o.type) hu hi hz hdu hni hlen hcells hold hr h63 hbytes
    rw [← hA] at hrun
    have hCD := hC.append hD
    have hsz : (C ++ D).size = (els.length + news.length) * inf.size := by rw [hCD.size, List.length_append]
    have hall : (C ++ D ++ Builtin.zeroCells zv.cells (k - (els.length + news.length))).size = k * inf.size := by
      rw [Array.size_append, hsz, zeroCells_size, hzs, ← Nat.add_mul]; congr 1; omega
    obtain ⟨κ', g1, g2, g3, g4⟩ := alloc_row (.drew w) hs ⟨m, hst⟩ (c := C ++ D ++ Builtin.zeroCells zv.cells (k - (els.length + news.length))) e (0, 0) (fun o _ => by simp) (n := els.length + news.length) (sz := inf.size) (cap := k) hall hk
    refine wp_of_run (fin hrun) (hn _ _ _ κ' _ (hK w.heap.size k) ?_ g1 g2 g3)
    have := VR.sl_mk (app := .tok w.heap.size k) (a := ⟨w.heap.size, 0, none⟩) (cap := k) (hCD.mono g2.ext) (by rw [List.length_append]; exact hk) (by simp) (by simp) (fun b k q => by cases q; exact ⟨rfl, rfl⟩) (fun j hj => by
      obtain ⟨q1, q2⟩ := g4 j (by omega)
      rw [q1, Array.getElem?_append_left hj, Array.getElem?_eq_getElem hj]
      exact ⟨rfl, q2⟩)
    rw [List.length_append] at this
    exact this
  by_cases hne : news = []
  · subst hne
    have hD0 : D = #[] := by
      have := hD.size
      simp at this
      exact Array.eq_empty_of_size_eq_zero (by simp [this])
    subst hD0
    rcases sl_flat hx with ⟨rfl, rfl, hA⟩ | ⟨ad, cap, C, hnn, hA, hcap, _, _, hF, hm⟩
    · have hrun := run_append_room (P := P) (ty := o.type) (w := w) (n := 0) (cap := 0) (base := none) hu hi hdu hni hlen (by rw [hce]; exact hcells) (by simp) (w' := w) (fun a h => by cases h) (fun _ => rfl)
      rw [← hA] at hrun
      exact wp_of_run (fin hrun) (hn _ _ _ κ _ (hnil rfl) (by simpa [hA] using hx) hs (.refl _ _ _) (.refl _ _))
    · have hrun := run_append_room (P := P) (ty := o.type) (w := w) (n := els.length) (cap := cap) (base := some ad) hu hi hdu hni hlen (by rw [hce]; exact hcells) (by simpa using hcap) (w' := w) (fun a h => by simp [storeCells]) (fun h => by cases h)
      rw [← hA] at hrun
      exact wp_of_run (fin hrun) (hn _ _ _ κ _ (hnil rfl) (by simpa [hA] using hx) hs (.refl _ _ _) (.refl _ _))
  · have hpos : 0 < news.length := by rcases news with _ | ⟨_, _⟩; exact absurd rfl hne; simp
    rcases sl_flat hx with ⟨rfl, rfl, hA⟩ | ⟨ad, cap, C, hnn, hA, hcap, hfull, htok, hF, hm⟩
    · have hold : ∀ w' : World, w'.heap = w.heap → (Builtin.firstCells inf.size ([] : List (List AV)).length (.slice none ([] : List (List AV)).length 0)).run P w' = .ok #[] w' := fun w' _ => by simp [Builtin.firstCells]
      rcases hcase with ⟨_, hK⟩ | ⟨_, l₁, l₂, hst, hK⟩
      · exact grow none 0 #[] hA (.nil _ _ _) hold (by simp; omega) [] [] st rfl hK
      · exact grow none 0 #[] hA (.nil _ _ _) hold (by simp; omega) l₁ [.row .nil 0 inf.size] l₂ (by rw [hst]; simp) hK
    · have hold : ∀ w' : World, w'.heap = w.heap → (Builtin.firstCells inf.size els.length (.slice (some ad) els.length cap)).run P w' = .ok C w' := fun w' hw => by
        simp only [Builtin.firstCells]
        rw [load_cells (fun k hk => (hm k hk).1) _ (by rw [hF.size]; exact Nat.le_refl _) hw, ← hF.size, Array.extract_size]
      by_cases hr : els.length + news.length ≤ cap
      · -- in place
        rcases hcase with ⟨rfl | rfl, _⟩ | ⟨hno, l₁, l₂, hst, hK⟩
        · exact absurd rfl hnn
        · have := hfull rfl; omega
        · cases app with
          | nil => exact absurd rfl hnn
          | full => have := hfull rfl; omega
          | no => exact absurd rfl hno
          | tok b cap' =>
            obtain ⟨rfl, rfl⟩ := htok b cap' rfl
            subst hst
            obtain ⟨κ', q1, q2, q3, q4, q5⟩ := row_longer (P := P) hs (m := news.length) hr hD.size hD.vr.one
            have hrun := run_append_room (P := P) (ty := o.type) (w := w) (n := els.length) (cap := cap) (base := some ⟨b, 0, none⟩) hu hi hdu hni hlen (by rw [hce]; exact hcells) hr (fun a h => by cases h; rw [hce]; exact q1) (fun h => by cases h)
            rw [← hA] at hrun
            refine wp_of_run (fin hrun) (hn _ _ _ κ' _ (hK b cap) ?_ q2 q3 q4)
            have hCD := (hF.append hD).mono q3.ext
            have hsz : (C ++ D).size = (els.length + news.length) * inf.size := by rw [hCD.size, List.length_append]
            have := VR.sl_mk (app := .tok b cap) (a := ⟨b, 0, none⟩) (cap := cap) hCD (by rw [List.length_append]; exact hr) (by simp) (by simp) (fun b k q => by cases q; exact ⟨rfl, rfl⟩) (fun j hj => by
              obtain ⟨p1, p2⟩ := q5 j (by omega)
              rw [add_mk, Nat.zero_add]
              refine ⟨?_, p2⟩
              rw [p1]
              have hCs := hF.size
              by_cases hjn : j < els.length * inf.size
              · rw [if_pos hjn]
                have := (hm j (by omega)).1
                rw [add_mk, Nat.zero_add] at this
                rw [this, Array.getElem_append_left (by omega)]
              · rw [if_neg hjn, Array.getElem_append_right (by omega), ← hCs]
                exact Array.getElem?_eq_getElem _)
            rw [List.length_append] at this
            exact this
      · rcases hcase with ⟨_, hK⟩ | ⟨_, l₁, l₂, hst, hK⟩
        · exact grow (some ad) cap C hA hF hold hr [] [] st rfl hK
        · exact grow (some ad) cap C hA hF hold hr l₁ [.row app els.length inf.size] l₂ (by rw [hst]; simp) hK

theorem eff_app {o : Oper} {t u e : TypeId} {x y : Operand} {x' y' : Y} {inf : TypeInfo} {z : List AV} {du : TypeDesc} (ix : Is G x' x) (iy : Is G y' y) (c : Call) (ho : o.op = .call c) (hc : c.callee = .builtin .append) (ha : c.args = #[x, y]) (ht : c.argTypes = #[t, u])
    (hu : P.underlying t = some (.slice e)) (hi : P.info? e = some inf) (hz : zeroT P e = some z) (hzl : z.length = inf.size) (hdu : P.underlying u = some du) (hd : (∃ e', du = .slice e') ∨ (du = .string ∧ inf.size = 1)) :
    Eff P G (.app inf.size inf.bytes x' y') o := by
  intro N fr st K a w κ next Qc hf hs hv hn
  obtain ⟨zv, _, hzc, i', hi', hzi⟩ := zero_ok hz w κ
  rw [hi] at hi'; cases hi'
  have hzs : zv.cells.size = inf.size := by rw [← hzc.len, hzl]
  have hni : ∀ k, du ≠ .int k := by rcases hd with ⟨_, rfl⟩ | ⟨rfl, _⟩ <;> simp
  simp only [vcK, appVC] at hv
  split at hv
  · rename_i app sz els hx
    obtain ⟨rfl, hv⟩ := hv
    have hxv := at_of hf hs ix hx
    split at hv
    · rename_i app2 sz2 news hy
      obtain ⟨rfl, hg⟩ := hv
      obtain ⟨D, hF, hsrc⟩ := Src.sl (P := P) (at_of hf hs iy hy)
      refine app_main c ho hc ht hu hi hzi hzs hdu hni hs ha hxv hF hsrc.len (fun w' hw => ?_) hg hn
      have := hsrc.cells _ (Nat.le_refl _) w' hw
      rwa [← hF.size, Array.extract_size] at this
    · rename_i l hy
      have hyv := (at_of hf hs iy hy).str_inv
      obtain ⟨h1, hv⟩ := hv
      obtain ⟨D, hF, hlen, hcells⟩ := Src.str (P := P) w κ l
      have hml : (l.map b8).length = l.length := by simp
      refine app_main c ho hc ht hu hi hzi hzs hdu hni hs ha hxv (by rw [h1]; exact hF) (by rw [hyv, hml]; exact hlen) (fun w' hw => ?_) hv hn
      have := hcells w'
      have e1 : D.size = l.length * 1 := by rw [hF.size, hml]
      rw [← e1, Array.extract_size] at this
      rw [hyv, h1, hml]
      exact this
    · rename_i tag b off len hy
      obtain ⟨cells, hfo, ⟨hle, h0⟩, hg⟩ := withObj_elim hv
      obtain ⟨D, hD, hsrc⟩ := Src.osl (P := P) hs hfo hle (at_of hf hs iy hy)
      · obtain ⟨c1, c2, c3⟩ := chunk_flat (sz := inf.size) (n := len) (l := (cells.drop off).take (len * inf.size)) (by omega) (by simp; omega)
        have hF : FlatVR w κ inf.size (chunk inf.size len ((cells.drop off).take (len * inf.size))) D := ⟨c2, by rw [c1]; exact hD⟩
        refine app_main c ho hc ht hu hi hzi hzs hdu hni hs ha hxv hF (by rw [c3]; exact hsrc.len) (fun w' hw => ?_) hg hn
        rw [c3]
        have := hsrc.cells _ (Nat.le_refl _) w' hw
        have e1 : D.size = len * inf.size := by rw [hF.size, c3]
        rwa [← e1, Array.extract_size] at this
    · exact hv.elim
  · exact hv.elim

/-- A call of a function of the program. -/
theorem call_main {o : Oper} {f : FuncId} {a : Act} {w : World} {args : Array Value} (hrun : (execOp a.eval o).run P w = .ok (.enter f args) w) {κ : Im} {st : St} (hs : StR G w κ st) {vs : List AV} (hsz : args.size = vs.length)
    (hvs : ∀ (j : Nat) x c, vs[j]? = some x → args[j]? = some c → VR w κ x c) {K : AV → St → Prop} (hg : CallGoal P G f vs st K) {next : Act → World → Prop} {Qc : Exit → Act → World → Prop}
    (hn : ∀ x v st' κ' w', K x st' → VR w' κ' x v → StR G w' κ' st' → Stp (own st) w κ w' κ' → Mine (own st) w (own st') → next (a.put o.dst v) w') : o.wp P a w next Qc := by
  obtain ⟨R, st₁, st₂, hperm, hA, hK⟩ := hg.out
  have hpo : (own st).Perm (own st₁ ++ own st₂) := by rw [← own_app]; exact hperm.filterMap _
  have hs' : StR G w κ (st₁ ++ st₂) := ⟨hs.glob, fun s hm => hs.seg s (hperm.symm.subset hm), (hperm.filterMap _).nodup_iff.1 hs.nodup, hs.lt⟩
  have hs1 : StR G w κ st₁ := hs'.drop (List.sublist_append_left ..)
  have hnd := hs'.nodup
  rw [own_app] at hnd
  have hdisj := (List.nodup_append.1 hnd).2.2
  unfold Oper.wp
  rw [hrun]
  refine (hA w κ args hsz hvs hs1).mono ?_
  rintro e w' ⟨r, cr, st', κ', rfl, hR, hvr, hst', hstp, hmine⟩
  refine hn r cr (st' ++ st₂) κ' w' (hK r st' hR) hvr ⟨hst'.glob, fun s hm => ?_, ?_, hst'.lt⟩ (hstp.mono fun b hb => hpo.symm.subset (by simp [hb])) ?_
  · rcases List.mem_append.1 hm with q | q
    · exact hst'.seg s q
    · refine (hs'.seg s (by simp [q])).keep hstp.ext fun b hb => ?_
      have hb2 : b ∈ own st₂ := List.mem_filterMap.2 ⟨s, q, hb⟩
      have hlt : b < w.heap.size := hs'.own_lt b (by rw [own_app]; simp [hb2])
      have hnb : b ∉ own st₁ := fun h1 => hdisj b h1 b hb2 rfl
      exact ⟨hstp.block b hlt hnb, fun o ho => hstp.im b o ho hlt hnb⟩
  · rw [own_app]
    refine List.nodup_append.2 ⟨hst'.nodup, (List.nodup_append.1 hnd).2.1, fun b h1 b' h2 e => ?_⟩
    subst e
    rcases hmine b h1 with q | q
    · exact hdisj b q b h2 rfl
    · have := hs'.own_lt b (by rw [own_app]; simp [h2]); omega
  · intro b hb
    rw [own_app] at hb
    rcases List.mem_append.1 hb with q | q
    · exact (hmine b q).imp (fun h => hpo.symm.subset (by simp [h])) id
    · exact .inl (hpo.symm.subset (by simp [q]))

theorem evs_spec {fr : Fr} : ∀ {ys : List Y} {vs : List AV}, evs fr ys = some vs → vs.length = ys.length ∧ ∀ (j : Nat) x, vs[j]? = some x → ∃ y, ys[j]? = some y ∧ fr.at y = some x
  | [], vs, h => by simp [evs] at h; subst h; simp
  | y :: r, vs, h => by
    unfold evs at h
    split at h
    · rename_i x xs hx hxs
      cases h
      obtain ⟨h1, h2⟩ := evs_spec hxs
      refine ⟨by simp [h1], fun j z hz => ?_⟩
      cases j with
      | zero => simp at hz; subst hz; exact ⟨y, by simp, hx⟩
      | succ j => simpa using h2 j z (by simpa using hz)
    · cases h

theorem run_enter {f : FuncId} {fn : Func} (hf : P.funcs[f]? = some fn) (hn : (fn.name == "runtime.NumGoroutine") = false) (hb : fn.body.isNone = false) (args : Array Value) (w : World) : (callFunc f args).run P w = .ok (.enter f args) w := by
  have hb' : (fn.body.isNone = true) = False := by rw [hb]; simp
  simp only [callFunc, Sem.run_bind, run_program, Result.andThen_ok, hf, hn, Bool.false_eq_true, if_false, hb', Sem.run_pure]

theorem eff_call {o : Oper} {f : FuncId} {fn : Func} {ys : List Y} (c : Call) (ho : o.op = .call c) (hc : c.callee = .value (.func f)) (hl : ys.length = c.args.size) (hy : ∀ (j : Nat) x, c.args[j]? = some x → ∃ y, ys[j]? = some y ∧ Is G y x)
    (hf' : P.funcs[f]? = some fn) (hnm : (fn.name == "runtime.NumGoroutine") = false) (hb : fn.body.isNone = false) : Eff P G (.call f ys) o := by
  intro N fr st K a w κ next Qc hf hs hv hn
  obtain ⟨vs, hvs, hg⟩ := withAVs_elim hv
  obtain ⟨h1, h2⟩ := evs_spec hvs
  have hrun : (execOp a.eval o).run P w = .ok (.enter f (c.args.map a.eval)) w := by
    simp [execOp, ho, resolve, hc, eval_fn, Deferred.ofValue, invoke, run_enter hf' hnm hb]
  refine call_main hrun hs (by simp [h1, hl]) (fun j x cc hx hcc => ?_) hg hn
  obtain ⟨y, q1, q2⟩ := h2 j x hx
  simp at hcc
  obtain ⟨oo, q3, rfl⟩ := hcc
  obtain ⟨y', q4, q5⟩ := hy j oo q3
  rw [q1] at q4; cases q4
  exact at_of hf hs q5 q2

theorem eff_callv {o : Oper} {t : Tmp} {ys : List Y} (c : Call) (ho : o.op = .call c) (hc : c.callee = .value (.tmp t)) (hl : ys.length = c.args.size) (hy : ∀ (j : Nat) x, c.args[j]? = some x → ∃ y, ys[j]? = some y ∧ Is G y x) :
    Eff P G (.callv (.t t) ys) o := by
  intro N fr st K a w κ next Qc hf hs hv hn
  have hargs : ∀ {vs : List AV}, evs fr ys = some vs → vs.length = (c.args.map a.eval).size ∧ ∀ (j : Nat) x cc, vs[j]? = some x → (c.args.map a.eval)[j]? = some cc → VR w κ x cc := by
    intro vs hvs
    obtain ⟨h1, h2⟩ := evs_spec hvs
    refine ⟨by simp [h1, hl], fun j x cc hx hcc => ?_⟩
    obtain ⟨y, q1, q2⟩ := h2 j x hx
    simp at hcc
    obtain ⟨oo, q3, rfl⟩ := hcc
    obtain ⟨y', q4, q5⟩ := hy j oo q3
    rw [q1] at q4; cases q4
    exact at_of hf hs q5 q2
  simp only [vcK] at hv
  split at hv
  · rename_i f caps hx
    obtain ⟨⟨fn, e1, e2, e3⟩, hv⟩ := hv
    obtain ⟨vs, hvs, hg⟩ := withAVs_elim hv
    obtain ⟨hz, hr⟩ := hargs hvs
    have hA := hf.slot t _ hx
    generalize hcv : a.tmps.getD t undef = cv at hA
    cases hA with
    | fn f caps cs hl' hv' =>
      have hev : a.eval (.tmp t) = .func (.func f) #[] cs := hcv
      have hrun : (execOp a.eval o).run P w = .ok (.enter f (c.args.map a.eval ++ cs)) w := by
        simp [execOp, ho, resolve, hc, hev, Deferred.ofValue, invoke, run_enter e1 e2 e3]
      refine call_main hrun hs (by rw [Array.size_append, List.length_append, hz, hl']) (fun j x cc hx hcc => ?_) hg hn
      rw [Array.getElem?_append] at hcc
      by_cases hj : j < vs.length
      · rw [List.getElem?_append_left hj] at hx
        rw [if_pos (by omega)] at hcc
        exact hr j x cc hx hcc
      · rw [List.getElem?_append_right (by omega)] at hx
        rw [if_neg (by omega), ← hz] at hcc
        exact hv' _ x cc hx hcc
  · exact hv.elim
end Go.Eng
