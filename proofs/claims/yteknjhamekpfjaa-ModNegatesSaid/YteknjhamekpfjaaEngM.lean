/- The engine, part M: what is read off a program's operation holds of it. -/
import Derived.Test.YteknjhamekpfjaaEngL
set_option linter.unusedVariables false
set_option linter.unusedSimpArgs false
namespace Go.Eng
open Go.RowKit

variable {P : Program} {G : Nat → AV}

/-- An operation is as it is seen. -/
def OkK (P : Program) (G : Nat → AV) (k : AK) (o : Oper) : Prop := Eff P G k o ∧ (k.calm = true → Calm P G k o)
theorem OkK.calm {k : AK} {o : Oper} (h : Calm P G k o) : OkK P G k o := ⟨h.eff, fun _ => h⟩
theorem OkK.eff {k : AK} {o : Oper} (h : Eff P G k o) (hc : k.calm = false) : OkK P G k o := ⟨h, fun q => by rw [hc] at q; cases q⟩

theorem is_map {o : Option Operand} : (∀ y, o.map (Y.of G []) = some y → ∃ x, o = some x ∧ Is G y x) ∧ (o.map (Y.of G []) = none → o = none) := by
  cases o with
  | none => simp
  | some x => exact ⟨fun y h => ⟨x, rfl, by simp at h; subst h; exact .of _ _ _⟩, by simp⟩

theorem ofTs_one {ts : List TypeId} {l : List Operand} {y : Y} (h : Y.ofTs P G ts l = [y]) : ∃ x, l = [x] ∧ Is G y x := by
  have hl := ofTs_length P G ts l
  rw [h] at hl
  match l, hl with
  | [x], _ =>
    obtain ⟨y', h1, h2⟩ := Is.ofTs P G ts [x] 0 x rfl
    rw [h] at h1; simp at h1; subst h1
    exact ⟨x, rfl, h2⟩
theorem ofTs_two {ts : List TypeId} {l : List Operand} {y z : Y} (h : Y.ofTs P G ts l = [y, z]) : ∃ x u, l = [x, u] ∧ Is G y x ∧ Is G z u := by
  have hl := ofTs_length P G ts l
  rw [h] at hl
  match l, hl with
  | [x, u], _ =>
    obtain ⟨y', h1, h2⟩ := Is.ofTs P G ts [x, u] 0 x rfl
    obtain ⟨z', h3, h4⟩ := Is.ofTs P G ts [x, u] 1 u rfl
    rw [h] at h1 h3; simp at h1 h3; subst h1 h3
    exact ⟨x, u, rfl, h2, h4⟩
theorem ofTs_three {ts : List TypeId} {l : List Operand} {y z q : Y} (h : Y.ofTs P G ts l = [y, z, q]) : ∃ x u v, l = [x, u, v] ∧ Is G y x ∧ Is G z u ∧ Is G q v := by
  have hl := ofTs_length P G ts l
  rw [h] at hl
  match l, hl with
  | [x, u, v], _ =>
    obtain ⟨y', h1, h2⟩ := Is.ofTs P G ts [x, u, v] 0 x rfl
    obtain ⟨z', h3, h4⟩ := Is.ofTs P G ts [x, u, v] 1 u rfl
    obtain ⟨q', h5, h6⟩ := Is.ofTs P G ts [x, u, v] 2 v rfl
    rw [h] at h1 h3 h5; simp at h1 h3 h5; subst h1 h3 h5
    exact ⟨x, u, v, rfl, h2, h4, h6⟩
theorem arr_of_list {α : Type} {a : Array α} {l : List α} (h : a.toList = l) : a = l.toArray := by rw [← h]

theorem absCall_ok {hs : List Nat} {dst : Option Nat} {c : Call} {k : AK} {o : Oper} (ho : o.op = .call c) (h : absCall P G hs dst c = some k) : OkK P G k o := by
  unfold absCall at h
  simp only at h
  split at h
  · rename_i f hc
    split at h
    · cases h
    · rename_i fn hfn
      split at h
      · cases h
      · rename_i hnm
        split at h
        · rename_i hb
          split at h
          · cases h
          · rename_i hor
            have hor' : fn.origin = "" := by simpa using hor
            split at h
            · rename_i hn
              split at h
              · rename_i x y z hxs
                cases h
                obtain ⟨a1, a2, a3, hl, i1, i2, i3⟩ := ofTs_three hxs
                exact .calm (calm_carry i1 i2 i3 c ho hc (arr_of_list hl) hfn hb hor' (by simpa using hn))
              · cases h
            · split at h
              · rename_i hn
                split at h
                · rename_i x y z hxs
                  cases h
                  obtain ⟨a1, a2, a3, hl, i1, i2, i3⟩ := ofTs_three hxs
                  exact .calm (calm_carry i1 i2 i3 c ho hc (arr_of_list hl) hfn hb hor' (by simpa using hn))
                · cases h
              · cases h
        · rename_i hb
          cases h
          refine .eff (eff_call c ho hc (by rw [ofTs_length]; simp) (fun j x hx => Is.ofTs P G _ _ j x (by simpa using hx)) hfn (by simpa using hnm) (by cases hbb : fn.body.isNone with | true => exact absurd hbb hb | false => rfl)) rfl
  · rename_i t hc
    cases h
    exact .eff (eff_callv c ho hc (by rw [ofTs_length]; simp) (fun j x hx => Is.ofTs P G _ _ j x (by simpa using hx))) rfl
  · rename_i hc
    split at h
    · rename_i x t hxs hts
      obtain ⟨a1, hl, i1⟩ := ofTs_one hxs
      split at h
      · rename_i e hu
        cases h
        exact .calm (calm_len i1 c ho hc (arr_of_list hl) (arr_of_list hts) hu)
      · rename_i hu
        cases h
        exact .calm (calm_slen i1 c ho hc (arr_of_list hl) (arr_of_list hts) hu)
      · rename_i n e hu
        cases h
        exact .calm (calm_lenc c ho hc (arr_of_list hl) (arr_of_list hts) (.inl ⟨e, hu⟩))
      · rename_i a hu
        split at h
        · rename_i n e hu'
          cases h
          exact .calm (calm_lenc c ho hc (arr_of_list hl) (arr_of_list hts) (.inr ⟨a, e, hu, hu'⟩))
        · cases h
      · cases h
    · cases h
  · rename_i hc
    split at h
    · rename_i x y hxs
      obtain ⟨a1, a2, hl, i1, i2⟩ := ofTs_two hxs
      cases h
      exact .calm (calm_mm (mx := false) i1 i2 c ho hc (arr_of_list hl))
    · cases h
  · rename_i hc
    split at h
    · rename_i x y hxs
      obtain ⟨a1, a2, hl, i1, i2⟩ := ofTs_two hxs
      cases h
      exact .calm (calm_mm (mx := true) i1 i2 c ho hc (arr_of_list hl))
    · cases h
  · rename_i hc
    split at h
    · rename_i x y t u hxs hts
      obtain ⟨a1, a2, hl, i1, i2⟩ := ofTs_two hxs
      split at h
      · rename_i e e' hu hu'
        split at h
        · rename_i i z hi hz
          split at h
          · rename_i hzl
            cases h
            exact .eff (eff_app i1 i2 c ho hc (arr_of_list hl) (arr_of_list hts) hu hi hz hzl hu' (.inl ⟨e', rfl⟩)) rfl
          · cases h
        · cases h
      · rename_i e hu hu'
        split at h
        · rename_i i z hi hz
          split at h
          · rename_i hzl
            cases h
            exact .eff (eff_app i1 i2 c ho hc (arr_of_list hl) (arr_of_list hts) hu hi hz hzl.1 hu' (.inr ⟨rfl, hzl.2⟩)) rfl
          · cases h
        · cases h
      · cases h
    · cases h
  · rename_i hc
    split at h
    · rename_i x y t u hxs hts
      obtain ⟨a1, a2, hl, i1, i2⟩ := ofTs_two hxs
      split at h
      · rename_i e hu
        split at h
        · rename_i hi
          cases h
          obtain ⟨i, hi⟩ := Option.isSome_iff_exists.1 hi
          exact .eff (eff_copy i1 i2 c ho hc (arr_of_list hl) (arr_of_list hts) hu hi) rfl
        · cases h
      · cases h
    · cases h
  · cases h

theorem okT_info {t : TypeId} (h : ¬ (!okT P t) = true) : okT P t = true ∧ ∃ i, P.info? t = some i := by
  have h' : okT P t = true := by simpa using h
  obtain ⟨i, d, hi, _⟩ := okT_spec h'
  exact ⟨h', i, hi⟩

theorem absEq_ok {neg : Bool} {t u : TypeId} {x y : Operand} {k : AK} {o : Oper} (ho : o.op = .binOp (if neg then .neq else .eql) t x y u) (h : absEq P G neg t x y = some k) : OkK P G k o := by
  unfold absEq at h
  split at h
  · rename_i e hu
    split at h
    · rename_i l c; cases h; exact .calm (calm_isnil_sl (.of _ _ _) ho hu)
    · cases h
  · rename_i e hu
    split at h
    · cases h; exact .calm (calm_isnil_ptr (.of _ _ _) ho hu)
    · cases h
  · rename_i hu; cases h; exact .calm (calm_eqb (.of _ _ _) (.of _ _ _) ho hu)
  · split at h
    · rename_i hc
      simp only [Bool.and_eq_true, Bool.not_eq_true'] at hc
      obtain ⟨ls, hl, rfl⟩ := Option.map_eq_some_iff.1 h
      exact .calm (calm_eqc (.of _ _ _) (.of _ _ _) ho hc.1.1 hc.1.2 hc.2 hl)
    · cases h

theorem absBin_ok {op : BinOp} {t u : TypeId} {x y : Operand} {k : AK} {o : Oper} (ho : o.op = .binOp op t x y u) (h : absBin P G op t x y = some k) : OkK P G k o := by
  unfold absBin at h
  split at h
  · split at h
    · rename_i hs; cases h; exact .calm (calm_shf (.of _ _ _) (.of _ _ _) ho hs)
    · rename_i hs; cases h; exact .calm (calm_bin (.of _ _ _) (.of _ _ _) ho (fun e => hs (.inl e)) (fun e => hs (.inr e)))
  · split at h
    · cases h
    · rename_i hs; cases h; exact .calm (calm_sbin (.of _ _ _) (.of _ _ _) ho (fun e => hs (.inl e)) (fun e => hs (.inr e)))
  · split at h
    · exact absEq_ok (neg := false) ho h
    · exact absEq_ok (neg := true) ho h
    · cases h

theorem absK_ok {hs : List Nat} {tag : Nat} {o : Oper} {k : AK} (h : absK P G hs tag o = some k) : OkK P G k o := by
  unfold absK at h
  simp only at h
  split at h
  · rename_i x ho; cases h; exact .calm (calm_mv (.ofT _ _ _ _) (.inl ho))
  · rename_i x ho; cases h; exact .calm (calm_mv (.ofT _ _ _ _) (.inr ho))
  · rename_i c a b ho; cases h; exact .calm (calm_pick (.of _ _ _) (.ofT _ _ _ _) (.ofT _ _ _ _) ho)
  · rename_i e ho; obtain ⟨z, hz, rfl⟩ := Option.map_eq_some_iff.1 h; exact .eff (eff_alloc ho hz) rfl
  · rename_i e x ho; cases h; exact .eff (eff_box (.ofT _ _ _ _) ho) rfl
  · rename_i t parts ho
    split at h
    · rename_i fs z hu hz
      split at h
      · rename_i hinf
        obtain ⟨l, hl, rfl⟩ := Option.map_eq_some_iff.1 h
        exact .calm (calm_build ho hz (.inl ⟨fs, hu, hinf, hl⟩))
      · cases h
    · rename_i n e z hu hz
      split at h
      · rename_i hinf
        obtain ⟨l, hl, rfl⟩ := Option.map_eq_some_iff.1 h
        exact .calm (calm_build ho hz (.inr ⟨n, e, hu, hinf, hl⟩))
      · cases h
    · cases h
  · rename_i t len parts ho
    split at h
    · rename_i e hu
      split at h
      · rename_i z hz
        split at h
        · rename_i hc
          simp only [Bool.and_eq_true, decide_eq_true_eq, beq_iff_eq, bne_iff_ne] at hc
          obtain ⟨l, hl, rfl⟩ := Option.map_eq_some_iff.1 h
          exact .eff (eff_bsl ho hu hz hc.1.1 hc.1.2 hc.2 hl) rfl
        · cases h
      · cases h
    · cases h
  · rename_i t a ho
    split at h
    · cases h
    · rename_i hok; cases h; exact .calm (calm_load (.of _ _ _) ho (okT_info hok).1)
  · rename_i t a x ho
    split at h
    · cases h
    · rename_i hok; cases h; exact .eff (eff_store (.of _ _ _) (.ofT _ _ _ _) ho (okT_info hok).1) rfl
  · rename_i x ho; cases h; exact .calm (calm_nck (.of _ _ _) ho)
  · rename_i op t x y u ho; exact absBin_ok ho h
  · rename_i op t x ho; cases h; exact .calm (calm_un (.of _ _ _) ho)
  · rename_i s d x ho
    split at h
    · rename_i k1 k2 h1 h2; cases h; exact .calm (calm_cvt (.of _ _ _) ho h1 h2)
    · rename_i e h1 h2
      split at h
      · rename_i h3; cases h; exact .eff (eff_s2b (.of _ _ _) ho h1 h2 h3) rfl
      · cases h
    · rename_i e h1 h2
      split at h
      · rename_i h3; cases h; exact .calm (calm_b2s (.of _ _ _) ho h1 h2 h3)
      · cases h
    · cases h
  · rename_i f first caps ho
    split at h
    · rename_i hfi
      cases h
      refine .calm (calm_mkfn ho (by simpa using hfi) (by simp) (fun j y c hy hc => ?_))
      simp at hy
      obtain ⟨c', hc', rfl⟩ := hy
      rw [hc] at hc'; cases hc'
      exact .of _ _ _
    · cases h
  · rename_i t l c ho
    split at h
    · rename_i e hu
      split at h
      · rename_i i z hi hz
        split at h
        · rename_i hzl; cases h; exact .eff (eff_mks (.of _ _ _) (.of _ _ _) ho hu hi hz (by simpa using hzl)) rfl
        · cases h
      · cases h
    · cases h
  · rename_i t x lo hi ho
    split at h
    · rename_i e hu
      split at h
      · cases h
      · rename_i hok
        obtain ⟨_, i, hi'⟩ := okT_info hok
        cases h
        exact .calm (calm_slice (.of _ _ _) ho is_map.1 is_map.1 is_map.2 is_map.2 hu hi')
    · rename_i hu; cases h; exact .calm (calm_sslice (.of _ _ _) ho is_map.1 is_map.1 is_map.2 is_map.2 hu)
    · rename_i n e hu
      split at h
      · cases h
      · rename_i hok
        obtain ⟨_, i, hi'⟩ := okT_info hok
        cases h
        exact .calm (calm_sliceP (.of _ _ _) ho is_map.1 is_map.1 is_map.2 is_map.2 hu hi')
    · cases h
  · rename_i t x lo hi m ho
    split at h
    · rename_i e hu
      split at h
      · cases h
      · rename_i hok
        simp only [Bool.not_eq_true', Bool.not_eq_false, Bool.and_eq_true] at hok
        obtain ⟨i, d, hi', _⟩ := okT_spec hok.1
        cases h
        exact .calm (calm_slice3 (.of _ _ _) (.of _ _ _) ho is_map.1 is_map.1 is_map.2 hok.2 is_map.2 hu hi')
    · cases h
  · rename_i s x f ho
    split at h
    · rename_i fs hu
      split at h
      · rename_i fl hfl
        split at h
        · cases h
        · rename_i hc; cases h; exact .calm (calm_fldA (.of _ _ _) ho hu hfl hc)
      · cases h
    · cases h
  · rename_i t x f ho
    split at h
    · rename_i fs hu
      split at h
      · rename_i fl hfl
        split at h
        · cases h
        · rename_i hok; cases h; exact .calm (calm_fld (.of _ _ _) ho hu hfl (okT_info hok).1)
      · cases h
    · cases h
  · rename_i t x i ho
    split at h
    · rename_i e hu
      split at h
      · cases h
      · rename_i hok
        obtain ⟨_, inf, hi'⟩ := okT_info hok
        cases h; exact .calm (calm_idxA (.of _ _ _) (.of _ _ _) ho hu hi')
    · rename_i n e hu
      split at h
      · cases h
      · rename_i hok
        obtain ⟨_, inf, hi'⟩ := okT_info hok
        cases h; exact .calm (calm_idxP (.of _ _ _) (.of _ _ _) ho hu hi')
    · cases h
  · rename_i t x i ho
    split at h
    · rename_i hu; cases h; exact .calm (calm_idxS (.of _ _ _) (.of _ _ _) ho hu)
    · rename_i n e hu
      split at h
      · cases h
      · rename_i hok; cases h; exact .calm (calm_idxG (.of _ _ _) (.of _ _ _) ho hu (okT_info hok).1)
    · cases h
  · rename_i x i ho; cases h; exact .calm (calm_ext (.of _ _ _) ho)
  · rename_i c ho; exact absCall_ok ho h
  · cases h
end Go.Eng
